/- Parts of a proof, in build order: P0, Zh, Zi, Zj, Zk, Zl, P1. -/
import Derived.Test.YtbjhjbjjfbmoeaaGreatDoorKo3

/- Data and product of the reference. -/
namespace Go.Proofs.YtbjhjbjjfbmoeaaGreatDoor
open Go.RowKit

theorem refData_any (ao : Option Addr) (xs : List Int) (cap : Nat) (w : World) (hc : Cells w ao (xs.map (Value.int .i64))) (hl : xs.length ≤ 9223372036854775807) :
    Calls Tryz.prog 83 #[.slice ao xs.length cap] w fun e w' => e = .returned (.bool (dataOK xs)) ∧ Below w.heap.size w w' := by
  have HC := Lib.hid hc; clear hc
  go_enter Tryz.func83, Tryz.ntmps83
  go_wp2
  go_loopw [3] (fun i wr => ∃ k : Nat, k ≤ xs.length ∧ i = .int .i64 (k : Int) ∧ (xs.take k).all (fun n => inB (-32768) n 32768) = true ∧ Below w.heap.size w wr) (fun i _ => xs.length - (intOf i).toNat)
  case atStart => exact ⟨0, Nat.zero_le _, rfl, rfl, Below.refl _ _⟩
  case round =>
    obtain ⟨k, hk, rfl, hall, hb⟩ := hrel
    have HA := Lib.hid hall; clear hall
    by_cases hlt : k < xs.length
    · obtain ⟨x, hx⟩ := get_of_lt hlt
      obtain ⟨b, off, rfl⟩ := HC.out.addr (by simpa using List.ne_nil_of_length_pos (by omega))
      have hcx := cell_keep (HC.out.int hx) hb (Nat.le_refl _)
      have hin := fun w => rin_any x (-32768) 32768 w
      have i1 : (k : Int) < xs.length := by omega
      have i2 : (0 : Int) ≤ k := by omega
      cases hi : inB (-32768) x 32768
      · have hno : dataOK xs = false := by
          unfold dataOK
          rw [Bool.and_eq_false_iff]; right
          rw [List.all_eq_false]
          exact ⟨x, List.mem_of_getElem? hx, by rw [hi]; decide⟩
        rw [hi] at hin
        have HIN := Lib.hid hin; have HNO := Lib.hid hno
        clear hin hno hx hi
        go_wp2_with (go_at_call 42; refine (HIN.out _).mono ?_; rintro e w' ⟨rfl, rfl⟩)
        go_ret
        exact ⟨ret_bool HNO.out.symm, hb⟩
      · have hal : (xs.take (k + 1)).all (fun n => inB (-32768) n 32768) = true := by
          rw [take_get hx, List.all_append, HA.out]; simp [hi]
        rw [hi] at hin
        have HIN := Lib.hid hin; have HAL := Lib.hid hal
        clear hin hal hx hi
        go_wp2_with (go_at_call 42; refine (HIN.out _).mono ?_; rintro e w' ⟨rfl, rfl⟩)
        go_roundw
        case rel => exact ⟨k + 1, by omega, by go_num, HAL.out, hb⟩
        case measure => simp [intOf]; omega
    · obtain rfl : k = xs.length := by omega
      have hd : dataOK xs = decide ((xs.length : Int) ≤ 512) := by
        have := HA.out
        rw [List.take_length] at this
        unfold dataOK
        rw [this, Bool.and_true]
        congr 1
        exact propext (by omega)
      have HD := Lib.hid hd; clear hd
      go_wp2
      go_ret
      exact ⟨by rw [HD.out]; rfl, hb⟩

/-- the sum of the products of two lists -/
def prS (us vs : List Int) : Nat → Int
  | 0 => 0
  | n + 1 => prS us vs n + us.getD n 0 * vs.getD n 0
theorem prd_bd {x y : Int} (h1 : -127 ≤ x) (h2 : x ≤ 127) (h3 : -32768 ≤ y) (h4 : y ≤ 32768) : -4161536 ≤ x * y ∧ x * y ≤ 4161536 := by
  have a1 := Int.mul_nonneg (show 0 ≤ 127 - x by omega) (show 0 ≤ 32768 - y by omega)
  have a2 := Int.mul_nonneg (show 0 ≤ 127 + x by omega) (show 0 ≤ 32768 - y by omega)
  have a3 := Int.mul_nonneg (show 0 ≤ 127 - x by omega) (show 0 ≤ 32768 + y by omega)
  have a4 := Int.mul_nonneg (show 0 ≤ 127 + x by omega) (show 0 ≤ 32768 + y by omega)
  rw [Int.mul_sub, Int.sub_mul, Int.sub_mul] at a1
  rw [Int.mul_sub, Int.add_mul, Int.add_mul] at a2
  rw [Int.mul_add, Int.sub_mul, Int.sub_mul] at a3
  rw [Int.mul_add, Int.add_mul, Int.add_mul] at a4
  omega
theorem prS_bd {us vs : List Int} (h1 : ∀ x ∈ us, -127 ≤ x ∧ x ≤ 127) (h2 : ∀ x ∈ vs, -32768 ≤ x ∧ x ≤ 32768) (n : Nat) : -(4161536 * (n : Int)) ≤ prS us vs n ∧ prS us vs n ≤ 4161536 * (n : Int) := by
  induction n with
  | zero => simp [prS]
  | succ n ih =>
    have g1 := getD_in (by omega) h1 n
    have g2 := getD_in (by omega) h2 n
    have := prd_bd g1.1 g1.2 g2.1 g2.2
    simp only [prS]; omega

set_option maxRecDepth 100000 in
set_option maxHeartbeats 2000000 in
theorem refProduct_any (us vs : List Int) (ao : Option Addr) (ca : Nat) (bo : Option Addr) (cb : Nat) (w : World) (hn : vs.length = us.length) (hL : us.length ≤ 64) (h1 : ∀ x ∈ us, -127 ≤ x ∧ x ≤ 127) (h2 : ∀ x ∈ vs, -32768 ≤ x ∧ x ≤ 32768)
    (hc : Cells w ao (us.map (Value.int .i64))) (hd : Cells w bo (vs.map (Value.int .i64))) :
    Calls Tryz.prog 85 #[.slice ao us.length ca, .slice bo us.length cb] w fun e w' => e = .returned (.int .i64 (prS us vs us.length)) ∧ Below w.heap.size w w' := by
  have HC := Lib.hid hc; have HDD := Lib.hid hd; have H1 := Lib.hid h1; have H2 := Lib.hid h2
  clear hc hd h1 h2
  go_enter Tryz.func85, Tryz.ntmps85
  go_wp2
  go_loopw [5, 6] (fun s i wr => ∃ k : Nat, k ≤ us.length ∧ i = .int .i64 (k : Int) ∧ s = .int .i64 (prS us vs k) ∧ Below w.heap.size w wr) (fun _ i _ => us.length - (intOf i).toNat)
  case atStart => exact ⟨0, Nat.zero_le _, rfl, rfl, Below.refl _ _⟩
  case round =>
    obtain ⟨k, hk, rfl, rfl, hb⟩ := hrel
    by_cases hlt : k < us.length
    · obtain ⟨x, hx⟩ := get_of_lt hlt
      obtain ⟨y, hy⟩ := get_of_lt (show k < vs.length by omega)
      obtain ⟨b, off, rfl⟩ := HC.out.addr (by simpa using List.ne_nil_of_length_pos (by omega))
      obtain ⟨b2, off2, rfl⟩ := HDD.out.addr (by simpa using List.ne_nil_of_length_pos (by omega))
      have hcx := cell_keep (HC.out.int hx) hb (Nat.le_refl _)
      have hcy := cell_keep (HDD.out.int hy) hb (Nat.le_refl _)
      have m1 := H1.out x (List.mem_of_getElem? hx)
      have m2 := H2.out y (List.mem_of_getElem? hy)
      have pd := prd_bd m1.1 m1.2 m2.1 m2.2
      have bs := prS_bd H1.out H2.out k
      have e1 : prS us vs (k + 1) = prS us vs k + x * y := by simp [prS, hx, hy]
      have E1 := Lib.hid e1; clear e1 hx hy
      have q1 : IntKind.i64.wrap (x * y) = x * y := IntWalk.i64_in _ (by omega)
      have q2 : IntKind.i64.wrap (prS us vs k + x * y) = prS us vs k + x * y := IntWalk.i64_in _ (by omega)
      have i1 : (k : Int) < us.length := by omega
      have i2 : (0 : Int) ≤ k := by omega
      go_wp2
      go_quiet (fail)
      clear q1 q2
      go_wp2
      go_roundw
      case rel => exact ⟨k + 1, by omega, by go_num, by rw [E1.out], bel_drewN hb _⟩
      case measure => simp [intOf]; omega
    · obtain rfl : k = us.length := by omega
      go_wp2
      go_ret
      exact ⟨rfl, hb⟩

theorem prS_dot (xs ds : List Int) (t a k : Nat) : ∀ n, n ≤ k → prS ((xs.drop a).take k) ((ds.drop (t + a)).take k) n = dotTo xs ds t a n := by
  intro n
  induction n with
  | zero => intro _; rfl
  | succ n ih =>
    intro hn
    simp only [prS, dotTo, ih (by omega)]
    congr 2
    · rw [List.getD_eq_getElem?_getD, List.getElem?_take, if_pos (by omega), List.getElem?_drop, List.getD_eq_getElem?_getD]
    · rw [List.getD_eq_getElem?_getD, List.getElem?_take, if_pos (by omega), List.getElem?_drop, List.getD_eq_getElem?_getD, Nat.add_assoc]
theorem prS_sq (xs : List Int) (a k : Nat) : ∀ n, n ≤ k → prS ((xs.drop a).take k) ((xs.drop a).take k) n = sqTo xs a n := by
  intro n
  induction n with
  | zero => intro _; rfl
  | succ n ih =>
    intro hn
    simp only [prS, sqTo, ih (by omega)]
    congr 2 <;> rw [List.getD_eq_getElem?_getD, List.getElem?_take, if_pos (by omega), List.getElem?_drop, List.getD_eq_getElem?_getD]
end Go.Proofs.YtbjhjbjjfbmoeaaGreatDoor

/- The reference's whole numbers: the sum of two magnitudes. -/
namespace Go.Proofs.YtbjhjbjjfbmoeaaGreatDoor.Z4
open Go.RowKit

theorem more_step {la lb os : List Nat} {i x y o b b' : Nat} (hx : la.getD i 0 = x) (hy : lb.getD i 0 = y) (hl : os.length = i) (h : val (la.take i) + val (lb.take i) = val os + B ^ i * b) (he : b + x + y = o + B * b') :
    val (la.take (i + 1)) + val (lb.take (i + 1)) = val (os ++ [o]) + B ^ (i + 1) * b' := by
  rw [val_take_succ, val_take_succ, hx, hy, val_snoc, hl, Nat.pow_succ, Nat.mul_assoc]
  have h2 : B ^ i * b + B ^ i * x + B ^ i * y = B ^ i * o + B ^ i * (B * b') := by rw [← Nat.mul_add, ← Nat.mul_add, he, Nat.mul_add]
  omega

set_option maxRecDepth 100000 in
set_option maxHeartbeats 2000000 in
theorem more_any (va vb : Value) (m n : Nat) (w : World) (ha : MV w va m) (hbv : MV w vb n) (hl : (dig m).length ≤ 1099511627776) (hl2 : (dig n).length ≤ 1099511627776) :
    Calls Tryz.prog 189 #[va, vb] w fun e w' => (∃ g os c, e = .returned (.slice g os.length c) ∧ Cells w' g (zs os) ∧ Sm os ∧ val os = m + n ∧ os.length ≤ c ∧ c ≤ 9223372036854775807) ∧ Below w.heap.size w w' := by
  obtain ⟨i0, hi, hz0, hz1, hz2⟩ := info_parts Tryz.infoInt
  obtain ⟨aa, ca, rfl, ha, hac, hac2⟩ := ha
  obtain ⟨ab, cb, rfl, hb0, hbc, hbc2⟩ := hbv
  have HA := Lib.hid ha; have HB := Lib.hid hb0
  clear ha hb0
  obtain ⟨M, hM⟩ : ∃ M, M = max (dig m).length (dig n).length := ⟨_, rfl⟩
  go_enter Tryz.func189, Tryz.ntmps189
  go_wp2
  go_loopw [5, 6, 7] (fun ov bv iv wr => ∃ (i : Nat) (os : List Nat) (b : Nat), i ≤ M + 1 ∧ (i = M + 1 → b = 0) ∧ iv = .int .i64 i ∧ bv = .int .i64 b ∧ b ≤ 1 ∧ Sm os ∧ val ((dig m).take i) + val ((dig n).take i) = val os + B ^ i * b ∧ os.length = i ∧ wr.ownsRow w.heap.size 3 1 ov i (zs os) ∧ Below w.heap.size w wr) (fun _ _ iv _ => M + 1 - (intOf iv).toNat)
  case atStart => exact ⟨0, [], 0, Nat.zero_le _, fun _ => rfl, rfl, rfl, by omega, fun d hd => by simp at hd, by simp [val], rfl, World.ownsRow_nil _ _ _ _, Below.refl _ _⟩
  case round =>
    obtain ⟨i, os, b, hi9, hbz, rfl, rfl, hb1, hsm, heq, hol, hown, hb⟩ := hrel
    have hsz := hb.size
    have HOB : Hid (∀ j, u5.ownBlock = some j → w.heap.size ≤ j) := fun j e => (hown.lt j e).1
    have ein : IntKind.i64.wrap ((i : Int) + 1) = (i : Int) + 1 := IntWalk.i64_in _ (by omega)
    have HHEQ := Lib.hid heq; have HHSM := Lib.hid hsm; have HHOL := Lib.hid hol
    clear heq hsm hol
    have hB : B = 10000 := rfl
    by_cases hia : i < (dig m).length
    · obtain ⟨x, hx⟩ := get_of_lt hia
      obtain ⟨bia, offia, rfl⟩ := HA.out.addr (zs_ne (by omega))
      have cx := cell_keep (zcell HA.out hx) hb (Nat.le_refl _)
      have hxb := sm_get (sm_dig m) hx
      have hxd : (dig m).getD i 0 = x := by simp [List.getD, hx]
      have jia : (i : Int) < (dig m).length := by omega
      clear hx
      by_cases hib : i < (dig n).length
      · obtain ⟨y, hy⟩ := get_of_lt hib
        obtain ⟨bib, offib, rfl⟩ := HB.out.addr (zs_ne (by omega))
        have cy := cell_keep (zcell HB.out hy) hb (Nat.le_refl _)
        have hyb := sm_get (sm_dig n) hy
        have hyd : (dig n).getD i 0 = y := by simp [List.getD, hy]
        have jib : (i : Int) < (dig n).length := by omega
        clear hy
        obtain ⟨T1, hT1⟩ : ∃ T1, T1 = b + x := ⟨_, rfl⟩
        obtain ⟨T, hT⟩ : ∃ T, T = T1 + y := ⟨_, rfl⟩
        have e1 : IntKind.i64.wrap ((b : Int) + x) = (T1 : Int) := by rw [show (b : Int) + x = (T1 : Int) from by omega]; exact IntWalk.i64_in _ (by omega)
        have e2 : IntKind.i64.wrap ((T1 : Int) + y) = (T : Int) := by rw [show (T1 : Int) + y = (T : Int) from by omega]; exact IntWalk.i64_in _ (by omega)
        obtain ⟨o, ho⟩ : ∃ o, o = T % 10000 := ⟨_, rfl⟩
        obtain ⟨b', hb'⟩ : ∃ b', b' = T / 10000 := ⟨_, rfl⟩
        have e3 : (T : Int) % 10000 = (o : Int) := by omega
        have e4 : Int.tmod (T : Int) 10000 = (o : Int) := by rw [Int.tmod_eq_emod_of_nonneg (by omega)]; exact e3
        have e5 : (T : Int) / 10000 = (b' : Int) := by omega
        have e6 : Int.tdiv (T : Int) 10000 = (b' : Int) := by rw [Int.tdiv_eq_ediv_of_nonneg (by omega)]; exact e5
        have HEQ := Lib.hid (more_step (o := o) (b' := b') hxd hyd HHOL.out HHEQ.out (by rw [hB]; omega))
        have HSM := Lib.hid (sm_snoc (d := o) HHSM.out (by omega))
        have hob : o ≤ 9999 := by omega
        have hbb : b' ≤ 1 := by omega
        have hlast : i + 1 = M + 1 → b' = 0 := by omega
        have hiM : i ≤ M := by omega
        clear hxd hyd ho hb' hB hbz
        clear hT1 hT
        go_wp2_with (at_builtin; refine wpList_append_own _ rfl _ _ 24 rfl w.heap.size 3 i0 (.int .i64 0) 1 8 Tryz.underlying24 hi hz0 hz1 hz2 rfl (by decide) _ _ _ rfl (hown.alloc _) ⟨wr.heap.size, 0, none⟩ 1 1 [.int .i64 (o : Nat)] rfl rfl (news1 _ _ _) (by simp [Value.oneCell']) (by unfold maxLen; omega) (by omega) (by simp; omega) ?_; intro v1 wz hown1 hgrow _)
        have hfin := hown1
        rw [show zs os ++ [.int .i64 (o : Nat)] = zs (os ++ [o]) from by rw [zs_append]; rfl] at hfin
        have hbz := (hb.alloc hsz (.cells #[.int .i64 (o : Nat)] 3)).grown hgrow (by simp; omega) HOB.out
        clear hown1 hgrow hown
        have HFIN := Lib.hid hfin; clear hfin
        go_wp2
        go_roundw
        case rel => exact ⟨i + 1, os ++ [o], b', by omega, by omega, rfl, rfl, by omega, HSM.out, HEQ.out, by simpa using HHOL.out, by simpa using HFIN.out, hbz⟩
        case measure => simp [intOf]; omega
      · have hyd : (dig n).getD i 0 = 0 := by simp [List.getD, List.getElem?_eq_none (show (dig n).length ≤ i by omega)]
        have jib : ¬ (i : Int) < (dig n).length := by omega
        obtain ⟨T, hT⟩ : ∃ T, T = b + x := ⟨_, rfl⟩
        have e1 : IntKind.i64.wrap ((b : Int) + x) = (T : Int) := by rw [show (b : Int) + x = (T : Int) from by omega]; exact IntWalk.i64_in _ (by omega)
        obtain ⟨o, ho⟩ : ∃ o, o = T % 10000 := ⟨_, rfl⟩
        obtain ⟨b', hb'⟩ : ∃ b', b' = T / 10000 := ⟨_, rfl⟩
        have e3 : (T : Int) % 10000 = (o : Int) := by omega
        have e4 : Int.tmod (T : Int) 10000 = (o : Int) := by rw [Int.tmod_eq_emod_of_nonneg (by omega)]; exact e3
        have e5 : (T : Int) / 10000 = (b' : Int) := by omega
        have e6 : Int.tdiv (T : Int) 10000 = (b' : Int) := by rw [Int.tdiv_eq_ediv_of_nonneg (by omega)]; exact e5
        have HEQ := Lib.hid (more_step (o := o) (b' := b') hxd hyd HHOL.out HHEQ.out (by rw [hB]; omega))
        have HSM := Lib.hid (sm_snoc (d := o) HHSM.out (by omega))
        have hob : o ≤ 9999 := by omega
        have hbb : b' ≤ 1 := by omega
        have hlast : i + 1 = M + 1 → b' = 0 := by omega
        have hiM : i ≤ M := by omega
        clear hxd hyd ho hb' hB hbz
        clear hT
        go_wp2_with (at_builtin; refine wpList_append_own _ rfl _ _ 24 rfl w.heap.size 3 i0 (.int .i64 0) 1 8 Tryz.underlying24 hi hz0 hz1 hz2 rfl (by decide) _ _ _ rfl (hown.alloc _) ⟨wr.heap.size, 0, none⟩ 1 1 [.int .i64 (o : Nat)] rfl rfl (news1 _ _ _) (by simp [Value.oneCell']) (by unfold maxLen; omega) (by omega) (by simp; omega) ?_; intro v1 wz hown1 hgrow _)
        have hfin := hown1
        rw [show zs os ++ [.int .i64 (o : Nat)] = zs (os ++ [o]) from by rw [zs_append]; rfl] at hfin
        have hbz := (hb.alloc hsz (.cells #[.int .i64 (o : Nat)] 3)).grown hgrow (by simp; omega) HOB.out
        clear hown1 hgrow hown
        have HFIN := Lib.hid hfin; clear hfin
        go_wp2
        go_roundw
        case rel => exact ⟨i + 1, os ++ [o], b', by omega, by omega, rfl, rfl, by omega, HSM.out, HEQ.out, by simpa using HHOL.out, by simpa using HFIN.out, hbz⟩
        case measure => simp [intOf]; omega
    · have hxd : (dig m).getD i 0 = 0 := by simp [List.getD, List.getElem?_eq_none (show (dig m).length ≤ i by omega)]
      have jia : ¬ (i : Int) < (dig m).length := by omega
      by_cases hib : i < (dig n).length
      · obtain ⟨y, hy⟩ := get_of_lt hib
        obtain ⟨bib, offib, rfl⟩ := HB.out.addr (zs_ne (by omega))
        have cy := cell_keep (zcell HB.out hy) hb (Nat.le_refl _)
        have hyb := sm_get (sm_dig n) hy
        have hyd : (dig n).getD i 0 = y := by simp [List.getD, hy]
        have jib : (i : Int) < (dig n).length := by omega
        clear hy
        obtain ⟨T, hT⟩ : ∃ T, T = b + y := ⟨_, rfl⟩
        have e1 : IntKind.i64.wrap ((b : Int) + y) = (T : Int) := by rw [show (b : Int) + y = (T : Int) from by omega]; exact IntWalk.i64_in _ (by omega)
        obtain ⟨o, ho⟩ : ∃ o, o = T % 10000 := ⟨_, rfl⟩
        obtain ⟨b', hb'⟩ : ∃ b', b' = T / 10000 := ⟨_, rfl⟩
        have e3 : (T : Int) % 10000 = (o : Int) := by omega
        have e4 : Int.tmod (T : Int) 10000 = (o : Int) := by rw [Int.tmod_eq_emod_of_nonneg (by omega)]; exact e3
        have e5 : (T : Int) / 10000 = (b' : Int) := by omega
        have e6 : Int.tdiv (T : Int) 10000 = (b' : Int) := by rw [Int.tdiv_eq_ediv_of_nonneg (by omega)]; exact e5
        have HEQ := Lib.hid (more_step (o := o) (b' := b') hxd hyd HHOL.out HHEQ.out (by rw [hB]; omega))
        have HSM := Lib.hid (sm_snoc (d := o) HHSM.out (by omega))
        have hob : o ≤ 9999 := by omega
        have hbb : b' ≤ 1 := by omega
        have hlast : i + 1 = M + 1 → b' = 0 := by omega
        have hiM : i ≤ M := by omega
        clear hxd hyd ho hb' hB hbz
        clear hT
        go_wp2_with (at_builtin; refine wpList_append_own _ rfl _ _ 24 rfl w.heap.size 3 i0 (.int .i64 0) 1 8 Tryz.underlying24 hi hz0 hz1 hz2 rfl (by decide) _ _ _ rfl (hown.alloc _) ⟨wr.heap.size, 0, none⟩ 1 1 [.int .i64 (o : Nat)] rfl rfl (news1 _ _ _) (by simp [Value.oneCell']) (by unfold maxLen; omega) (by omega) (by simp; omega) ?_; intro v1 wz hown1 hgrow _)
        have hfin := hown1
        rw [show zs os ++ [.int .i64 (o : Nat)] = zs (os ++ [o]) from by rw [zs_append]; rfl] at hfin
        have hbz := (hb.alloc hsz (.cells #[.int .i64 (o : Nat)] 3)).grown hgrow (by simp; omega) HOB.out
        clear hown1 hgrow hown
        have HFIN := Lib.hid hfin; clear hfin
        go_wp2
        go_roundw
        case rel => exact ⟨i + 1, os ++ [o], b', by omega, by omega, rfl, rfl, by omega, HSM.out, HEQ.out, by simpa using HHOL.out, by simpa using HFIN.out, hbz⟩
        case measure => simp [intOf]; omega
      · have hyd : (dig n).getD i 0 = 0 := by simp [List.getD, List.getElem?_eq_none (show (dig n).length ≤ i by omega)]
        have jib : ¬ (i : Int) < (dig n).length := by omega
        by_cases h0 : b = 0
        · subst h0
          have hve : val os = m + n := by
            have := HHEQ.out
            rw [List.take_of_length_le (by omega), List.take_of_length_le (by omega), val_dig, val_dig] at this
            omega
          obtain ⟨g, c, rfl, hcs, hc1, hc2, hgn⟩ := own_cap2 hown
          unfold maxLen at hc2
          have hol := HHOL.out
          have HCS := Lib.hid hcs
          clear hcs hown hgn
          rw [show ((0 : Nat) : Int) = 0 from rfl]
          go_wp2
          go_ret
          refine ⟨⟨g, os, c, by rw [HHOL.out]; rfl, HCS.out, HHSM.out, hve, by omega, by omega⟩, hb⟩
        · have j0 : (0 : Int) < b := by omega
          obtain ⟨T, hT⟩ : ∃ T, T = b := ⟨_, rfl⟩
          obtain ⟨o, ho⟩ : ∃ o, o = T % 10000 := ⟨_, rfl⟩
          obtain ⟨b', hb'⟩ : ∃ b', b' = T / 10000 := ⟨_, rfl⟩
          have e3 : (T : Int) % 10000 = (o : Int) := by omega
          have e4 : Int.tmod (T : Int) 10000 = (o : Int) := by rw [Int.tmod_eq_emod_of_nonneg (by omega)]; exact e3
          have e5 : (T : Int) / 10000 = (b' : Int) := by omega
          have e6 : Int.tdiv (T : Int) 10000 = (b' : Int) := by rw [Int.tdiv_eq_ediv_of_nonneg (by omega)]; exact e5
          have HEQ := Lib.hid (more_step (o := o) (b' := b') hxd hyd HHOL.out HHEQ.out (by rw [hB]; omega))
          have HSM := Lib.hid (sm_snoc (d := o) HHSM.out (by omega))
          have hob : o ≤ 9999 := by omega
          have hbb : b' ≤ 1 := by omega
          have hlast : i + 1 = M + 1 → b' = 0 := by omega
          have hiM : i ≤ M := by omega
          clear hxd hyd ho hb' hB hbz
          obtain rfl : b = T := by omega
          go_wp2_with (at_builtin; refine wpList_append_own _ rfl _ _ 24 rfl w.heap.size 3 i0 (.int .i64 0) 1 8 Tryz.underlying24 hi hz0 hz1 hz2 rfl (by decide) _ _ _ rfl (hown.alloc _) ⟨wr.heap.size, 0, none⟩ 1 1 [.int .i64 (o : Nat)] rfl rfl (news1 _ _ _) (by simp [Value.oneCell']) (by unfold maxLen; omega) (by omega) (by simp; omega) ?_; intro v1 wz hown1 hgrow _)
          have hfin := hown1
          rw [show zs os ++ [.int .i64 (o : Nat)] = zs (os ++ [o]) from by rw [zs_append]; rfl] at hfin
          have hbz := (hb.alloc hsz (.cells #[.int .i64 (o : Nat)] 3)).grown hgrow (by simp; omega) HOB.out
          clear hown1 hgrow hown
          have HFIN := Lib.hid hfin; clear hfin
          go_wp2
          go_roundw
          case rel => exact ⟨i + 1, os ++ [o], b', by omega, by omega, rfl, rfl, by omega, HSM.out, HEQ.out, by simpa using HHOL.out, by simpa using HFIN.out, hbz⟩
          case measure => simp [intOf]; omega
end Go.Proofs.YtbjhjbjjfbmoeaaGreatDoor.Z4

/- The reference's whole numbers: the negative, and the sum. -/
namespace Go.Proofs.YtbjhjbjjfbmoeaaGreatDoor.Z4
open Go.RowKit

theorem dig_val_le {l : List Nat} (h : Sm l) : (dig (val l)).length ≤ l.length := by
  have := congrArg List.length (dig_take _ l rfl h)
  rw [List.length_take] at this; omega
theorem len_ne (n : Int) : (0 < (dig n.natAbs).length) ↔ n ≠ 0 := by
  have := dig_len_pos (n := n.natAbs)
  omega

set_option maxRecDepth 100000 in
set_option maxHeartbeats 1000000 in
theorem zNeg_any (va : Value) (n : Int) (w : World) (ha : ZV w va n) :
    Calls Tryz.prog 144 #[va] w fun e w' => (∃ v, e = .returned v ∧ ZV w' v (-n)) ∧ Below w.heap.size w w' := by
  obtain ⟨aa, ca, rfl, ha, hac, hac2⟩ := ha
  have hsg : ((!decide (n < 0)) && decide (0 < (dig n.natAbs).length)) = decide (-n < 0) := by
    rw [Bool.eq_iff_iff]
    simp only [Bool.and_eq_true, Bool.not_eq_true', decide_eq_true_eq, decide_eq_false_iff_not, len_ne]
    omega
  have hmd := fun W h => made_any (!decide (n < 0)) aa (dig n.natAbs) ca W h (sm_dig _) (by omega) hac hac2
  rw [val_dig, hsg] at hmd
  have hbw := ((Below.refl w.heap.size w).alloc (Nat.le_refl _) (.cells #[.bool (decide (n < 0)), .slice aa (dig n.natAbs).length ca] 118)).alloc (by simp) (.cells #[.bool false, .slice none 0 0] 118)
  have HBW := Lib.hid hbw; have HMD := Lib.hid hmd; have HA := Lib.hid (ha.below hbw (Nat.le_refl _))
  have hx0 : ((w.alloc (.cells #[.bool (decide (n < 0)), .slice aa (dig n.natAbs).length ca] 118)).alloc (.cells #[.bool false, .slice none 0 0] 118)).cell? ⟨w.heap.size, 0, none⟩ = some (.bool (decide (n < 0))) := by simp
  clear hbw hmd ha hsg
  rw [← Int.natAbs_neg n] at *
  generalize -n = m at *
  generalize decide (n < 0) = s at *
  go_enter Tryz.func144, Tryz.ntmps144
  go_wp2_with fail
  refine (HMD.out _ HA.out).mono ?_
  rintro e w1 ⟨rfl, hb1⟩
  have HC1 := Lib.hid (HA.out.below hb1 (Nat.le_refl _))
  have q0 := box_keep1 hb1 (by simp) 0
  have q1 := box_keep1 hb1 (by simp) 1
  simp only [List.getElem?_toArray, List.getElem?_cons_succ, List.getElem?_cons_zero] at q0 q1
  have f0 := box_free1 hb1 (by simp) 0
  have f1 := box_free1 hb1 (by simp) 1
  have hb := HBW.out.trans (hb1.mono (by simp; omega))
  clear hb1 hx0
  go_wp2
  refine bodyPost_ret (v := .agg #[.bool (decide (m < 0)), .slice aa (dig m.natAbs).length ca]) (by simp [results, Tryz.results144, go_sem, q0, q1]) rfl ?_
  exact ⟨⟨_, rfl, aa, ca, rfl, zbox HC1.out q0 q1, hac, hac2⟩, (hb.setCell (by show w.heap.size ≤ w.heap.size + 1; omega) _).setCell (by show w.heap.size ≤ w.heap.size + 1; omega) _⟩

set_option maxRecDepth 100000 in
set_option maxHeartbeats 4000000 in
theorem zAdd_any (va vb : Value) (m n : Int) (w : World) (ha : ZV w va m) (hb : ZV w vb n) (hl : (dig m.natAbs).length ≤ 1099511627776) (hl2 : (dig n.natAbs).length ≤ 1099511627776) :
    Calls Tryz.prog 142 #[va, vb] w fun e w' => (∃ v, e = .returned v ∧ ZV w' v (m + n)) ∧ Below w.heap.size w w' := by
  obtain ⟨aa, ca, rfl, ha, hac, hac2⟩ := ha
  obtain ⟨ab, cb, rfl, hb, hbc, hbc2⟩ := hb
  have hMA : MV w (.slice aa (dig m.natAbs).length ca) m.natAbs := ⟨aa, ca, rfl, ha, hac, hac2⟩
  have hMB : MV w (.slice ab (dig n.natAbs).length cb) n.natAbs := ⟨ab, cb, rfl, hb, hbc, hbc2⟩
  obtain ⟨R, hR⟩ : ∃ R, R = m + n := ⟨_, rfl⟩
  obtain ⟨s1, hs1⟩ : ∃ s1, s1 = decide (m < 0) := ⟨_, rfl⟩
  obtain ⟨s2, hs2⟩ : ∃ s2, s2 = decide (n < 0) := ⟨_, rfl⟩
  rw [← hR, ← hs1, ← hs2]
  have hcp := fun W h => compare_mv (.slice aa (dig m.natAbs).length ca) (.slice ab (dig n.natAbs).length cb) m.natAbs n.natAbs W (hMA.below h (Nat.le_refl _)) (hMB.below h (Nat.le_refl _)) (by omega) (by omega)
  have hmo : s1 = s2 → (∀ W, Below w.heap.size w W → Calls Tryz.prog 189 #[.slice aa (dig m.natAbs).length ca, .slice ab (dig n.natAbs).length cb] W fun e w' => (∃ g os c, e = .returned (.slice g os.length c) ∧ Cells w' g (zs os) ∧ Sm os ∧ val os = R.natAbs ∧ os.length ≤ c ∧ c ≤ 9223372036854775807) ∧ Below W.heap.size W w') ∧ (s1 && decide (0 < (dig R.natAbs).length)) = decide (R < 0) := by
    intro h
    have h4 : decide (m < 0) = decide (n < 0) := by rw [← hs1, ← hs2]; exact h
    have h5 : (m < 0) ↔ (n < 0) := by simpa using h4
    refine ⟨fun W hW => ?_, ?_⟩
    · have := more_any _ _ _ _ W (hMA.below hW (Nat.le_refl _)) (hMB.below hW (Nat.le_refl _)) hl hl2
      rwa [show m.natAbs + n.natAbs = R.natAbs by omega] at this
    · rw [hs1, Bool.eq_iff_iff]; simp only [Bool.and_eq_true, decide_eq_true_eq, len_ne]; omega
  have hle1 : s1 ≠ s2 → n.natAbs ≤ m.natAbs → (∀ W, Below w.heap.size w W → Calls Tryz.prog 191 #[.slice aa (dig m.natAbs).length ca, .slice ab (dig n.natAbs).length cb] W fun e w' => (∃ g os c, e = .returned (.slice g os.length c) ∧ Cells w' g (zs os) ∧ Sm os ∧ val os = R.natAbs ∧ os.length ≤ c ∧ c ≤ 9223372036854775807) ∧ Below W.heap.size W w') ∧ (s1 && decide (0 < (dig R.natAbs).length)) = decide (R < 0) := by
    intro h h2
    have h4 : ¬ decide (m < 0) = decide (n < 0) := by rw [← hs1, ← hs2]; exact h
    have h5 : ¬ ((m < 0) ↔ (n < 0)) := by simpa using h4
    refine ⟨fun W hW => ?_, ?_⟩
    · refine (less_any _ _ _ _ W (hMA.below hW (Nat.le_refl _)) (hMB.below hW (Nat.le_refl _)) h2 hl).mono ?_
      rintro e w1 ⟨⟨v, rfl, hv⟩, hb1⟩
      obtain ⟨g, c, rfl, h6, h7, h8⟩ := hv.mv
      exact ⟨⟨g, _, c, rfl, h6, sm_dig _, by rw [val_dig]; omega, h7, h8⟩, hb1⟩
    · rw [hs1, Bool.eq_iff_iff]; simp only [Bool.and_eq_true, decide_eq_true_eq, len_ne]; omega
  have hle2 : s1 ≠ s2 → ¬ n.natAbs ≤ m.natAbs → (∀ W, Below w.heap.size w W → Calls Tryz.prog 191 #[.slice ab (dig n.natAbs).length cb, .slice aa (dig m.natAbs).length ca] W fun e w' => (∃ g os c, e = .returned (.slice g os.length c) ∧ Cells w' g (zs os) ∧ Sm os ∧ val os = R.natAbs ∧ os.length ≤ c ∧ c ≤ 9223372036854775807) ∧ Below W.heap.size W w') ∧ (s2 && decide (0 < (dig R.natAbs).length)) = decide (R < 0) := by
    intro h h2
    have h4 : ¬ decide (m < 0) = decide (n < 0) := by rw [← hs1, ← hs2]; exact h
    have h5 : ¬ ((m < 0) ↔ (n < 0)) := by simpa using h4
    refine ⟨fun W hW => ?_, ?_⟩
    · refine (less_any _ _ _ _ W (hMB.below hW (Nat.le_refl _)) (hMA.below hW (Nat.le_refl _)) (by omega) hl2).mono ?_
      rintro e w1 ⟨⟨v, rfl, hv⟩, hb1⟩
      obtain ⟨g, c, rfl, h6, h7, h8⟩ := hv.mv
      exact ⟨⟨g, _, c, rfl, h6, sm_dig _, by rw [val_dig]; omega, h7, h8⟩, hb1⟩
    · rw [hs2, Bool.eq_iff_iff]; simp only [Bool.and_eq_true, decide_eq_true_eq, len_ne]; omega
  have hcv : (n.natAbs ≤ m.natAbs → 0 ≤ cmpN m.natAbs n.natAbs) ∧ (¬ n.natAbs ≤ m.natAbs → cmpN m.natAbs n.natAbs = -1) := by
    refine ⟨fun h => ?_, fun h => cmpN_lt (by omega)⟩
    unfold cmpN
    rw [if_neg (by omega)]
    split <;> omega
  obtain ⟨W0, hW0⟩ : ∃ W0, W0 = (((w.alloc (.cells #[.bool s1, .slice aa (dig m.natAbs).length ca] 118)).alloc (.cells #[.bool s2, .slice ab (dig n.natAbs).length cb] 118)).alloc (.cells #[.bool false, .slice none 0 0] 118)) := ⟨_, rfl⟩
  have hbx := fun (B : Nat) (w1 : World) (h1 : Below B W0 w1) (h2 : w.heap.size + 2 < B) => boxes3 (w := w) (by rw [hW0] at h1; exact h1) h2
  have hB0 : Below w.heap.size w W0 := by rw [hW0]; exact ((((Below.refl w.heap.size w).alloc (Nat.le_refl _) _).alloc (by simp) _).alloc (by simp; omega) _)
  have hz0 : W0.heap.size = w.heap.size + 3 := by rw [hW0]; simp
  obtain ⟨k0, k1, -, -⟩ := hbx (w.heap.size + 3) W0 (Below.refl _ W0) (by omega)
  have x0 : W0.cell? ⟨w.heap.size, 0, none⟩ = some (.bool s1) := k0 0
  have x1 : W0.cell? ⟨w.heap.size, 1, none⟩ = some (.slice aa (dig m.natAbs).length ca) := k0 1
  have y0 : W0.cell? ⟨w.heap.size + 1, 0, none⟩ = some (.bool s2) := k1 0
  have y1 : W0.cell? ⟨w.heap.size + 1, 1, none⟩ = some (.slice ab (dig n.natAbs).length cb) := k1 1
  have xd0 : W0.drew.cell? ⟨w.heap.size, 0, none⟩ = some (.bool s1) := x0
  have xd1 : W0.drew.cell? ⟨w.heap.size, 1, none⟩ = some (.slice aa (dig m.natAbs).length ca) := x1
  have yd0 : W0.drew.cell? ⟨w.heap.size + 1, 0, none⟩ = some (.bool s2) := y0
  have yd1 : W0.drew.cell? ⟨w.heap.size + 1, 1, none⟩ = some (.slice ab (dig n.natAbs).length cb) := y1
  have HCP := Lib.hid hcp; have HMO := Lib.hid hmo; have HLE1 := Lib.hid hle1; have HLE2 := Lib.hid hle2; have HCV := Lib.hid hcv
  have HBX := Lib.hid hbx; have HB0 := Lib.hid hB0
  clear ha hb hMA hMB hR hs1 hs2 hcp hmo hle1 hle2 hcv hbx k0 k1
  generalize (dig m.natAbs).length = lm at *
  generalize (dig n.natAbs).length = ln at *
  generalize cmpN m.natAbs n.natAbs = C at *
  go_enter Tryz.func142, Tryz.ntmps142
  by_cases hs : s1 = s2
  · obtain ⟨hc, hsg⟩ := HMO.out hs
    have HC := Lib.hid hc; have HSG := Lib.hid hsg
    have d1 : (s1 == s2) = true := by simpa using hs
    clear hc hsg HCP HMO HLE1 HLE2 HCV hs
    go_wp2_with fail
    rw [← hW0]
    clear hW0
    go_region_held3 (fun w' => w'.cell? ⟨w.heap.size, 0, none⟩ = some (.bool s1) ∧ w'.cell? ⟨w.heap.size, 1, none⟩ = some (.slice aa lm ca) ∧ w'.cell? ⟨w.heap.size + 1, 0, none⟩ = some (.bool s2) ∧ w'.cell? ⟨w.heap.size + 1, 1, none⟩ = some (.slice ab ln cb))
      (first | with_reducible exact ⟨x0, x1, y0, y1⟩ | with_reducible exact ⟨xd0, xd1, yd0, yd1⟩ | with_reducible exact ⟨rx0, rx1, ry0, ry1⟩ | with_reducible exact ⟨px0, px1, py0, py1⟩ | (refine ⟨?_, ?_, ?_, ?_⟩ <;> (repeat rw [World.cell?_setCell_other _ _ _ _ (by simp)]) <;> assumption) | go_keep)
      (first
        | (go_at_call 189; (with_reducible refine Calls.mono (HC.out W0.drew HB0.out.drew) ?_); rintro e w4 ⟨⟨g, os, c, rfl, hcs, hsm, hval, hcp, hcm⟩, hb4⟩; have hbz : Below W0.heap.size W0 w4 := ((Below.refl W0.heap.size W0).drew).trans hb4; have HB4 := Lib.hid hbz; have HCS := Lib.hid hcs; have HSM := Lib.hid hsm; have HVAL := Lib.hid hval; have px0 := cell_keep x0 hbz (Nat.le_refl _); have px1 := cell_keep x1 hbz (Nat.le_refl _); have py0 := cell_keep y0 hbz (Nat.le_refl _); have py1 := cell_keep y1 hbz (Nat.le_refl _); clear hcs hsm hval hb4 hbz)
        | (have hmd := made_any s1 g os c w4 HCS.out HSM.out (by omega) hcp hcm; rw [HVAL.out, HSG.out] at hmd; go_at_call 186; (with_reducible refine Calls.mono hmd ?_); clear hmd; rintro e w5 ⟨rfl, hb5⟩; have hbz : Below W0.heap.size W0 w5 := HB4.out.trans (hb5.mono HB4.out.size); have HB5 := Lib.hid hbz; have rx0 := cell_keep x0 hbz (Nat.le_refl _); have rx1 := cell_keep x1 hbz (Nat.le_refl _); have ry0 := cell_keep y0 hbz (Nat.le_refl _); have ry1 := cell_keep y1 hbz (Nat.le_refl _); have hc5 := strip_cells os (HCS.out.below hb5 (Nat.le_refl _)) HSM.out; rw [HVAL.out] at hc5; have HC5 := Lib.hid hc5; obtain ⟨-, -, q2, f2⟩ := HBX.out _ _ hbz (by omega); have q20 := q2 0; have q21 := q2 1; simp only [List.getElem?_toArray, List.getElem?_cons_succ, List.getElem?_cons_zero] at q20 q21; have f0 := f2 0; have f1 := f2 1; clear hb5 hbz q2 f2 hc5))
    all_goals
      have hdl := dig_val_le HSM.out
      rw [HVAL.out] at hdl
      have hbw := HB0.out.trans (HB5.out.mono (by omega))
      go_wp2
      refine bodyPost_ret (v := .agg #[.bool (decide (R < 0)), .slice g (dig R.natAbs).length c]) (by simp [results, Tryz.results142, go_sem, q20, q21]) rfl ?_
      exact ⟨⟨_, rfl, g, c, rfl, zbox HC5.out q20 q21, by omega, hcm⟩, (hbw.setCell (by show w.heap.size ≤ w.heap.size + 2; omega) _).setCell (by show w.heap.size ≤ w.heap.size + 2; omega) _⟩
  · have d1 : (s1 == s2) = false := by simpa using hs
    go_wp2_with fail
    rw [← hW0]
    clear hW0
    refine (HCP.out W0 HB0.out).mono ?_
    rintro e w2 ⟨rfl, hb2⟩
    have hb02 := HB0.out.trans (hb2.mono HB0.out.size)
    have HB02 := Lib.hid hb02; have HB2 := Lib.hid hb2
    have x0' := cell_keep x0 hb2 (Nat.le_refl _)
    have x1' := cell_keep x1 hb2 (Nat.le_refl _)
    have y0' := cell_keep y0 hb2 (Nat.le_refl _)
    have y1' := cell_keep y1 hb2 (Nat.le_refl _)
    have xw0 : w2.drew.cell? ⟨w.heap.size, 0, none⟩ = some (.bool s1) := x0'
    have xw1 : w2.drew.cell? ⟨w.heap.size, 1, none⟩ = some (.slice aa lm ca) := x1'
    have yw0 : w2.drew.cell? ⟨w.heap.size + 1, 0, none⟩ = some (.bool s2) := y0'
    have yw1 : w2.drew.cell? ⟨w.heap.size + 1, 1, none⟩ = some (.slice ab ln cb) := y1'
    clear hb2 hb02
    by_cases hc : n.natAbs ≤ m.natAbs
    · have hc0 := HCV.out.1 hc
      obtain ⟨hq, hsg⟩ := HLE1.out hs hc
      have HC := Lib.hid hq; have HSG := Lib.hid hsg
      clear hq hsg HCP HMO HLE1 HLE2 HCV hs hc
      go_wp2_with fail
      go_region_held3 (fun w' => w'.cell? ⟨w.heap.size, 0, none⟩ = some (.bool s1) ∧ w'.cell? ⟨w.heap.size, 1, none⟩ = some (.slice aa lm ca) ∧ w'.cell? ⟨w.heap.size + 1, 0, none⟩ = some (.bool s2) ∧ w'.cell? ⟨w.heap.size + 1, 1, none⟩ = some (.slice ab ln cb))
        (first | with_reducible exact ⟨x0', x1', y0', y1'⟩ | with_reducible exact ⟨xw0, xw1, yw0, yw1⟩ | with_reducible exact ⟨xd0, xd1, yd0, yd1⟩ | with_reducible exact ⟨rx0, rx1, ry0, ry1⟩ | with_reducible exact ⟨px0, px1, py0, py1⟩ | (refine ⟨?_, ?_, ?_, ?_⟩ <;> (repeat rw [World.cell?_setCell_other _ _ _ _ (by simp)]) <;> assumption) | go_keep)
        (first
          | (go_at_call 191; (with_reducible refine Calls.mono (HC.out w2.drew HB02.out.drew) ?_); rintro e w4 ⟨⟨g, os, c, rfl, hcs, hsm, hval, hcp, hcm⟩, hb4⟩; have hbz : Below W0.heap.size W0 w4 := HB2.out.trans ((((Below.refl w2.heap.size w2).drew).trans hb4).mono HB2.out.size); have HB4 := Lib.hid hbz; have HCS := Lib.hid hcs; have HSM := Lib.hid hsm; have HVAL := Lib.hid hval; have px0 := cell_keep x0 hbz (Nat.le_refl _); have px1 := cell_keep x1 hbz (Nat.le_refl _); have py0 := cell_keep y0 hbz (Nat.le_refl _); have py1 := cell_keep y1 hbz (Nat.le_refl _); clear hcs hsm hval hb4 hbz)
          | (have hmd := made_any s1 g os c w4 HCS.out HSM.out (by omega) hcp hcm; rw [HVAL.out, HSG.out] at hmd; go_at_call 186; (with_reducible refine Calls.mono hmd ?_); clear hmd; rintro e w5 ⟨rfl, hb5⟩; have hbz : Below W0.heap.size W0 w5 := HB4.out.trans (hb5.mono HB4.out.size); have HB5 := Lib.hid hbz; have rx0 := cell_keep x0 hbz (Nat.le_refl _); have rx1 := cell_keep x1 hbz (Nat.le_refl _); have ry0 := cell_keep y0 hbz (Nat.le_refl _); have ry1 := cell_keep y1 hbz (Nat.le_refl _); have hc5 := strip_cells os (HCS.out.below hb5 (Nat.le_refl _)) HSM.out; rw [HVAL.out] at hc5; have HC5 := Lib.hid hc5; obtain ⟨-, -, q2, f2⟩ := HBX.out _ _ hbz (by omega); have q20 := q2 0; have q21 := q2 1; simp only [List.getElem?_toArray, List.getElem?_cons_succ, List.getElem?_cons_zero] at q20 q21; have f0 := f2 0; have f1 := f2 1; clear hb5 hbz q2 f2 hc5))
      all_goals
        have hdl := dig_val_le HSM.out
        rw [HVAL.out] at hdl
        have hbw := HB0.out.trans (HB5.out.mono (by omega))
        go_wp2
        refine bodyPost_ret (v := .agg #[.bool (decide (R < 0)), .slice g (dig R.natAbs).length c]) (by simp [results, Tryz.results142, go_sem, q20, q21]) rfl ?_
        exact ⟨⟨_, rfl, g, c, rfl, zbox HC5.out q20 q21, by omega, hcm⟩, (hbw.setCell (by show w.heap.size ≤ w.heap.size + 2; omega) _).setCell (by show w.heap.size ≤ w.heap.size + 2; omega) _⟩
    · have hc0 := HCV.out.2 hc
      have hc1 : ¬ (0 ≤ C) := by omega
      obtain ⟨hq, hsg⟩ := HLE2.out hs hc
      have HC := Lib.hid hq; have HSG := Lib.hid hsg
      clear hq hsg HCP HMO HLE1 HLE2 HCV hs hc
      go_wp2_with fail
      go_region_held3 (fun w' => w'.cell? ⟨w.heap.size, 0, none⟩ = some (.bool s1) ∧ w'.cell? ⟨w.heap.size, 1, none⟩ = some (.slice aa lm ca) ∧ w'.cell? ⟨w.heap.size + 1, 0, none⟩ = some (.bool s2) ∧ w'.cell? ⟨w.heap.size + 1, 1, none⟩ = some (.slice ab ln cb))
        (first | with_reducible exact ⟨x0', x1', y0', y1'⟩ | with_reducible exact ⟨xw0, xw1, yw0, yw1⟩ | with_reducible exact ⟨xd0, xd1, yd0, yd1⟩ | with_reducible exact ⟨rx0, rx1, ry0, ry1⟩ | with_reducible exact ⟨px0, px1, py0, py1⟩ | (refine ⟨?_, ?_, ?_, ?_⟩ <;> (repeat rw [World.cell?_setCell_other _ _ _ _ (by simp)]) <;> assumption) | go_keep)
        (first
          | (go_at_call 191; (with_reducible refine Calls.mono (HC.out w2.drew HB02.out.drew) ?_); rintro e w4 ⟨⟨g, os, c, rfl, hcs, hsm, hval, hcp, hcm⟩, hb4⟩; have hbz : Below W0.heap.size W0 w4 := HB2.out.trans ((((Below.refl w2.heap.size w2).drew).trans hb4).mono HB2.out.size); have HB4 := Lib.hid hbz; have HCS := Lib.hid hcs; have HSM := Lib.hid hsm; have HVAL := Lib.hid hval; have px0 := cell_keep x0 hbz (Nat.le_refl _); have px1 := cell_keep x1 hbz (Nat.le_refl _); have py0 := cell_keep y0 hbz (Nat.le_refl _); have py1 := cell_keep y1 hbz (Nat.le_refl _); clear hcs hsm hval hb4 hbz)
          | (have hmd := made_any s2 g os c w4 HCS.out HSM.out (by omega) hcp hcm; rw [HVAL.out, HSG.out] at hmd; go_at_call 186; (with_reducible refine Calls.mono hmd ?_); clear hmd; rintro e w5 ⟨rfl, hb5⟩; have hbz : Below W0.heap.size W0 w5 := HB4.out.trans (hb5.mono HB4.out.size); have HB5 := Lib.hid hbz; have rx0 := cell_keep x0 hbz (Nat.le_refl _); have rx1 := cell_keep x1 hbz (Nat.le_refl _); have ry0 := cell_keep y0 hbz (Nat.le_refl _); have ry1 := cell_keep y1 hbz (Nat.le_refl _); have hc5 := strip_cells os (HCS.out.below hb5 (Nat.le_refl _)) HSM.out; rw [HVAL.out] at hc5; have HC5 := Lib.hid hc5; obtain ⟨-, -, q2, f2⟩ := HBX.out _ _ hbz (by omega); have q20 := q2 0; have q21 := q2 1; simp only [List.getElem?_toArray, List.getElem?_cons_succ, List.getElem?_cons_zero] at q20 q21; have f0 := f2 0; have f1 := f2 1; clear hb5 hbz q2 f2 hc5))
      all_goals
        have hdl := dig_val_le HSM.out
        rw [HVAL.out] at hdl
        have hbw := HB0.out.trans (HB5.out.mono (by omega))
        go_wp2
        refine bodyPost_ret (v := .agg #[.bool (decide (R < 0)), .slice g (dig R.natAbs).length c]) (by simp [results, Tryz.results142, go_sem, q20, q21]) rfl ?_
        exact ⟨⟨_, rfl, g, c, rfl, zbox HC5.out q20 q21, by omega, hcm⟩, (hbw.setCell (by show w.heap.size ≤ w.heap.size + 2; omega) _).setCell (by show w.heap.size ≤ w.heap.size + 2; omega) _⟩
end Go.Proofs.YtbjhjbjjfbmoeaaGreatDoor.Z4

/- The reference's rational numbers: the negative, and the sum. -/
namespace Go.Proofs.YtbjhjbjjfbmoeaaGreatDoor.Z4
open Go.RowKit

theorem QV.zn {w : World} {v : Value} {N : Int} {d : Nat} (h : QV w v (decide (N < 0)) N.natAbs d) : ∃ a b n1 c1 n2 c2, v = .agg #[.bool (decide (N < 0)), .slice a n1 c1, .bool false, .slice b n2 c2] ∧ ZV w (.agg #[.bool (decide (N < 0)), .slice a n1 c1]) N ∧ ZV w (.agg #[.bool false, .slice b n2 c2]) (d : Int) := by
  obtain ⟨vn, vd, rfl, ⟨a, c1, rfl, h1, h2, h3⟩, ⟨b, c2, rfl, h4, h5, h6⟩⟩ := h
  exact ⟨a, b, _, c1, _, c2, rfl, ⟨a, c1, rfl, h1, h2, h3⟩, ⟨b, c2, by rw [decide_eq_false (show ¬ (d : Int) < 0 by omega)]; rfl, h4, h5, h6⟩⟩

set_option maxRecDepth 100000 in
set_option maxHeartbeats 8000000 in
theorem qAdd_any (va vb : Value) (N1 N2 : Int) (d1 d2 : Nat) (w : World) (ha : QV w va (decide (N1 < 0)) N1.natAbs d1) (hb : QV w vb (decide (N2 < 0)) N2.natAbs d2) (hd1 : d1 ≠ 0) (hd2 : d2 ≠ 0)
    (l1 : (dig N1.natAbs).length ≤ 1073741824) (l2 : (dig N2.natAbs).length ≤ 1073741824) (l3 : (dig d1).length ≤ 1073741824) (l4 : (dig d2).length ≤ 1073741824)
    (l5 : (dig (N1 * d2).natAbs).length ≤ 549755813888) (l6 : (dig (N2 * d1).natAbs).length ≤ 549755813888) (l7 : (dig (d1 * d2)).length ≤ 549755813888) (l8 : (dig (N1 * d2 + N2 * d1).natAbs).length ≤ 549755813888) :
    Calls Tryz.prog 86 #[va, vb] w fun e w' => (∃ v, e = .returned v ∧ QV w' v (decide (N1 * d2 + N2 * d1 < 0)) ((N1 * d2 + N2 * d1).natAbs / Nat.gcd (N1 * d2 + N2 * d1).natAbs (d1 * d2)) (d1 * d2 / Nat.gcd (N1 * d2 + N2 * d1).natAbs (d1 * d2))) ∧ Below w.heap.size w w' := by
  obtain ⟨a1, b1, n1, c1, m1, e1, rfl, za, zb⟩ := ha.zn
  obtain ⟨a2, b2, n2, c2, m2, e2, rfl, zc, zd⟩ := hb.zn
  have hm1 := fun W (h : Below w.heap.size w W) => zMul_any _ _ N1 d2 W (za.below h (Nat.le_refl _)) (zd.below h (Nat.le_refl _)) (by rw [Int.natAbs_natCast]; omega)
  have hm2 := fun W (h : Below w.heap.size w W) => zMul_any _ _ N2 d1 W (zc.below h (Nat.le_refl _)) (zb.below h (Nat.le_refl _)) (by rw [Int.natAbs_natCast]; omega)
  have hm3 := fun W (h : Below w.heap.size w W) => zMul_any _ _ d1 d2 W (zb.below h (Nat.le_refl _)) (zd.below h (Nat.le_refl _)) (by rw [Int.natAbs_natCast, Int.natAbs_natCast]; omega)
  rw [← Int.natCast_mul] at hm3
  have had := fun v1 v2 W g1 g2 => zAdd_any v1 v2 (N1 * d2) (N2 * d1) W g1 g2 (by omega) (by omega)
  have hqo := fun v1 v2 W g1 g2 => qOf_pos v1 v2 (N1 * d2 + N2 * d1) (d1 * d2) W g1 g2 (Nat.mul_ne_zero hd1 hd2) l8 l7
  have HM1 := Lib.hid hm1; have HM2 := Lib.hid hm2; have HM3 := Lib.hid hm3; have HAD := Lib.hid had; have HQO := Lib.hid hqo
  clear ha hb hm1 hm2 hm3 had hqo za zb zc zd l1 l2 l3 l4 l5 l6 l7 l8
  generalize N1 * (d2 : Int) = P1 at *
  generalize N2 * (d1 : Int) = P2 at *
  generalize d1 * d2 = P3 at *
  generalize decide (N1 < 0) = s1 at *
  generalize decide (N2 < 0) = s2 at *
  obtain ⟨W0, hW0⟩ : ∃ W0, W0 = (((w.alloc (.cells #[.bool s1, .slice a1 n1 c1, .bool false, .slice b1 m1 e1] 120)).alloc (.cells #[.bool s2, .slice a2 n2 c2, .bool false, .slice b2 m2 e2] 120)).alloc (.cells #[.bool false, .slice none 0 0, .bool false, .slice none 0 0] 120)) := ⟨_, rfl⟩
  have hbx := fun (B : Nat) (w1 : World) (h1 : Below B W0 w1) (h2 : w.heap.size + 2 < B) => boxes3 (w := w) (by rw [hW0] at h1; exact h1) h2
  have hB0 : Below w.heap.size w W0 := by rw [hW0]; exact ((((Below.refl w.heap.size w).alloc (Nat.le_refl _) _).alloc (by simp) _).alloc (by simp; omega) _)
  have hz0 : W0.heap.size = w.heap.size + 3 := by rw [hW0]; simp
  obtain ⟨k0, k1, -, -⟩ := hbx (w.heap.size + 3) W0 (Below.refl _ W0) (by omega)
  have x0 : W0.cell? ⟨w.heap.size, 0, none⟩ = some (.bool s1) := k0 0
  have x1 : W0.cell? ⟨w.heap.size, 1, none⟩ = some (.slice a1 n1 c1) := k0 1
  have x2 : W0.cell? ⟨w.heap.size, 2, none⟩ = some (.bool false) := k0 2
  have x3 : W0.cell? ⟨w.heap.size, 3, none⟩ = some (.slice b1 m1 e1) := k0 3
  have y0 : W0.cell? ⟨w.heap.size + 1, 0, none⟩ = some (.bool s2) := k1 0
  have y1 : W0.cell? ⟨w.heap.size + 1, 1, none⟩ = some (.slice a2 n2 c2) := k1 1
  have y2 : W0.cell? ⟨w.heap.size + 1, 2, none⟩ = some (.bool false) := k1 2
  have y3 : W0.cell? ⟨w.heap.size + 1, 3, none⟩ = some (.slice b2 m2 e2) := k1 3
  have xd0 : W0.drew.cell? ⟨w.heap.size, 0, none⟩ = some (.bool s1) := x0
  have xd1 : W0.drew.cell? ⟨w.heap.size, 1, none⟩ = some (.slice a1 n1 c1) := x1
  have xd2 : W0.drew.cell? ⟨w.heap.size, 2, none⟩ = some (.bool false) := x2
  have xd3 : W0.drew.cell? ⟨w.heap.size, 3, none⟩ = some (.slice b1 m1 e1) := x3
  have yd0 : W0.drew.cell? ⟨w.heap.size + 1, 0, none⟩ = some (.bool s2) := y0
  have yd1 : W0.drew.cell? ⟨w.heap.size + 1, 1, none⟩ = some (.slice a2 n2 c2) := y1
  have yd2 : W0.drew.cell? ⟨w.heap.size + 1, 2, none⟩ = some (.bool false) := y2
  have yd3 : W0.drew.cell? ⟨w.heap.size + 1, 3, none⟩ = some (.slice b2 m2 e2) := y3
  have HBX := Lib.hid hbx; have HB0 := Lib.hid hB0
  have HBC := Lib.hid ((Below.refl W0.heap.size W0).drew)
  obtain ⟨wc, hwc⟩ : ∃ wc, wc = W0.drew := ⟨_, rfl⟩
  rw [← hwc] at HBC
  clear hbx hB0 k0 k1
  go_enter Tryz.func86, Tryz.ntmps86
  go_wp2_with fail
  rw [← hW0]
  clear hW0
  go_region_held3 (fun w' => w'.cell? ⟨w.heap.size, 0, none⟩ = some (.bool s1) ∧ w'.cell? ⟨w.heap.size, 1, none⟩ = some (.slice a1 n1 c1) ∧ w'.cell? ⟨w.heap.size, 2, none⟩ = some (.bool false) ∧ w'.cell? ⟨w.heap.size, 3, none⟩ = some (.slice b1 m1 e1) ∧ w'.cell? ⟨w.heap.size + 1, 0, none⟩ = some (.bool s2) ∧ w'.cell? ⟨w.heap.size + 1, 1, none⟩ = some (.slice a2 n2 c2) ∧ w'.cell? ⟨w.heap.size + 1, 2, none⟩ = some (.bool false) ∧ w'.cell? ⟨w.heap.size + 1, 3, none⟩ = some (.slice b2 m2 e2))
    (first | with_reducible exact ⟨px0, px1, px2, px3, py0, py1, py2, py3⟩ | with_reducible exact ⟨x0, x1, x2, x3, y0, y1, y2, y3⟩ | with_reducible exact ⟨xd0, xd1, xd2, xd3, yd0, yd1, yd2, yd3⟩ | (refine ⟨?_, ?_, ?_, ?_, ?_, ?_, ?_, ?_⟩ <;> (repeat rw [World.cell?_setCell_other _ _ _ _ (by simp)]) <;> assumption) | go_keep)
    (first
      | (go_at_call 143; (try rw [← hwc]); (with_reducible refine Calls.mono (HM1.out wc (HB0.out.trans (HBC.out.mono HB0.out.size))) ?_); rintro e wc ⟨⟨v1, rfl, hv1⟩, hbc⟩; (try have HV2 := Lib.hid (HV2.out.below hbc (Nat.le_refl _))); (try have HV3 := Lib.hid (HV3.out.below hbc (Nat.le_refl _))); (try have HV4 := Lib.hid (HV4.out.below hbc (Nat.le_refl _))); have HV1 := Lib.hid hv1; have HBC := Lib.hid (HBC.out.trans (hbc.mono HBC.out.size)); have px0 := cell_keep x0 HBC.out (Nat.le_refl _); have px1 := cell_keep x1 HBC.out (Nat.le_refl _); have px2 := cell_keep x2 HBC.out (Nat.le_refl _); have px3 := cell_keep x3 HBC.out (Nat.le_refl _); have py0 := cell_keep y0 HBC.out (Nat.le_refl _); have py1 := cell_keep y1 HBC.out (Nat.le_refl _); have py2 := cell_keep y2 HBC.out (Nat.le_refl _); have py3 := cell_keep y3 HBC.out (Nat.le_refl _); clear hbc hv1)
      | (go_at_call 143; (try rw [← hwc]); (with_reducible refine Calls.mono (HM2.out wc (HB0.out.trans (HBC.out.mono HB0.out.size))) ?_); rintro e wc ⟨⟨v2, rfl, hv2⟩, hbc⟩; (try have HV1 := Lib.hid (HV1.out.below hbc (Nat.le_refl _))); (try have HV3 := Lib.hid (HV3.out.below hbc (Nat.le_refl _))); (try have HV4 := Lib.hid (HV4.out.below hbc (Nat.le_refl _))); have HV2 := Lib.hid hv2; have HBC := Lib.hid (HBC.out.trans (hbc.mono HBC.out.size)); have px0 := cell_keep x0 HBC.out (Nat.le_refl _); have px1 := cell_keep x1 HBC.out (Nat.le_refl _); have px2 := cell_keep x2 HBC.out (Nat.le_refl _); have px3 := cell_keep x3 HBC.out (Nat.le_refl _); have py0 := cell_keep y0 HBC.out (Nat.le_refl _); have py1 := cell_keep y1 HBC.out (Nat.le_refl _); have py2 := cell_keep y2 HBC.out (Nat.le_refl _); have py3 := cell_keep y3 HBC.out (Nat.le_refl _); clear hbc hv2)
      | (go_at_call 143; (try rw [← hwc]); (with_reducible refine Calls.mono (HM3.out wc (HB0.out.trans (HBC.out.mono HB0.out.size))) ?_); rintro e wc ⟨⟨v3, rfl, hv3⟩, hbc⟩; (try have HV1 := Lib.hid (HV1.out.below hbc (Nat.le_refl _))); (try have HV2 := Lib.hid (HV2.out.below hbc (Nat.le_refl _))); (try have HV4 := Lib.hid (HV4.out.below hbc (Nat.le_refl _))); have HV3 := Lib.hid hv3; have HBC := Lib.hid (HBC.out.trans (hbc.mono HBC.out.size)); have px0 := cell_keep x0 HBC.out (Nat.le_refl _); have px1 := cell_keep x1 HBC.out (Nat.le_refl _); have px2 := cell_keep x2 HBC.out (Nat.le_refl _); have px3 := cell_keep x3 HBC.out (Nat.le_refl _); have py0 := cell_keep y0 HBC.out (Nat.le_refl _); have py1 := cell_keep y1 HBC.out (Nat.le_refl _); have py2 := cell_keep y2 HBC.out (Nat.le_refl _); have py3 := cell_keep y3 HBC.out (Nat.le_refl _); clear hbc hv3)
      | (go_at_call 142; (with_reducible refine Calls.mono (HAD.out _ _ wc HV1.out HV2.out) ?_); rintro e wc ⟨⟨v4, rfl, hv4⟩, hbc⟩; (try have HV3 := Lib.hid (HV3.out.below hbc (Nat.le_refl _))); have HV4 := Lib.hid hv4; have HBC := Lib.hid (HBC.out.trans (hbc.mono HBC.out.size)); have px0 := cell_keep x0 HBC.out (Nat.le_refl _); have px1 := cell_keep x1 HBC.out (Nat.le_refl _); have px2 := cell_keep x2 HBC.out (Nat.le_refl _); have px3 := cell_keep x3 HBC.out (Nat.le_refl _); have py0 := cell_keep y0 HBC.out (Nat.le_refl _); have py1 := cell_keep y1 HBC.out (Nat.le_refl _); have py2 := cell_keep y2 HBC.out (Nat.le_refl _); have py3 := cell_keep y3 HBC.out (Nat.le_refl _); clear hbc hv4)
      | (go_at_call 141; (with_reducible refine Calls.mono (HQO.out _ _ wc HV4.out HV3.out) ?_); rintro e wc ⟨⟨v5, rfl, hv5⟩, hbc⟩; obtain ⟨vn, vd, rfl, hq1, hq2⟩ := hv5; obtain ⟨an, cn, rfl⟩ := hq1.cases; obtain ⟨ad, cd, rfl⟩ := hq2.cases; have HQ1 := Lib.hid hq1; have HQ2 := Lib.hid hq2; have HBC := Lib.hid (HBC.out.trans (hbc.mono HBC.out.size)); have px0 := cell_keep x0 HBC.out (Nat.le_refl _); have px1 := cell_keep x1 HBC.out (Nat.le_refl _); have px2 := cell_keep x2 HBC.out (Nat.le_refl _); have px3 := cell_keep x3 HBC.out (Nat.le_refl _); have py0 := cell_keep y0 HBC.out (Nat.le_refl _); have py1 := cell_keep y1 HBC.out (Nat.le_refl _); have py2 := cell_keep y2 HBC.out (Nat.le_refl _); have py3 := cell_keep y3 HBC.out (Nat.le_refl _); obtain ⟨-, -, q2, f2⟩ := HBX.out _ _ HBC.out (by omega); have q20 := q2 0; have q21 := q2 1; have q22 := q2 2; have q23 := q2 3; simp only [List.getElem?_toArray, List.getElem?_cons_succ, List.getElem?_cons_zero] at q20 q21 q22 q23; have f0 := f2 0; have f1 := f2 1; have f2' := f2 2; have f3 := f2 3; clear hbc hq1 hq2 q2 f2))
  all_goals
    have hbw := HB0.out.trans (HBC.out.mono HB0.out.size)
    have hle : w.heap.size ≤ w.heap.size + 2 := by omega
    go_wp2
    refine bodyPost_ret (v := .agg #[.bool (decide (P1 + P2 < 0)), .slice an (dig ((P1 + P2).natAbs / Nat.gcd (P1 + P2).natAbs P3)).length cn, .bool false, .slice ad (dig (P3 / Nat.gcd (P1 + P2).natAbs P3)).length cd]) (by simp [results, Tryz.results86, go_sem, q20, q21, q22, q23]) rfl ?_
    exact ⟨⟨_, rfl, _, _, rfl, HQ1.out.box4 q20 q21 q22 q23, HQ2.out.box4 q20 q21 q22 q23⟩, (((hbw.setCell hle _).setCell hle _).setCell hle _).setCell hle _⟩
end Go.Proofs.YtbjhjbjjfbmoeaaGreatDoor.Z4

/- The reference's comparison of whole numbers; the negative of a rational one. -/
namespace Go.Proofs.YtbjhjbjjfbmoeaaGreatDoor.Z4
open Go.RowKit

theorem two_box {w w0 : World} {B n : Nat} {z0 z1 u0 u1 : Value} (q0 : w.cell? ⟨B, 0, none⟩ = some z0) (q1 : w.cell? ⟨B, 1, none⟩ = some z1) (hb : Below n w0 w) (hB : n ≤ B) :
    ((w.setCell ⟨B, 0, none⟩ u0).setCell ⟨B, 1, none⟩ u1).cell? ⟨B, 0, none⟩ = some u0 ∧ ((w.setCell ⟨B, 0, none⟩ u0).setCell ⟨B, 1, none⟩ u1).cell? ⟨B, 1, none⟩ = some u1 ∧ Below n w0 ((w.setCell ⟨B, 0, none⟩ u0).setCell ⟨B, 1, none⟩ u1) := by
  refine ⟨?_, ?_, (hb.setCell hB _).setCell hB _⟩
  · rw [World.cell?_setCell_other _ _ _ _ (by simp)]; exact World.cell?_setCell_same' _ _ _ (by rw [q0]; rfl)
  · exact World.cell?_setCell_same' _ _ _ (by rw [World.cell?_setCell_other _ _ _ _ (by simp), q1]; rfl)
theorem new_box2 {w w0 : World} {n : Nat} {u0 u1 : Value} {T : TypeId} (hb : Below n w0 w) (hB : n ≤ w.heap.size) :
    (w.alloc (.cells #[u0, u1] T)).cell? ⟨w.heap.size, 0, none⟩ = some u0 ∧ (w.alloc (.cells #[u0, u1] T)).cell? ⟨w.heap.size, 1, none⟩ = some u1 ∧ Below n w0 (w.alloc (.cells #[u0, u1] T)) :=
  ⟨(cell_of_row _ _ 0 _ _ _ (heap_alloc_new w _)).trans rfl, (cell_of_row _ _ 1 _ _ _ (heap_alloc_new w _)).trans rfl, hb.alloc hB _⟩

/-- -1, 0 or 1 -/
def zcm (r : Int) : Int := if r = 0 then 0 else if r < 0 then -1 else 1

set_option maxRecDepth 100000 in
set_option maxHeartbeats 4000000 in
theorem zCmp_any (va vb : Value) (m n : Int) (w : World) (ha : ZV w va m) (hb : ZV w vb n) (hl : (dig m.natAbs).length ≤ 1099511627776) (hl2 : (dig n.natAbs).length ≤ 1099511627776) :
    Calls Tryz.prog 145 #[va, vb] w fun e w' => e = .returned (.int .i64 (zcm (m - n))) ∧ Below w.heap.size w w' := by
  have za := ha
  have zb := hb
  obtain ⟨aa, ca, rfl, -, -, -⟩ := ha
  obtain ⟨ab, cb, rfl, -, -, -⟩ := hb
  have hng := fun W (h : Below w.heap.size w W) => zNeg_any _ n W (zb.below h (Nat.le_refl _))
  have had := fun v W (h : Below w.heap.size w W) h2 => zAdd_any _ v m (-n) W (za.below h (Nat.le_refl _)) h2 hl (by rw [Int.natAbs_neg]; exact hl2)
  rw [show m + -n = m - n by omega] at had
  have HNG := Lib.hid hng; have HAD := Lib.hid had
  clear za zb hng had hl hl2
  generalize m - n = R at *
  have hr1 : R = 0 → (dig R.natAbs).length = 0 := fun h => by rw [h]; simp [dig_zero]
  have hr2 : R ≠ 0 → 0 < (dig R.natAbs).length := fun h => (len_ne R).2 h
  generalize (dig m.natAbs).length = lm at *
  generalize (dig n.natAbs).length = ln at *
  generalize decide (m < 0) = s1 at *
  generalize decide (n < 0) = s2 at *
  obtain ⟨W0, hW0⟩ : ∃ W0, W0 = ((w.alloc (.cells #[.bool s1, .slice aa lm ca] 118)).alloc (.cells #[.bool s2, .slice ab ln cb] 118)) := ⟨_, rfl⟩
  have hB0 : Below w.heap.size w W0 := by rw [hW0]; exact ((Below.refl _ _).alloc (Nat.le_refl _) _).alloc (by simp) _
  have hs2 : W0.heap.size = w.heap.size + 2 := by rw [hW0]; simp
  replace hs2 : w.heap.size + 2 ≤ W0.heap.size := Nat.le_of_eq hs2.symm
  have x0 : W0.cell? ⟨w.heap.size, 0, none⟩ = some (.bool s1) := by rw [hW0]; exact (cell_of_row _ _ 0 _ _ _ (heap_alloc2_old w _ _)).trans rfl
  have x1 : W0.cell? ⟨w.heap.size, 1, none⟩ = some (.slice aa lm ca) := by rw [hW0]; exact (cell_of_row _ _ 1 _ _ _ (heap_alloc2_old w _ _)).trans rfl
  have y0 : W0.cell? ⟨w.heap.size + 1, 0, none⟩ = some (.bool s2) := by rw [hW0]; exact (cell_of_row _ _ 0 _ _ _ (heap_alloc2_new w _ _)).trans rfl
  have y1 : W0.cell? ⟨w.heap.size + 1, 1, none⟩ = some (.slice ab ln cb) := by rw [hW0]; exact (cell_of_row _ _ 1 _ _ _ (heap_alloc2_new w _ _)).trans rfl
  have xd0 : W0.drew.cell? ⟨w.heap.size, 0, none⟩ = some (.bool s1) := x0
  have xd1 : W0.drew.cell? ⟨w.heap.size, 1, none⟩ = some (.slice aa lm ca) := x1
  have yd0 : W0.drew.cell? ⟨w.heap.size + 1, 0, none⟩ = some (.bool s2) := y0
  have yd1 : W0.drew.cell? ⟨w.heap.size + 1, 1, none⟩ = some (.slice ab ln cb) := y1
  have HB0 := Lib.hid hB0; have HW0 := Lib.hid hW0; have HR1 := Lib.hid hr1; have HR2 := Lib.hid hr2
  clear hB0 hW0 hr1 hr2
  go_enter Tryz.func145, Tryz.ntmps145
  go_wp2_with fail
  rw [← HW0.out]
  go_region_held3 (fun w' => w'.cell? ⟨w.heap.size, 0, none⟩ = some (.bool s1) ∧ w'.cell? ⟨w.heap.size, 1, none⟩ = some (.slice aa lm ca) ∧ w'.cell? ⟨w.heap.size + 1, 0, none⟩ = some (.bool s2) ∧ w'.cell? ⟨w.heap.size + 1, 1, none⟩ = some (.slice ab ln cb))
    (first | with_reducible exact ⟨x0, x1, y0, y1⟩ | with_reducible exact ⟨xd0, xd1, yd0, yd1⟩ | with_reducible exact ⟨px0, px1, py0, py1⟩ | with_reducible exact ⟨rx0, rx1, ry0, ry1⟩ | (refine ⟨?_, ?_, ?_, ?_⟩ <;> (repeat rw [World.cell?_setCell_other _ _ _ _ (by simp <;> omega)]) <;> assumption) | go_keep)
    (first | (go_at_call 144; (with_reducible refine Calls.mono (HNG.out W0.drew HB0.out.drew) ?_); rintro e w4 ⟨⟨v4, rfl, h4⟩, hb4⟩; have hbz : Below W0.heap.size W0 w4 := ((Below.refl W0.heap.size W0).drew).trans hb4; have HB4 := Lib.hid hbz; have HV4 := Lib.hid h4; have hs4 : w.heap.size + 2 ≤ w4.heap.size := Nat.le_trans hs2 hbz.size; have px0 := cell_keep x0 hbz (Nat.le_refl _); have px1 := cell_keep x1 hbz (Nat.le_refl _); have py0 := cell_keep y0 hbz (Nat.le_refl _); have py1 := cell_keep y1 hbz (Nat.le_refl _); clear h4 hb4 hbz) | (go_at_call 144; (with_reducible refine Calls.mono (HNG.out ((W0.alloc (.cells #[.bool false, .slice none 0 0] 118)).drew) ((HB0.out.alloc (by omega) _).drew)) ?_); rintro e w4 ⟨⟨v4, rfl, h4⟩, hb4⟩; have hbz : Below W0.heap.size W0 w4 := (((Below.refl W0.heap.size W0).alloc (Nat.le_refl _) _).drew).trans (hb4.mono (by show W0.heap.size ≤ (W0.alloc _).heap.size; simp)); have HB4 := Lib.hid hbz; have HV4 := Lib.hid h4; have hs4 : w.heap.size + 2 ≤ w4.heap.size := Nat.le_trans hs2 hbz.size; have px0 := cell_keep x0 hbz (Nat.le_refl _); have px1 := cell_keep x1 hbz (Nat.le_refl _); have py0 := cell_keep y0 hbz (Nat.le_refl _); have py1 := cell_keep y1 hbz (Nat.le_refl _); have HBKA := Lib.hid ((hb4.block W0.heap.size (by show W0.heap.size < (W0.alloc _).heap.size; simp)).trans (heap_alloc_new W0 (.cells #[.bool false, .slice none 0 0] 118))); clear h4 hb4 hbz) | (go_at_call 142; (with_reducible refine Calls.mono (HAD.out _ w4 (HB0.out.trans (HB4.out.mono HB0.out.size)) HV4.out) ?_); rintro e w5 ⟨⟨v5, rfl, h5⟩, hb5⟩; have hbz : Below W0.heap.size W0 w5 := HB4.out.trans (hb5.mono HB4.out.size); have HB5 := Lib.hid hbz; have hs5 : w.heap.size + 2 ≤ w5.heap.size := Nat.le_trans hs2 hbz.size; obtain ⟨g, cg, rfl, -, -, -⟩ := h5; have rx0 := cell_keep x0 hbz (Nat.le_refl _); have rx1 := cell_keep x1 hbz (Nat.le_refl _); have ry0 := cell_keep y0 hbz (Nat.le_refl _); have ry1 := cell_keep y1 hbz (Nat.le_refl _); have hbk5 := (hb5.block W0.heap.size (Array.getElem?_eq_some_iff.1 HBKA.out).1).trans HBKA.out; have z0 := (cell_of_row w5 _ 0 _ _ _ hbk5).trans rfl; have z1 := (cell_of_row w5 _ 1 _ _ _ hbk5).trans rfl; have zf0 := frozen_of_row w5 _ 0 _ _ hbk5; have zf1 := frozen_of_row w5 _ 1 _ _ hbk5; clear hbk5; clear hb5 hbz) | (go_at_call 142; (with_reducible refine Calls.mono (HAD.out _ w4 (HB0.out.trans (HB4.out.mono HB0.out.size)) HV4.out) ?_); rintro e w5 ⟨⟨v5, rfl, h5⟩, hb5⟩; have hbz : Below W0.heap.size W0 w5 := HB4.out.trans (hb5.mono HB4.out.size); have HB5 := Lib.hid hbz; have hs5 : w.heap.size + 2 ≤ w5.heap.size := Nat.le_trans hs2 hbz.size; obtain ⟨g, cg, rfl, -, -, -⟩ := h5; have rx0 := cell_keep x0 hbz (Nat.le_refl _); have rx1 := cell_keep x1 hbz (Nat.le_refl _); have ry0 := cell_keep y0 hbz (Nat.le_refl _); have ry1 := cell_keep y1 hbz (Nat.le_refl _); clear hb5 hbz) | (go_at_call 142; (with_reducible refine Calls.mono (HAD.out _ (w4.alloc (.cells #[.bool false, .slice none 0 0] 118)) ((HB0.out.trans (HB4.out.mono HB0.out.size)).alloc (by omega) _) (HV4.out.below ((Below.refl w4.heap.size w4).alloc (Nat.le_refl _) _) (Nat.le_refl _))) ?_); rintro e w5 ⟨⟨v5, rfl, h5⟩, hb5⟩; have hbz : Below W0.heap.size W0 w5 := (HB4.out.alloc HB4.out.size _).trans (hb5.mono (by have := HB4.out.size; simp; omega)); have HB5 := Lib.hid hbz; have hs5 : w.heap.size + 2 ≤ w5.heap.size := Nat.le_trans hs2 hbz.size; obtain ⟨g, cg, rfl, -, -, -⟩ := h5; have rx0 := cell_keep x0 hbz (Nat.le_refl _); have rx1 := cell_keep x1 hbz (Nat.le_refl _); have ry0 := cell_keep y0 hbz (Nat.le_refl _); have ry1 := cell_keep y1 hbz (Nat.le_refl _); have hbk5 := (hb5.block w4.heap.size (by simp)).trans (heap_alloc_new w4 (.cells #[.bool false, .slice none 0 0] 118)); have z0 := (cell_of_row w5 _ 0 _ _ _ hbk5).trans rfl; have z1 := (cell_of_row w5 _ 1 _ _ _ hbk5).trans rfl; have zf0 := frozen_of_row w5 _ 0 _ _ hbk5; have zf1 := frozen_of_row w5 _ 1 _ _ hbk5; clear hbk5; clear hb5 hbz))
  all_goals (have hbw := HB0.out.trans (HB5.out.mono (by omega)))
  all_goals (first
    | (revert z0; intro z0; obtain ⟨q0, q1, hbF⟩ := two_box (u0 := .bool (decide (R < 0))) (u1 := .slice g (dig R.natAbs).length cg) z0 z1 hbw (by omega))
    | (obtain ⟨q0, q1, hbF⟩ := new_box2 (T := 118) (u0 := .bool (decide (R < 0))) (u1 := .slice g (dig R.natAbs).length cg) hbw (by omega)))
  all_goals
    by_cases hp : R = 0
    · have hd := HR1.out hp
      have HH : Hid (zcm R = 0) := by unfold zcm; rw [if_pos hp]; exact Lib.hid rfl
      rw [hd] at q1 hbF ⊢
      clear hp hd
      go_wp2
      go_ret
      exact ⟨by rw [HH.out]; rfl, hbF⟩
    · have hd := HR2.out hp
      have hd1 : ((((dig R.natAbs).length : Nat) : Int) == 0) = false := by rw [beq_eq_false_iff_ne]; omega
      by_cases hn : R < 0
      · have HH : Hid (zcm R = -1) := by unfold zcm; rw [if_neg hp, if_pos hn]; exact Lib.hid rfl
        rw [decide_eq_true hn] at q0 hbF ⊢
        clear hp hn
        go_wp2
        go_ret
        exact ⟨by rw [HH.out]; rfl, hbF⟩
      · have HH : Hid (zcm R = 1) := by unfold zcm; rw [if_neg hp, if_neg hn]; exact Lib.hid rfl
        rw [decide_eq_false hn] at q0 hbF ⊢
        clear hp hn
        go_wp2
        go_ret
        exact ⟨by rw [HH.out]; rfl, hbF⟩
end Go.Proofs.YtbjhjbjjfbmoeaaGreatDoor.Z4

/- The reference's rational numbers: the negative, and the comparison. -/
namespace Go.Proofs.YtbjhjbjjfbmoeaaGreatDoor.Z4
open Go.RowKit

set_option maxRecDepth 100000 in
set_option maxHeartbeats 4000000 in
theorem qNeg_any (va : Value) (N : Int) (d : Nat) (w : World) (ha : QV w va (decide (N < 0)) N.natAbs d) :
    Calls Tryz.prog 88 #[va] w fun e w' => (∃ v, e = .returned v ∧ QV w' v (decide (-N < 0)) (-N).natAbs d) ∧ Below w.heap.size w w' := by
  obtain ⟨vn, vd, rfl, ⟨a1, c1, rfl, h1, h2, h3⟩, ⟨b1, e1, rfl, h4, h5, h6⟩⟩ := ha
  have za : ZV w (.agg #[.bool (decide (N < 0)), .slice a1 (dig N.natAbs).length c1]) N := ⟨a1, c1, rfl, h1, h2, h3⟩
  have hmd : MV w (.slice b1 (dig d).length e1) d := ⟨b1, e1, rfl, h4, h5, h6⟩
  have hng := fun W (h : Below w.heap.size w W) => zNeg_any _ N W (za.below h (Nat.le_refl _))
  have HNG := Lib.hid hng; have HMD := Lib.hid hmd
  clear za hmd hng h1 h2 h3 h4 h5 h6
  generalize -N = M at *
  generalize (dig N.natAbs).length = n1 at *
  generalize decide (N < 0) = s1 at *
  obtain ⟨m1, hm1⟩ : ∃ m1, (dig d).length = m1 := ⟨_, rfl⟩
  rw [hm1] at HMD ⊢
  obtain ⟨W0, hW0⟩ : ∃ W0, W0 = ((w.alloc (.cells #[.bool s1, .slice a1 n1 c1, .bool false, .slice b1 m1 e1] 120)).alloc (.cells #[.bool false, .slice none 0 0, .bool false, .slice none 0 0] 120)) := ⟨_, rfl⟩
  have hB0 : Below w.heap.size w W0 := by rw [hW0]; exact ((Below.refl _ _).alloc (Nat.le_refl _) _).alloc (by simp) _
  have hs2 : W0.heap.size = w.heap.size + 2 := by rw [hW0]; simp
  have x0 : W0.cell? ⟨w.heap.size, 0, none⟩ = some (.bool s1) := by rw [hW0]; exact (cell_of_row _ _ 0 _ _ _ (heap_alloc2_old w _ _)).trans rfl
  have x1 : W0.cell? ⟨w.heap.size, 1, none⟩ = some (.slice a1 n1 c1) := by rw [hW0]; exact (cell_of_row _ _ 1 _ _ _ (heap_alloc2_old w _ _)).trans rfl
  have x2 : W0.cell? ⟨w.heap.size, 2, none⟩ = some (.bool false) := by rw [hW0]; exact (cell_of_row _ _ 2 _ _ _ (heap_alloc2_old w _ _)).trans rfl
  have x3 : W0.cell? ⟨w.heap.size, 3, none⟩ = some (.slice b1 m1 e1) := by rw [hW0]; exact (cell_of_row _ _ 3 _ _ _ (heap_alloc2_old w _ _)).trans rfl
  have xd0 : W0.drew.cell? ⟨w.heap.size, 0, none⟩ = some (.bool s1) := x0
  have xd1 : W0.drew.cell? ⟨w.heap.size, 1, none⟩ = some (.slice a1 n1 c1) := x1
  have xd2 : W0.drew.cell? ⟨w.heap.size, 2, none⟩ = some (.bool false) := x2
  have xd3 : W0.drew.cell? ⟨w.heap.size, 3, none⟩ = some (.slice b1 m1 e1) := x3
  have hq := fun (B : Nat) (w1 : World) (h : Below B W0 w1) (h2 : w.heap.size + 1 < B) (i : Nat) => box_keep1 (w := w) (by rw [hW0] at h; exact h) h2 i
  have hf := fun (B : Nat) (w1 : World) (h : Below B W0 w1) (h2 : w.heap.size + 1 < B) (i : Nat) => box_free1 (w := w) (by rw [hW0] at h; exact h) h2 i
  have HQ := Lib.hid hq; have HF := Lib.hid hf; have HB0 := Lib.hid hB0
  have HBC := Lib.hid ((Below.refl W0.heap.size W0).drew)
  obtain ⟨wc, hwc⟩ : ∃ wc, wc = W0.drew := ⟨_, rfl⟩
  rw [← hwc] at HBC
  clear hq hf hB0
  go_enter Tryz.func88, Tryz.ntmps88
  go_wp2_with fail
  rw [← hW0]
  clear hW0
  go_region_held3 (fun w' => w'.cell? ⟨w.heap.size, 0, none⟩ = some (.bool s1) ∧ w'.cell? ⟨w.heap.size, 1, none⟩ = some (.slice a1 n1 c1) ∧ w'.cell? ⟨w.heap.size, 2, none⟩ = some (.bool false) ∧ w'.cell? ⟨w.heap.size, 3, none⟩ = some (.slice b1 m1 e1))
    (first | with_reducible exact ⟨px0, px1, px2, px3⟩ | with_reducible exact ⟨x0, x1, x2, x3⟩ | with_reducible exact ⟨xd0, xd1, xd2, xd3⟩ | (refine ⟨?_, ?_, ?_, ?_⟩ <;> (repeat rw [World.cell?_setCell_other _ _ _ _ (by simp)]) <;> assumption) | go_keep)
    (first
      | (go_at_call 144; (try rw [← hwc]); (with_reducible refine Calls.mono (HNG.out wc (HB0.out.trans (HBC.out.mono HB0.out.size))) ?_); rintro e wc ⟨⟨v5, rfl, hv5⟩, hbc⟩; obtain ⟨g, cg, rfl, hg1, hg2, hg3⟩ := hv5; have HG1 := Lib.hid hg1; have HBC := Lib.hid (HBC.out.trans (hbc.mono HBC.out.size)); have px0 := cell_keep x0 HBC.out (Nat.le_refl _); have px1 := cell_keep x1 HBC.out (Nat.le_refl _); have px2 := cell_keep x2 HBC.out (Nat.le_refl _); have px3 := cell_keep x3 HBC.out (Nat.le_refl _); have q20 := HQ.out _ _ HBC.out (by omega) 0; have q21 := HQ.out _ _ HBC.out (by omega) 1; have q22 := HQ.out _ _ HBC.out (by omega) 2; have q23 := HQ.out _ _ HBC.out (by omega) 3; simp only [List.getElem?_toArray, List.getElem?_cons_succ, List.getElem?_cons_zero] at q20 q21 q22 q23; have f0 := HF.out _ _ HBC.out (by omega) 0; have f1 := HF.out _ _ HBC.out (by omega) 1; have f2 := HF.out _ _ HBC.out (by omega) 2; have f3 := HF.out _ _ HBC.out (by omega) 3; clear hbc hg1))
  all_goals
    have hbw := HB0.out.trans (HBC.out.mono HB0.out.size)
    have hle : w.heap.size ≤ w.heap.size + 1 := by omega
    have HM := Lib.hid (HMD.out.below hbw (Nat.le_refl _))
    have HV : Hid (MV wc (.slice g (dig M.natAbs).length cg) M.natAbs) := ⟨g, cg, rfl, HG1.out, hg2, hg3⟩
    go_wp2
    refine bodyPost_ret (v := .agg #[.bool (decide (M < 0)), .slice g (dig M.natAbs).length cg, .bool false, .slice b1 m1 e1]) (by simp [results, Tryz.results88, go_sem, q20, q21, q22, q23]) rfl ?_
    exact ⟨⟨_, rfl, _, _, rfl, HV.out.box4 q20 q21 q22 q23, HM.out.box4 q20 q21 q22 q23⟩, (((hbw.setCell hle _).setCell hle _).setCell hle _).setCell hle _⟩

set_option maxRecDepth 100000 in
set_option maxHeartbeats 4000000 in
theorem qCmp_any (va vb : Value) (N1 N2 : Int) (d1 d2 : Nat) (w : World) (ha : QV w va (decide (N1 < 0)) N1.natAbs d1) (hb : QV w vb (decide (N2 < 0)) N2.natAbs d2)
    (l1 : (dig N1.natAbs).length ≤ 1073741824) (l2 : (dig N2.natAbs).length ≤ 1073741824) (l3 : (dig d1).length ≤ 1073741824) (l4 : (dig d2).length ≤ 1073741824)
    (l5 : (dig (N1 * d2).natAbs).length ≤ 549755813888) (l6 : (dig (N2 * d1).natAbs).length ≤ 549755813888) :
    Calls Tryz.prog 119 #[va, vb] w fun e w' => e = .returned (.int .i64 (zcm (N1 * d2 - N2 * d1))) ∧ Below w.heap.size w w' := by
  obtain ⟨a1, b1, n1, c1, m1, e1, rfl, za, zb⟩ := ha.zn
  obtain ⟨a2, b2, n2, c2, m2, e2, rfl, zc, zd⟩ := hb.zn
  have hm1 := fun W (h : Below w.heap.size w W) => zMul_any _ _ N1 d2 W (za.below h (Nat.le_refl _)) (zd.below h (Nat.le_refl _)) (by rw [Int.natAbs_natCast]; omega)
  have hm2 := fun W (h : Below w.heap.size w W) => zMul_any _ _ N2 d1 W (zc.below h (Nat.le_refl _)) (zb.below h (Nat.le_refl _)) (by rw [Int.natAbs_natCast]; omega)
  have had := fun v1 v2 W g1 g2 => zCmp_any v1 v2 (N1 * d2) (N2 * d1) W g1 g2 (by omega) (by omega)
  have HM1 := Lib.hid hm1; have HM2 := Lib.hid hm2; have HAD := Lib.hid had
  clear ha hb hm1 hm2 had za zb zc zd l1 l2 l3 l4 l5 l6
  generalize N1 * (d2 : Int) = P1 at *
  generalize N2 * (d1 : Int) = P2 at *
  generalize decide (N1 < 0) = s1 at *
  generalize decide (N2 < 0) = s2 at *
  obtain ⟨W0, hW0⟩ : ∃ W0, W0 = ((w.alloc (.cells #[.bool s1, .slice a1 n1 c1, .bool false, .slice b1 m1 e1] 120)).alloc (.cells #[.bool s2, .slice a2 n2 c2, .bool false, .slice b2 m2 e2] 120)) := ⟨_, rfl⟩
  have hB0 : Below w.heap.size w W0 := by rw [hW0]; exact ((Below.refl _ _).alloc (Nat.le_refl _) _).alloc (by simp) _
  have x0 : W0.cell? ⟨w.heap.size, 0, none⟩ = some (.bool s1) := by rw [hW0]; exact (cell_of_row _ _ 0 _ _ _ (heap_alloc2_old w _ _)).trans rfl
  have x1 : W0.cell? ⟨w.heap.size, 1, none⟩ = some (.slice a1 n1 c1) := by rw [hW0]; exact (cell_of_row _ _ 1 _ _ _ (heap_alloc2_old w _ _)).trans rfl
  have x2 : W0.cell? ⟨w.heap.size, 2, none⟩ = some (.bool false) := by rw [hW0]; exact (cell_of_row _ _ 2 _ _ _ (heap_alloc2_old w _ _)).trans rfl
  have x3 : W0.cell? ⟨w.heap.size, 3, none⟩ = some (.slice b1 m1 e1) := by rw [hW0]; exact (cell_of_row _ _ 3 _ _ _ (heap_alloc2_old w _ _)).trans rfl
  have y0 : W0.cell? ⟨w.heap.size + 1, 0, none⟩ = some (.bool s2) := by rw [hW0]; exact (cell_of_row _ _ 0 _ _ _ (heap_alloc2_new w _ _)).trans rfl
  have y1 : W0.cell? ⟨w.heap.size + 1, 1, none⟩ = some (.slice a2 n2 c2) := by rw [hW0]; exact (cell_of_row _ _ 1 _ _ _ (heap_alloc2_new w _ _)).trans rfl
  have y2 : W0.cell? ⟨w.heap.size + 1, 2, none⟩ = some (.bool false) := by rw [hW0]; exact (cell_of_row _ _ 2 _ _ _ (heap_alloc2_new w _ _)).trans rfl
  have y3 : W0.cell? ⟨w.heap.size + 1, 3, none⟩ = some (.slice b2 m2 e2) := by rw [hW0]; exact (cell_of_row _ _ 3 _ _ _ (heap_alloc2_new w _ _)).trans rfl
  have xd0 : W0.drew.cell? ⟨w.heap.size, 0, none⟩ = some (.bool s1) := x0
  have xd1 : W0.drew.cell? ⟨w.heap.size, 1, none⟩ = some (.slice a1 n1 c1) := x1
  have xd2 : W0.drew.cell? ⟨w.heap.size, 2, none⟩ = some (.bool false) := x2
  have xd3 : W0.drew.cell? ⟨w.heap.size, 3, none⟩ = some (.slice b1 m1 e1) := x3
  have yd0 : W0.drew.cell? ⟨w.heap.size + 1, 0, none⟩ = some (.bool s2) := y0
  have yd1 : W0.drew.cell? ⟨w.heap.size + 1, 1, none⟩ = some (.slice a2 n2 c2) := y1
  have yd2 : W0.drew.cell? ⟨w.heap.size + 1, 2, none⟩ = some (.bool false) := y2
  have yd3 : W0.drew.cell? ⟨w.heap.size + 1, 3, none⟩ = some (.slice b2 m2 e2) := y3
  have HB0 := Lib.hid hB0
  have HBC := Lib.hid ((Below.refl W0.heap.size W0).drew)
  obtain ⟨wc, hwc⟩ : ∃ wc, wc = W0.drew := ⟨_, rfl⟩
  rw [← hwc] at HBC
  clear hB0
  go_enter Tryz.func119, Tryz.ntmps119
  go_wp2_with fail
  rw [← hW0]
  clear hW0
  go_region_held3 (fun w' => w'.cell? ⟨w.heap.size, 0, none⟩ = some (.bool s1) ∧ w'.cell? ⟨w.heap.size, 1, none⟩ = some (.slice a1 n1 c1) ∧ w'.cell? ⟨w.heap.size, 2, none⟩ = some (.bool false) ∧ w'.cell? ⟨w.heap.size, 3, none⟩ = some (.slice b1 m1 e1) ∧ w'.cell? ⟨w.heap.size + 1, 0, none⟩ = some (.bool s2) ∧ w'.cell? ⟨w.heap.size + 1, 1, none⟩ = some (.slice a2 n2 c2) ∧ w'.cell? ⟨w.heap.size + 1, 2, none⟩ = some (.bool false) ∧ w'.cell? ⟨w.heap.size + 1, 3, none⟩ = some (.slice b2 m2 e2))
    (first | with_reducible exact ⟨px0, px1, px2, px3, py0, py1, py2, py3⟩ | with_reducible exact ⟨x0, x1, x2, x3, y0, y1, y2, y3⟩ | with_reducible exact ⟨xd0, xd1, xd2, xd3, yd0, yd1, yd2, yd3⟩ | (refine ⟨?_, ?_, ?_, ?_, ?_, ?_, ?_, ?_⟩ <;> (repeat rw [World.cell?_setCell_other _ _ _ _ (by simp)]) <;> assumption) | go_keep)
    (first
      | (go_at_call 143; (try rw [← hwc]); (with_reducible refine Calls.mono (HM1.out wc (HB0.out.trans (HBC.out.mono HB0.out.size))) ?_); rintro e wc ⟨⟨v1, rfl, hv1⟩, hbc⟩; (try have HV2 := Lib.hid (HV2.out.below hbc (Nat.le_refl _))); have HV1 := Lib.hid hv1; have HBC := Lib.hid (HBC.out.trans (hbc.mono HBC.out.size)); have px0 := cell_keep x0 HBC.out (Nat.le_refl _); have px1 := cell_keep x1 HBC.out (Nat.le_refl _); have px2 := cell_keep x2 HBC.out (Nat.le_refl _); have px3 := cell_keep x3 HBC.out (Nat.le_refl _); have py0 := cell_keep y0 HBC.out (Nat.le_refl _); have py1 := cell_keep y1 HBC.out (Nat.le_refl _); have py2 := cell_keep y2 HBC.out (Nat.le_refl _); have py3 := cell_keep y3 HBC.out (Nat.le_refl _); clear hbc hv1)
      | (go_at_call 143; (try rw [← hwc]); (with_reducible refine Calls.mono (HM2.out wc (HB0.out.trans (HBC.out.mono HB0.out.size))) ?_); rintro e wc ⟨⟨v2, rfl, hv2⟩, hbc⟩; (try have HV1 := Lib.hid (HV1.out.below hbc (Nat.le_refl _))); have HV2 := Lib.hid hv2; have HBC := Lib.hid (HBC.out.trans (hbc.mono HBC.out.size)); have px0 := cell_keep x0 HBC.out (Nat.le_refl _); have px1 := cell_keep x1 HBC.out (Nat.le_refl _); have px2 := cell_keep x2 HBC.out (Nat.le_refl _); have px3 := cell_keep x3 HBC.out (Nat.le_refl _); have py0 := cell_keep y0 HBC.out (Nat.le_refl _); have py1 := cell_keep y1 HBC.out (Nat.le_refl _); have py2 := cell_keep y2 HBC.out (Nat.le_refl _); have py3 := cell_keep y3 HBC.out (Nat.le_refl _); clear hbc hv2)
      | (go_at_call 145; (with_reducible refine Calls.mono (HAD.out _ _ wc HV1.out HV2.out) ?_); rintro e wc ⟨rfl, hbc⟩; have HBC := Lib.hid (HBC.out.trans (hbc.mono HBC.out.size)); have px0 := cell_keep x0 HBC.out (Nat.le_refl _); have px1 := cell_keep x1 HBC.out (Nat.le_refl _); have px2 := cell_keep x2 HBC.out (Nat.le_refl _); have px3 := cell_keep x3 HBC.out (Nat.le_refl _); have py0 := cell_keep y0 HBC.out (Nat.le_refl _); have py1 := cell_keep y1 HBC.out (Nat.le_refl _); have py2 := cell_keep y2 HBC.out (Nat.le_refl _); have py3 := cell_keep y3 HBC.out (Nat.le_refl _); clear hbc))
  all_goals
    have hbw := HB0.out.trans (HBC.out.mono HB0.out.size)
    go_wp2
    go_ret
    exact ⟨rfl, hbw⟩
end Go.Proofs.YtbjhjbjjfbmoeaaGreatDoor.Z4

/- enough, of the reference. -/
namespace Go.Proofs.YtbjhjbjjfbmoeaaGreatDoor
open Go.RowKit

theorem refAbs_any (n : Int) (w : World) (h1 : -9223372036854775807 ≤ n) (h2 : n ≤ 9223372036854775807) :
    Calls Tryz.prog 41 #[.int .i64 n] w fun e w' => e = .returned (.int .i64 n.natAbs) ∧ w = w' := by
  by_cases h : n < 0
  · have e1 : ((n.natAbs : Nat) : Int) = -n := by omega
    rw [e1]
    go_enter Tryz.func41, Tryz.ntmps41
    go_wp2
    go_ret
    exact ⟨rfl, rfl⟩
  · have e1 : ((n.natAbs : Nat) : Int) = n := by omega
    rw [e1]
    go_enter Tryz.func41, Tryz.ntmps41
    go_wp2
    go_ret
    exact ⟨rfl, rfl⟩

/-- the sum of the magnitudes -/
def abS (us : List Int) : Nat → Int
  | 0 => 0
  | n + 1 => abS us n + ((us.getD n 0).natAbs : Int)
theorem abS_bd {us : List Int} (h1 : ∀ x ∈ us, -127 ≤ x ∧ x ≤ 127) (n : Nat) : 0 ≤ abS us n ∧ abS us n ≤ 127 * (n : Int) := by
  induction n with
  | zero => simp [abS]
  | succ n ih =>
    have g1 := getD_in (by omega) h1 n
    simp only [abS]; omega
/-- is an amplitude enough? -/
def enoB (us : List Int) (L : Nat) (a ns bd : Int) : Bool := decide (0 < a * sqTo us 0 L - ns * abS us L) && decide (bd ≤ (a * sqTo us 0 L - ns * abS us L) * (a * sqTo us 0 L - ns * abS us L))

set_option maxRecDepth 100000 in
set_option maxHeartbeats 4000000 in
theorem refEnough_any (xs : List Int) (L : Nat) (a ns bd : Int) (ao : Option Addr) (ca : Nat) (w : World) (hx : xs.length = 64) (hL : L ≤ 64) (h1 : ∀ x ∈ xs, -127 ≤ x ∧ x ≤ 127) (a1 : 0 ≤ a) (a2 : a ≤ 1048577) (b1 : 0 ≤ ns) (b2 : ns ≤ 32768) (c1 : 0 ≤ bd) (c2 : bd ≤ 1152921504606846976)
    (hc : Cells w ao ((xs.take L).map (Value.int .i64))) :
    Calls Tryz.prog 90 #[.slice ao L ca, .int .i64 a, .int .i64 ns, .int .i64 bd] w fun e w' => e = .returned (.bool (enoB xs L a ns bd)) ∧ Below w.heap.size w w' := by
  have hnm := fun W hc => refNorm_any xs L ao ca W hx hL h1 hc
  have hab := abS_bd h1
  have hsq := sqTo_bd h1 0 L
  have hsn := sqTo_nn xs 0 L
  have eB : enoB xs L a ns bd = (decide (0 < a * sqTo xs 0 L - ns * abS xs L) && decide (bd ≤ (a * sqTo xs 0 L - ns * abS xs L) * (a * sqTo xs 0 L - ns * abS xs L))) := rfl
  rw [eB]
  generalize sqTo xs 0 L = S at *
  have pa := mul_bd (A := 1048577) (X := 1032256) (show -1048577 ≤ a by omega) a2 (show -1032256 ≤ S by omega) (by omega)
  have pb := mul_bd (A := 32768) (X := 8128) (show -32768 ≤ ns by omega) b2 (show -8128 ≤ abS xs L by have := hab L; omega) (by have := hab L; omega)
  have q1 : IntKind.i64.wrap (a * S) = a * S := IntWalk.i64_in _ (by omega)
  have q2 : IntKind.i64.wrap (ns * abS xs L) = ns * abS xs L := IntWalk.i64_in _ (by omega)
  have HQ := Lib.hid (And.intro q1 q2)
  obtain ⟨N, hN⟩ : ∃ N, N = a * S - ns * abS xs L := ⟨_, rfl⟩
  have q3 : IntKind.i64.wrap (a * S - ns * abS xs L) = N := by rw [hN]; exact IntWalk.i64_in _ (by omega)
  have HQ3 := Lib.hid q3
  rw [← hN]
  have hNb : -2000000000000 ≤ N ∧ N ≤ 2000000000000 := by omega
  have hz1 := fun W => Z4.zOf_any N W (by omega) (by omega)
  have hz2 := fun W => Z4.zOf_any bd W (by omega) (by omega)
  have hzm := fun v W g => Z4.zMul_any v v N N W g g (by have := Z4.dig_len_i64 (n := N.natAbs) (by omega); omega)
  have hNN : (Z4.dig (N * N).natAbs).length ≤ 1099511627776 := by
    have h5 := mul_bd (A := 2000000000000) (X := 2000000000000) hNb.1 hNb.2 hNb.1 hNb.2
    have := Z4.dig_len_lt (n := (N * N).natAbs) (k := 10) (by simp only [Z4.B]; omega)
    omega
  have hzc := fun v1 v2 W g1 g2 => Z4.zCmp_any v1 v2 (N * N) bd W g1 g2 hNN (by have := Z4.dig_len_i64 (n := bd.natAbs) (by omega); omega)
  have hzz : (decide (0 ≤ Z4.zcm (N * N - bd))) = decide (bd ≤ N * N) := by
    rw [Bool.eq_iff_iff, decide_eq_true_iff, decide_eq_true_iff]
    unfold Z4.zcm
    generalize N * N = Q
    by_cases h0 : Q - bd = 0
    · rw [if_pos h0]; omega
    · rw [if_neg h0]; split <;> omega
  have HNM := Lib.hid hnm; have HAB := Lib.hid hab; have HZ1 := Lib.hid hz1; have HZ2 := Lib.hid hz2; have HZM := Lib.hid hzm; have HZC := Lib.hid hzc; have HZZ := Lib.hid hzz
  have HC := Lib.hid hc; have H1 := Lib.hid h1
  clear hnm hab hz1 hz2 hzm hzc hzz hc h1 hsq hsn pa pb q1 q2 q3 hN eB hNN
  go_enter Tryz.func90, Tryz.ntmps90
  go_wp2
  go_loopw [9, 10] (fun s i wr => ∃ k : Nat, k ≤ L ∧ i = .int .i64 (k : Int) ∧ s = .int .i64 (abS xs k) ∧ Below w.heap.size w wr) (fun _ i _ => L - (intOf i).toNat)
  case atStart => exact ⟨0, Nat.zero_le _, rfl, rfl, Below.refl _ _⟩
  case round =>
    obtain ⟨k, hk, rfl, rfl, hb⟩ := hrel
    by_cases hlt : k < L
    · obtain ⟨x, hxx⟩ := get_of_lt (show k < xs.length by omega)
      have hxt : (xs.take L)[k]? = some x := by rw [List.getElem?_take, if_pos hlt]; exact hxx
      obtain ⟨b, off, rfl⟩ := HC.out.addr (by intro h; rw [List.map_eq_nil_iff] at h; rw [h] at hxt; simp at hxt)
      have hcx := cell_keep (HC.out.int hxt) hb (Nat.le_refl _)
      have m1 := H1.out x (List.mem_of_getElem? hxx)
      have bs := HAB.out k
      have hra := fun W => refAbs_any x W (by omega) (by omega)
      have e1 : abS xs (k + 1) = abS xs k + (x.natAbs : Int) := by simp [abS, hxx]
      have E1 := Lib.hid e1; have HRA := Lib.hid hra
      clear e1 hxx hxt hra
      obtain ⟨y, hy⟩ : ∃ y : Nat, y = x.natAbs := ⟨_, rfl⟩
      have hyb : y ≤ 127 := by omega
      rw [← hy] at HRA E1
      have i1 : (k : Int) < L := by omega
      have i2 : (0 : Int) ≤ k := by omega
      have q5 : IntKind.i64.wrap (abS xs k + y) = abS xs k + y := IntWalk.i64_in _ (by omega)
      clear hy
      go_wp2_with (go_at_call 41; refine (HRA.out _).mono ?_; rintro e w' ⟨rfl, rfl⟩)
      go_roundw
      case rel => exact ⟨k + 1, by omega, by go_num, by rw [E1.out], hb⟩
      case measure => simp [intOf]; omega
    · obtain rfl : k = L := by omega
      have q1 := HQ.out.1
      have q2 := HQ.out.2
      have q3 := HQ3.out
      go_wp2_with fail
      refine (HNM.out _ (HC.out.below hb (Nat.le_refl _))).mono ?_
      rintro e w1 ⟨rfl, hb1⟩
      have g1 := hb.trans (hb1.mono hb.size)
      go_wp2_with fail
      refine (HZ1.out _).mono ?_
      rintro e w2 ⟨⟨v2, rfl, hv2⟩, hb2⟩
      have hvv := hv2
      obtain ⟨ag, cg, rfl, -, -, -⟩ := hvv
      have g2 := g1.trans (hb2.mono g1.size)
      have HV2 := Lib.hid hv2
      clear hv2 q1 q2 q3 hb1 hb2
      by_cases hp : 0 < N
      · have d1 : decide (0 < N) = true := decide_eq_true hp
        have hal := (Below.refl w2.heap.size w2).alloc (Nat.le_refl _) (.cells #[.bool (decide (N < 0)), .slice ag (Z4.dig N.natAbs).length cg] 118)
        have HVA := Lib.hid (HV2.out.below hal (Nat.le_refl _))
        go_wp2_with fail
        refine (HZM.out _ _ HVA.out).mono ?_
        rintro e w3 ⟨⟨v3, rfl, hv3⟩, hb3⟩
        go_wp2_with fail
        refine (HZ2.out _).mono ?_
        rintro e w4 ⟨⟨v4, rfl, hv4⟩, hb4⟩
        go_wp2_with fail
        refine (HZC.out _ _ _ (hv3.below hb4 (Nat.le_refl _)) hv4).mono ?_
        rintro e w5 ⟨rfl, hb5⟩
        have hbw := (g2.alloc g2.size (.cells #[.bool (decide (N < 0)), .slice ag (Z4.dig N.natAbs).length cg] 118)).trans (((hb3.trans (hb4.mono hb3.size)).trans (hb5.mono (Nat.le_trans hb3.size hb4.size))).mono (by have := g2.size; simp; omega))
        go_wp2
        go_ret
        exact ⟨by rw [d1, Bool.true_and, ← HZZ.out]; rfl, hbw⟩
      · have d1 : decide (0 < N) = false := decide_eq_false hp
        have hbw := g2.alloc g2.size (.cells #[.bool (decide (N < 0)), .slice ag (Z4.dig N.natAbs).length cg] 118)
        go_wp2
        go_ret
        exact ⟨by rw [d1]; rfl, hbw⟩
end Go.Proofs.YtbjhjbjjfbmoeaaGreatDoor
