/- Parts of a proof, in build order: D4, Dig, Dig2, N0, D5, Q1, Q2, Q3. -/
import Derived.Test.YtoochleabcjljaaGreatDoorKd4

/- Codes: the samples of a channel are read. -/
namespace Go.Proofs.YtoochleabcjljaaGreatDoor
open Go.RowKit

theorem rowR_len {sh : Nat} : ∀ (n : Nat) (r : List Nat) (acc : List Int) (p : List Int × List Nat), rowR sh n r acc = some p → p.1.length = acc.length + n
  | 0, r, acc, p, h => by rw [rowR] at h; simp at h; subst h; simp
  | n + 1, r, acc, p, h => by
    rw [rowR] at h
    split at h
    · have := rowR_len n _ _ p h; rw [List.length_append, List.length_singleton] at this; omega
    · contradiction

/-- what read returns -/
def ReadRes (base B bR : Nat) (l : List Nat) (res : Option (List Int × List Nat)) (e : Ending) (w' : World) : Prop := match res with
  | some p => (∃ v, e = .returned (.tuple #[v, .bool true]) ∧ w'.ownsRow base 3 1 v p.1.length (p.1.map (Value.int .i64))) ∧ RdS B bR l w' p.2
  | none => e = .returned (.tuple #[.slice none 0 0, .bool false])

set_option maxRecDepth 100000 in
set_option maxHeartbeats 2000000 in
theorem read_any (B bR : Nat) (l r : List Nat) (m : Nat) (w : World) (h : RdS B bR l w r) (hd : ∀ d ∈ l, d < 256) (hl : l.length ≤ 1099511627776) (hm : m ≤ 64) :
    Calls Tryz.prog 131 #[.iface 178 (.pointer (some ⟨bR, 0, none⟩)), .int .i64 (m : Nat)] w fun e w' => ReadRes w.heap.size B bR l (readR m r) e w' ∧ w.grownBy w' (some bR) := by
  have HTK := Lib.hid (fun r k w h hk => reader_take B bR l r k w h hd hl hk)
  have HVA := Lib.hid (fun r o sh w h hs => value_any B bR l r o sh w h hd hl hs)
  have HH := Lib.hid h
  have hbR := h.lt
  have hB := h.1
  have h1 := HTK.out r 2 w h (by omega)
  have H1 := Lib.hid h1
  have hbd1 := takeR_bd h.bits 2
  obtain ⟨ho3, hbits1⟩ := hbd1
  have hbd2 := takeR_bd hbits1 5
  obtain ⟨hs31, hbits2⟩ := hbd2
  have hrd : readR m r = if (takeR (takeR r 2).2 5).1.2 = true ∧ (takeR (takeR r 2).2 5).1.1 ≤ 30 then (rowR (takeR (takeR r 2).2 5).1.1 m (takeR (takeR r 2).2 5).2 []).map fun p => (sumsR p.1 (takeR r 2).1.1, p.2) else none := rfl
  generalize readR m r = res at *
  generalize ht1 : takeR r 2 = t1 at *
  obtain ⟨⟨o, ok1⟩, r1⟩ := t1
  simp only at hrd ho3 hbits1 hs31 hbits2 H1
  generalize ht2 : takeR r1 5 = t2 at *
  obtain ⟨⟨sh, ok2⟩, r2⟩ := t2
  simp only at hrd hs31 hbits2
  have HT2 := Lib.hid ht2
  have HRD := Lib.hid hrd
  clear hd h1 h ht1 hbits1 hbits2 ht2 hrd HH
  go_enter Tryz.func131, Tryz.ntmps131
  go_wp2_with fail
  refine H1.out.mono ?_
  rintro e w1 ⟨rfl, hs1, hg1⟩
  have h2 := HTK.out r1 5 w1 hs1 (by omega)
  rw [HT2.out] at h2
  have H2 := Lib.hid h2
  clear h2 hs1
  go_wp2_with fail
  refine H2.out.mono ?_
  rintro e w2 ⟨rfl, hs2, hg2⟩
  have hg := hg1.trans hg2
  have HS2 := Lib.hid hs2
  have hz := hg.size
  clear hg1 hg2 hs2 H1 H2 HT2
  cases ok2 with
  | false =>
    have hr : res = none := by rw [HRD.out, if_neg (by simp)]
    have HRN := Lib.hid hr; clear hr
    go_wp2
    go_ret2
    rw [HRN.out]
    exact ⟨rfl, hg⟩
  | true =>
    by_cases h30 : sh ≤ 30
    · have hr : res = (rowR sh m r2 []).map fun p => (sumsR p.1 o, p.2) := by rw [HRD.out, if_pos ⟨rfl, h30⟩]
      have HRN := Lib.hid hr; clear hr HRD
      have hz2 : w2.heap.size < (w2.alloc (.cells #[.int .i64 (o : Nat), .int .i64 (sh : Nat)] 170)).heap.size := by simp
      have hs3 := HS2.out.kept (World.grownBy_alloc w2 (.cells #[.int .i64 (o : Nat), .int .i64 (sh : Nat)] 170) none) (fun k e => by simp at e)
      have hg3 : w.grownBy (w2.alloc (.cells #[.int .i64 (o : Nat), .int .i64 (sh : Nat)] 170)) (some bR) := hg.trans (World.grownBy_alloc w2 _ _)
      have hb3 := Blk.new w2 170 #[.int .i64 (o : Nat), .int .i64 (sh : Nat)]
      have HS3 := Lib.hid hs3; have HG3 := Lib.hid hg3; have HB3 := Lib.hid hb3
      clear hs3 hg3 hb3 hg HS2 hz2
      go_wp2
      go_loopw [11, 34] (fun v i wr => ∃ (k : Nat) (s : List Nat) (acc : List Int), k ≤ m ∧ i = .int .i64 k ∧ acc.length = k ∧ (∀ x ∈ acc, -12884901889 ≤ x ∧ x ≤ 12884901889) ∧ rowR sh (m - k) s acc = rowR sh m r2 [] ∧ RdS B bR l wr s ∧ Blk wr w2.heap.size 170 #[.int .i64 (o : Nat), .int .i64 (sh : Nat)] ∧ wr.ownsRow w.heap.size 3 1 v k (acc.map (Value.int .i64)) ∧ w.grownBy wr (some bR)) (fun _ i _ => m - (intOf i).toNat)
      case atStart => exact ⟨0, r2, [], Nat.zero_le _, rfl, rfl, by simp, rfl, HS3.out, HB3.out, World.ownsRow_nil _ _ _ _, HG3.out⟩
      case round =>
        clear HS3 HG3 HB3
        obtain ⟨k, s, acc, hk, rfl, hal, hab, hrow, hs, hb, hown, hg⟩ := hrel
        have HROW := Lib.hid hrow; have HAB := Lib.hid hab
        clear hrow hab
        by_cases hlt : k < m
        · have hv := HVA.out s o sh wr hs h30
          have HV := Lib.hid hv
          have hvb := valueR_bd h30 20 (Nat.le_refl _) hs.bits
          have c0 := hb.c0
          have c1 := hb.c1
          have HB := Lib.hid hb; have HOW := Lib.hid hown
          obtain ⟨d, hd⟩ : ∃ d, m - k = d + 1 := ⟨m - k - 1, by omega⟩
          have hrow := HROW.out
          rw [hd, rowR] at hrow
          have HROW2 := Lib.hid hrow
          clear hrow hv hb hown hs HROW
          generalize hvr : valueR sh 20 s = vr at *
          obtain ⟨⟨u, ok⟩, s2⟩ := vr
          simp only at HROW2 hvb HV
          clear hvr
          go_wp2_with fail
          refine HV.out.mono ?_
          rintro e w3 ⟨rfl, hs3, hg3⟩
          have hg4 := hg.trans hg3
          cases ok with
          | false =>
            have hr : res = none := by
              have := HROW2.out
              rw [if_neg (by simp)] at this
              rw [HRN.out, ← this]; rfl
            have HR0 := Lib.hid hr
            clear hr hs3 c0 c1
            go_wp2
            go_ret2
            rw [HR0.out]
            exact ⟨rfl, hg4⟩
          | true =>
            have hrow := HROW2.out
            rw [if_pos rfl] at hrow
            have HROW3 := Lib.hid hrow
            have hub := unfU_bd hvb.1
            have hbR2 : bR ≠ w2.heap.size := by omega
            have hb4 := HB.out.kept hg3 (by simp; omega)
            have hown3 := HOW.out.kept hg3 (.inr (fun e => by have := (HOW.out.lt _ e).1; omega))
            have HB4 := Lib.hid hb4; have HO3 := Lib.hid hown3; have HS3 := Lib.hid hs3
            have hz4 := hg4.size
            have HG4 := Lib.hid hg4
            obtain ⟨i0, hi, hz0, hz1, hz2⟩ := info_parts Tryz.infoInt
            clear hrow hb4 hown3 hs3 c0 c1 HROW2 HV hg3 hg hg4
            go_wp2_with fail
            refine (unfolded_any u _ hvb.1).mono ?_
            rintro e w4 ⟨rfl, rfl⟩
            go_wp2_with (at_builtin; refine wpList_append_lies _ rfl _ _ _ rfl w.heap.size 3 i0 (.int .i64 0) 1 8 Tryz.underlying22 hi hz0 hz1 hz2 rfl (by decide) _ _ _ rfl (HO3.out.alloc _) ⟨w4.heap.size, 0, none⟩ 1 1 [.int .i64 (unfU u)] rfl rfl (news1 _ _ _) (by simp [Value.oneCell']) (by omega) (by unfold maxLen; omega) (by omega) (by simp; omega) (w4.heap.size + 1) (by simp) ?_)
            intro g1 cg1 w5 hown5 hgrow hat hlt1
            have ha1 := World.grownBy_alloc w4 (.cells #[.int .i64 (unfU u)] 3)
            have hs5 := (HS3.out.kept (ha1 none) (fun k e => by simp at e)).kept hgrow (fun k e => by have := (HO3.out.lt k e).1; omega)
            have hb5 := (HB4.out.alloc (.cells #[.int .i64 (unfU u)] 3)).kept hgrow (fun e => blk_own_ne HB4.out HO3.out (by decide) e.symm)
            have hg5 : w.grownBy w5 (some bR) := (HG4.out.trans (ha1 _)).andThen hgrow (fun j e => .inl (HO3.out.lt j e).1)
            have HS5 := Lib.hid hs5; have HB5 := Lib.hid hb5; have HG5 := Lib.hid hg5; have HO5 := Lib.hid hown5
            clear hs5 hb5 hg5 hown5 hgrow hat hlt1 ha1 HG4 HB4 HO3 HS3
            go_wp2
            go_roundw
            case rel => exact ⟨k + 1, s2, acc ++ [unfU u], by omega, by go_num, by rw [List.length_append, hal]; rfl, (by
              intro x hx
              rcases List.mem_append.1 hx with h | h
              · exact HAB.out x h
              · rw [List.mem_singleton.1 h]; exact hub), by rw [show m - (k + 1) = d from by omega]; exact HROW3.out, HS5.out, HB5.out, by rw [List.map_append]; exact HO5.out, HG5.out⟩
            case measure => simp [intOf]; omega
        · obtain rfl : k = m := by omega
          have hrow := HROW.out
          rw [Nat.sub_self, rowR] at hrow
          have hr : res = some (sumsR acc o, s) := by rw [HRN.out, ← hrow]; rfl
          obtain ⟨a, c, rfl, hcs⟩ := own_cells hown
          have hsm := samples_any a acc c o wr hcs (by omega) (by omega) HAB.out
          rw [hal] at hsm
          have HSM := Lib.hid hsm; have HR := Lib.hid hr; have HS := Lib.hid hs; have HG := Lib.hid hg
          clear hrow hr hcs hsm hs hg hown hb HROW
          go_wp2_with fail
          refine HSM.out.mono ?_
          rintro e w3 ⟨⟨v, rfl, ho⟩, hb3⟩
          have hs3 := HS.out.below hb3
          have hg3 : w.grownBy w3 (some bR) := HG.out.trans ⟨hb3.os, hb3.tape, hb3.output, hb3.size, fun k hk _ => hb3.block k hk⟩
          have ho3 := own_base ho HG.out.size
          have HS3 := Lib.hid hs3; have HG3 := Lib.hid hg3; have HO3 := Lib.hid ho3
          clear hs3 hg3 ho3 ho hb3
          go_wp2
          go_ret2
          rw [HR.out]
          exact ⟨⟨⟨v, rfl, HO3.out⟩, HS3.out⟩, HG3.out⟩
    · have hr : res = none := by rw [HRD.out, if_neg (fun h => h30 h.2)]
      have HRN := Lib.hid hr; clear hr
      have h31 : (30 : Int) < sh := by omega
      go_wp2
      go_ret2
      rw [HRN.out]
      exact ⟨rfl, hg⟩
end Go.Proofs.YtoochleabcjljaaGreatDoor

/- Digits of natural numbers to the base 10^9, the least one first: plain facts. -/
namespace Go.Proofs.YtoochleabcjljaaGreatDoor
def B : Nat := 1000000000

def val : List Nat → Nat
  | [] => 0
  | d :: ds => d + B * val ds

def dig (n : Nat) : List Nat := if n = 0 then [] else n % B :: dig (n / B)
termination_by n
decreasing_by exact Nat.div_lt_self (Nat.pos_of_ne_zero ‹_›) (by decide)

theorem B_pos : 0 < B := by decide
theorem dig_zero : dig 0 = [] := by rw [dig]; simp
theorem dig_pos {n : Nat} (h : n ≠ 0) : dig n = n % B :: dig (n / B) := by rw [dig]; simp [h]

theorem val_dig (n : Nat) : val (dig n) = n := by
  induction n using Nat.strongRecOn with
  | _ n ih =>
    by_cases h : n = 0
    · subst h; simp [dig_zero, val]
    · rw [dig_pos h, val, ih _ (Nat.div_lt_self (Nat.pos_of_ne_zero h) (by decide))]
      exact Nat.mod_add_div n B

def Sm (xs : List Nat) : Prop := ∀ d ∈ xs, d < B

theorem sm_dig (n : Nat) : Sm (dig n) := by
  induction n using Nat.strongRecOn with
  | _ n ih =>
    by_cases h : n = 0
    · subst h; simp [dig_zero, Sm]
    · rw [dig_pos h]
      intro d hd
      rcases List.mem_cons.1 hd with rfl | hd
      · exact Nat.mod_lt _ B_pos
      · exact ih _ (Nat.div_lt_self (Nat.pos_of_ne_zero h) (by decide)) d hd

theorem val_nil : val [] = 0 := rfl
theorem val_cons (d : Nat) (ds : List Nat) : val (d :: ds) = d + B * val ds := rfl

theorem val_append (xs ys : List Nat) : val (xs ++ ys) = val xs + B ^ xs.length * val ys := by
  induction xs with
  | nil => simp [val]
  | cons d ds ih => simp only [List.cons_append, val_cons, ih, List.length_cons, Nat.pow_succ]; rw [Nat.mul_add, Nat.add_assoc, Nat.mul_comm (B ^ ds.length) B, Nat.mul_assoc]

theorem val_snoc (xs : List Nat) (d : Nat) : val (xs ++ [d]) = val xs + B ^ xs.length * d := by
  rw [val_append]; simp [val]

theorem val_lt {xs : List Nat} (h : Sm xs) : val xs < B ^ xs.length := by
  induction xs with
  | nil => simp [val]
  | cons d ds ih =>
    have h1 : d < B := h d (by simp)
    have h2 := ih (fun x hx => h x (by simp [hx]))
    simp only [val_cons, List.length_cons, Nat.pow_succ]
    have : B * (val ds + 1) ≤ B * B ^ ds.length := Nat.mul_le_mul_left _ h2
    rw [Nat.mul_add, Nat.mul_one] at this
    rw [Nat.mul_comm (B ^ ds.length) B]; omega

/-- digits without zeros at the end -/
def Lean_ (xs : List Nat) : Prop := Sm xs ∧ xs.getLast? ≠ some 0

theorem val_eq_zero {xs : List Nat} : val xs = 0 ↔ ∀ d ∈ xs, d = 0 := by
  induction xs with
  | nil => simp [val]
  | cons d ds ih =>
    simp only [val_cons, List.mem_cons, forall_eq_or_imp, ← ih]
    constructor
    · intro h
      have h1 : d = 0 := by omega
      have h2 : B * val ds = 0 := by omega
      refine ⟨h1, ?_⟩
      rcases Nat.mul_eq_zero.1 h2 with h | h
      · exact absurd h (by decide)
      · exact h
    · rintro ⟨rfl, h⟩; simp [h]

theorem dig_val {xs : List Nat} (h : Sm xs) (hl : xs.getLast? ≠ some 0) : dig (val xs) = xs := by
  induction xs with
  | nil => simp [val, dig_zero]
  | cons d ds ih =>
    have h1 : d < B := h d (by simp)
    have hs : Sm ds := fun x hx => h x (by simp [hx])
    have hne : val (d :: ds) ≠ 0 := by
      intro h0
      have h0' := val_eq_zero.1 h0
      have : ((d :: ds).getLast (by simp)) = 0 := h0' _ (List.getLast_mem _)
      exact hl (by rw [List.getLast?_eq_some_getLast (by simp), this])
    rw [dig_pos hne, val_cons]
    have e1 : (d + B * val ds) % B = d := by rw [Nat.add_mul_mod_self_left, Nat.mod_eq_of_lt h1]
    have e2 : (d + B * val ds) / B = val ds := by rw [Nat.add_mul_div_left _ _ B_pos, Nat.div_eq_of_lt h1, Nat.zero_add]
    rw [e1, e2, ih hs]
    cases ds with
    | nil => simp
    | cons x xs => simpa [List.getLast?_cons_cons] using hl

theorem last_dig (n : Nat) : (dig n).getLast? ≠ some 0 := by
  induction n using Nat.strongRecOn with
  | _ n ih =>
    by_cases h : n = 0
    · subst h; simp [dig_zero]
    · rw [dig_pos h]
      have := ih (n / B) (Nat.div_lt_self (Nat.pos_of_ne_zero h) (by decide))
      by_cases h2 : n / B = 0
      · rw [h2, dig_zero]; simp
        have h3 : n < B := by
          rcases Nat.div_eq_zero_iff.1 h2 with h | h
          · exact absurd h (by decide)
          · exact h
        rw [Nat.mod_eq_of_lt h3]; exact h
      · rw [dig_pos h2] at this ⊢
        simpa [List.getLast?_cons_cons] using this

theorem dig_len_pos {n : Nat} : (dig n).length = 0 ↔ n = 0 := by
  by_cases h : n = 0
  · subst h; simp [dig_zero]
  · rw [dig_pos h]; simp [h]

theorem dig_small {n : Nat} (h : n < B) (h0 : n ≠ 0) : dig n = [n] := by
  rw [dig_pos h0, Nat.mod_eq_of_lt h, Nat.div_eq_of_lt h, dig_zero]

theorem lt_pow_len (n : Nat) : n < B ^ (dig n).length := by
  have := val_lt (sm_dig n); rwa [val_dig] at this

theorem pow_len_le {n : Nat} (h : n ≠ 0) : B ^ ((dig n).length - 1) ≤ n := by
  induction n using Nat.strongRecOn with
  | _ n ih =>
    rw [dig_pos h]
    by_cases h2 : n / B = 0
    · rw [h2, dig_zero]; simp; omega
    · have := ih _ (Nat.div_lt_self (Nat.pos_of_ne_zero h) (by decide)) h2
      have hl : (dig (n / B)).length ≠ 0 := by rw [Ne, dig_len_pos]; exact h2
      simp only [List.length_cons, Nat.add_sub_cancel]
      obtain ⟨k, hk⟩ : ∃ k, (dig (n / B)).length = k + 1 := ⟨(dig (n/B)).length - 1, by omega⟩
      rw [hk, Nat.add_sub_cancel] at this
      rw [hk, Nat.pow_succ]
      calc B ^ k * B ≤ n / B * B := Nat.mul_le_mul_right _ this
        _ ≤ n := Nat.div_mul_le_self n B

/-- lengths tell the order -/
theorem lt_of_len {m n : Nat} (h : (dig m).length < (dig n).length) : m < n := by
  have hn : n ≠ 0 := by rintro rfl; simp [dig_zero] at h
  have h1 := lt_pow_len m
  have h2 := pow_len_le hn
  have h3 : B ^ (dig m).length ≤ B ^ ((dig n).length - 1) := Nat.pow_le_pow_right B_pos (by omega)
  omega

theorem dig_len_mono {m n : Nat} (h : m ≤ n) : (dig m).length ≤ (dig n).length := by
  apply Nat.le_of_not_lt
  intro hc
  have := lt_of_len hc
  omega
end Go.Proofs.YtoochleabcjljaaGreatDoor

/- Digits: order, quotients. -/
namespace Go.Proofs.YtoochleabcjljaaGreatDoor

theorem val_split {l : List Nat} {j x : Nat} (hx : l[j]? = some x) : val l = val (l.take j) + B ^ j * (x + B * val (l.drop (j + 1))) := by
  have hj : j < l.length := (List.getElem?_eq_some_iff.1 hx).1
  have h1 : l = l.take j ++ (x :: l.drop (j + 1)) := by
    have := (List.take_append_drop j l).symm
    rw [List.drop_eq_getElem_cons hj, (List.getElem?_eq_some_iff.1 hx).2] at this
    exact this
  have h2 := congrArg val h1
  rw [val_append, val_cons, List.length_take, Nat.min_eq_left (by omega)] at h2
  exact h2

theorem cmp_digit {l1 l2 : List Nat} (h1 : Sm l1) {j x y : Nat} (hx : l1[j]? = some x) (hy : l2[j]? = some y) (hd : l1.drop (j + 1) = l2.drop (j + 1)) (hlt : x < y) : val l1 < val l2 := by
  rw [val_split hx, val_split hy, hd]
  have hj : j < l1.length := (List.getElem?_eq_some_iff.1 hx).1
  have h3 : val (l1.take j) < B ^ j := by
    have := val_lt (xs := l1.take j) (fun d hd => h1 d (List.mem_of_mem_take hd))
    rwa [List.length_take, Nat.min_eq_left (by omega)] at this
  have h4 : B ^ j * (x + 1 + B * val (l2.drop (j + 1))) ≤ B ^ j * (y + B * val (l2.drop (j + 1))) := Nat.mul_le_mul_left _ (by omega)
  have h5 : B ^ j * (x + 1 + B * val (l2.drop (j + 1))) = B ^ j * (x + B * val (l2.drop (j + 1))) + B ^ j := by
    rw [show x + 1 + B * val (l2.drop (j + 1)) = (x + B * val (l2.drop (j + 1))) + 1 from by omega, Nat.mul_add, Nat.mul_one]
  omega

/-- the order, as Go's compare says it -/
def cmpN (m n : Nat) : Int := if m < n then -1 else if n < m then 1 else 0
theorem cmpN_lt {m n : Nat} (h : m < n) : cmpN m n = -1 := by simp [cmpN, h]
theorem cmpN_gt {m n : Nat} (h : n < m) : cmpN m n = 1 := by simp [cmpN, h]; omega
theorem cmpN_eq (n : Nat) : cmpN n n = 0 := by simp [cmpN]

/-- a step of a division by one digit: r the rest of what lies above -/
theorem short_step {H d x : Nat} (hd : 0 < d) : ((H % d) * B + x) / d + B * (H / d) = (x + B * H) / d ∧ ((H % d) * B + x) % d = (x + B * H) % d := by
  have h : x + B * H = ((H % d) * B + x) + d * (B * (H / d)) := by
    have h1 : d * (H / d) + H % d = H := Nat.div_add_mod H d
    have h2 : B * H = B * (d * (H / d)) + B * (H % d) := by rw [← Nat.mul_add, h1]
    rw [h2, Nat.mul_comm (H % d) B, Nat.mul_left_comm d B]; omega
  rw [h, Nat.add_mul_div_left _ _ hd, Nat.add_mul_mod_self_left]
  exact ⟨rfl, rfl⟩

theorem short_dig {r d x : Nat} (hr : r < d) (hx : x < B) : (r * B + x) / d < B := by
  apply Nat.div_lt_of_lt_mul
  have : (r + 1) * B ≤ d * B := Nat.mul_le_mul_right _ hr
  rw [Nat.add_mul] at this; omega
theorem dig_len_val {l : List Nat} (h : Sm l) : (dig (val l)).length ≤ l.length := by
  have h1 := val_lt h
  apply Nat.le_of_not_lt
  intro hc
  have hne : val l ≠ 0 := by
    intro h0; rw [h0, dig_zero] at hc; simp at hc
  have h2 := pow_len_le hne
  have h3 : B ^ l.length ≤ B ^ ((dig (val l)).length - 1) := Nat.pow_le_pow_right B_pos (by omega)
  omega
end Go.Proofs.YtoochleabcjljaaGreatDoor

/- Natural numbers of package num: natural, lean, compare. -/
namespace Go.Proofs.YtoochleabcjljaaGreatDoor
open Go.RowKit

/-- digits, cell by cell -/
def dgs (l : List Nat) : List Value := l.map fun d => Value.int .u64 (d : Nat)
theorem dgs_length (l : List Nat) : (dgs l).length = l.length := by simp [dgs]
theorem dgs_append (a b : List Nat) : dgs (a ++ b) = dgs a ++ dgs b := by simp [dgs]
theorem dgs_ne {l : List Nat} (h : 0 < l.length) : dgs l ≠ [] := by
  intro e; have := dgs_length l; rw [e] at this; simp at this; omega
theorem Cells.dgs {w : World} {b off : Nat} {l : List Nat} (h : Cells w (some ⟨b, off, none⟩) (dgs l)) {i d : Nat} (hd : l[i]? = some d) : w.cell? ⟨b, off + i, none⟩ = some (.int .u64 (d : Nat)) :=
  h.at (by simp [Go.Proofs.YtoochleabcjljaaGreatDoor.dgs, hd])
theorem Cells.take {w : World} {ao : Option Addr} {cs : List Value} (h : Cells w ao cs) (n : Nat) : Cells w ao (cs.take n) := by
  rcases h with h | ⟨b, off, h1, h2⟩
  · exact .inl (by simp [h])
  · refine .inr ⟨b, off, h1, fun j u hu => h2 j u ?_⟩
    rw [List.getElem?_take] at hu
    split at hu
    · exact hu
    · simp at hu
theorem sm_get {l : List Nat} (h : Sm l) {i d : Nat} (hd : l[i]? = some d) : d ≤ 999999999 := by
  have := h d (List.mem_of_getElem? hd); simp only [B] at this; omega

theorem Tryz.infoU64 : (Tryz.prog.info? 187).map (fun i => (i.zero, i.size, i.bytes)) = some (some (.int .u64 0), 1, 8) := by kernel_rfl

/-- an owned row, as a slice, with its capacity -/
theorem own_cap {w : World} {b : Nat} {e : TypeId} {s : Nat} {v : Value} {n : Nat} {xs : List Value} (h : w.ownsRow b e s v n xs) : ∃ a c, v = .slice a n c ∧ Cells w a xs ∧ n ≤ c ∧ c ≤ maxLen := by
  obtain ⟨a, c, hv, hc⟩ := own_cells h
  obtain ⟨h0, h1⟩ := h
  rcases h1 with ⟨h2, h3⟩ | ⟨g, cap, cur, h2, hb, hg, hn, hm, hs, ht⟩
  · rw [h2] at hv; simp at hv
    obtain ⟨rfl, rfl, rfl⟩ := hv
    exact ⟨none, 0, h2, hc, by omega, by unfold maxLen; omega⟩
  · rw [h2] at hv; simp at hv
    obtain ⟨rfl, rfl⟩ := hv
    exact ⟨_, _, h2, hc, hn, hm⟩

theorem dig_len_u64 {n : Nat} (h : n < 18446744073709551616) : (dig n).length ≤ 3 := by
  apply Nat.le_of_not_lt
  intro hc
  have hn : n ≠ 0 := by rintro rfl; simp [dig_zero] at hc
  have h1 := pow_len_le hn
  have h2 : B ^ 3 ≤ B ^ ((dig n).length - 1) := Nat.pow_le_pow_right B_pos (by omega)
  have h3 : B ^ 3 = 1000000000000000000000000000 := by decide
  omega

set_option maxRecDepth 100000 in
theorem natural_any (n : Nat) (w : World) (hn : n < 18446744073709551616) :
    Calls Tryz.prog 136 #[.int .u64 (n : Nat)] w fun e w' => (∃ a c, e = .returned (.slice a (dig n).length c) ∧ Cells w' a (dgs (dig n)) ∧ (dig n).length ≤ c ∧ c ≤ 9223372036854775807) ∧ Below w.heap.size w w' := by
  obtain ⟨i0, hi, hz0, hz1, hz2⟩ := info_parts Tryz.infoU64
  have hlen := dig_len_u64 hn
  have hn1 : n ≤ 18446744073709551615 := by omega
  clear hn
  go_enter Tryz.func136, Tryz.ntmps136
  go_wp2
  go_loopw [3, 0] (fun v m wr => ∃ (ds : List Nat) (k : Nat), m = .int .u64 (k : Nat) ∧ k ≤ n ∧ dig n = ds ++ dig k ∧ wr.ownsRow w.heap.size 187 1 v ds.length (dgs ds) ∧ Below w.heap.size w wr) (fun _ m _ => (intOf m).toNat)
  case atStart => exact ⟨[], n, rfl, Nat.le_refl _, rfl, World.ownsRow_nil _ _ _ _, Below.refl _ _⟩
  case round =>
    obtain ⟨ds, k, rfl, hk, hds, hown, hb⟩ := hrel
    by_cases h0 : k = 0
    · subst h0
      rw [dig_zero, List.append_nil] at hds
      subst hds
      obtain ⟨g, c, rfl, hcs, hc1, hc2⟩ := own_cap hown
      unfold maxLen at hc2
      have HCS := Lib.hid hcs; clear hcs hown
      go_wp2
      go_ret
      exact ⟨⟨g, c, rfl, HCS.out, hc1, hc2⟩, hb⟩
    · have hkp : 0 < (k : Int) := by omega
      have hds2 : dig n = (ds ++ [k % B]) ++ dig (k / B) := by rw [hds, dig_pos h0]; simp
      have hle : ds.length ≤ 2 := by
        have := congrArg List.length hds2
        simp only [List.length_append, List.length_singleton] at this; omega
      have HDS := Lib.hid hds2; clear hds hds2 hlen
      have e1 : ((k : Int) % 1000000000) = ((k % B : Nat) : Int) := by simp [B]
      have e2 : ((k : Int) / 1000000000) = ((k / B : Nat) : Int) := by simp [B]
      have hlt : k / B < k := Nat.div_lt_self (by omega) (by decide)
      have HE1 := Lib.hid e1; have HE2 := Lib.hid e2; clear e1 e2
      have HOB : Hid (∀ j, u3.ownBlock = some j → w.heap.size ≤ j) := fun j e => (hown.lt j e).1
      have hsz := hb.size
      go_wp2_with (at_builtin; refine wpList_append_own _ rfl _ _ 128 rfl w.heap.size 187 i0 (.int .u64 0) 1 8 Tryz.underlying128 hi hz0 hz1 hz2 rfl (by decide) _ _ _ rfl (hown.alloc _) ⟨wr.heap.size, 0, none⟩ 1 1 [.int .u64 ((k : Int) % 1000000000)] rfl rfl (news1 _ _ _) (by simp [Value.oneCell']) (by unfold maxLen; omega) (by omega) (by simp; omega) ?_; intro v1 wz hown1 hgrow _)
      have hfin := hown1
      rw [show dgs ds ++ [.int .u64 ((k : Int) % 1000000000)] = dgs (ds ++ [k % B]) from by rw [dgs_append, HE1.out]; rfl] at hfin
      have hbz := (hb.alloc hsz (.cells #[.int .u64 ((k : Int) % 1000000000)] 187)).grown hgrow (by simp; omega) HOB.out
      clear hown1 hgrow hown
      have HFIN := Lib.hid hfin; clear hfin
      go_wp2
      go_roundw
      case rel => exact ⟨ds ++ [k % B], k / B, by rw [HE2.out], by omega, HDS.out, by simpa using HFIN.out, hbz⟩
      case measure => simp only [intOf]; rw [HE2.out]; simp; omega

/-- zeros at the end go -/
theorem val_take_zero {l : List Nat} {k : Nat} (h0 : l[k]? = some 0) : val (l.take (k + 1)) = val (l.take k) := by
  rw [take_get h0, val_snoc]; simp

/-- a slice's length: for a measure -/
def lenOf : Value → Nat | .slice _ n _ => n | _ => 0

theorem lean_any (ao : Option Addr) (l : List Nat) (c : Nat) (w : World) (hc : Cells w ao (dgs l)) (hs : Sm l) (hl : l.length ≤ 9223372036854775807) (hcap : l.length ≤ c) (hc2 : c ≤ 9223372036854775807) :
    Calls Tryz.prog 192 #[.slice ao l.length c] w fun e w' => (e = .returned (.slice ao (dig (val l)).length c) ∧ Cells w' ao (dgs (dig (val l)))) ∧ w = w' := by
  have HC := Lib.hid hc; clear hc
  have HS := Lib.hid hs; clear hs
  go_enter Tryz.func192, Tryz.ntmps192
  go_wp2
  go_loop [0] (fun v => ∃ k : Nat, k ≤ l.length ∧ v = .slice ao k c ∧ val (l.take k) = val l) (fun v => lenOf v)
  case atStart => exact ⟨l.length, Nat.le_refl _, rfl, by rw [List.take_length]⟩
  case round =>
    obtain ⟨k, hk, rfl, hv⟩ := hrel
    by_cases h0 : k = 0
    · subst h0
      rw [List.take_zero, val_nil] at hv
      have hv2 : dig (val l) = [] := by rw [← hv, dig_zero]
      have HV := Lib.hid hv2; clear hv hv2
      go_wp2
      go_ret
      exact ⟨⟨by rw [HV.out]; rfl, by rw [HV.out]; exact Cells.nil _ _⟩, rfl⟩
    · obtain ⟨j, rfl⟩ : ∃ j, k = j + 1 := ⟨k - 1, by omega⟩
      have hj : j < l.length := by omega
      obtain ⟨d, hd⟩ := get_of_lt hj
      obtain ⟨b, off, rfl⟩ := HC.out.addr (dgs_ne (by omega))
      have hcell := HC.out.dgs hd
      by_cases hd0 : d = 0
      · subst hd0
        have hv2 := val_take_zero hd
        rw [hv] at hv2
        have HV := Lib.hid hv2.symm; clear hv hv2 hd
        go_wp2
        go_round
        case rel => exact ⟨j, by omega, by go_num, HV.out⟩
        case measure => simp [lenOf]
      · have hdp : 0 < d := by omega
        have hne : ((d : Int) == 0) = false := by simp; omega
        have hlast : (l.take (j + 1)).getLast? ≠ some 0 := by rw [take_get hd]; simp; omega
        have hsm : Sm (l.take (j + 1)) := fun x hx => HS.out x (List.mem_of_mem_take hx)
        have hv2 : dig (val l) = l.take (j + 1) := by rw [← hv, dig_val hsm hlast]
        have hl2 : (dig (val l)).length = j + 1 := by rw [hv2, List.length_take]; omega
        have hcs : Cells w (some ⟨b, off, none⟩) (dgs (dig (val l))) := by
          rw [hv2, dgs, List.map_take]; exact HC.out.take _
        have HL := Lib.hid hl2; have HCS := Lib.hid hcs; clear hv hv2 hl2 hcs hd hsm hlast
        go_wp2
        go_ret
        exact ⟨⟨by rw [HL.out]; rfl, HCS.out⟩, rfl⟩

theorem drop_of_len {l1 l2 : List Nat} (h : l1.length = l2.length) : l1.drop l1.length = l2.drop l1.length := by
  rw [List.drop_length, h, List.drop_length]

set_option maxRecDepth 100000 in
theorem compare_any (aa ab : Option Addr) (m n : Nat) (ca cb : Nat) (w : World) (ha : Cells w aa (dgs (dig m))) (hb : Cells w ab (dgs (dig n))) (hm : (dig m).length ≤ 4611686018427387904) (hn : (dig n).length ≤ 4611686018427387904) :
    Calls Tryz.prog 189 #[.slice aa (dig m).length ca, .slice ab (dig n).length cb] w fun e w' => e = .returned (.int .i64 (cmpN m n)) ∧ Below w.heap.size w w' := by
  have HA := Lib.hid ha; clear ha
  have HB := Lib.hid hb; clear hb
  by_cases hlen : (dig m).length = (dig n).length
  · have h1 : (((dig m).length : Int) != (dig n).length) = false := by simp [hlen]
    have HL := Lib.hid hlen; clear hlen
    go_enter Tryz.func189, Tryz.ntmps189
    go_wp2
    go_loopw [5] (fun i wr => ∃ k : Nat, k ≤ (dig m).length ∧ i = .int .i64 ((k : Int) - 1) ∧ (dig m).drop k = (dig n).drop k ∧ Below w.heap.size w wr) (fun i _ => (intOf i + 1).toNat)
    case atStart => exact ⟨(dig m).length, Nat.le_refl _, rfl, drop_of_len HL.out, Below.refl _ _⟩
    case round =>
      obtain ⟨k, hk, rfl, hd, hbe⟩ := hrel
      have HD := Lib.hid hd; clear hd
      by_cases h0 : k = 0
      · subst h0
        have he : cmpN m n = 0 := by
          have := HD.out
          simp only [List.drop_zero] at this
          have h2 := congrArg val this
          rw [val_dig, val_dig] at h2
          rw [h2, cmpN_eq]
        have HE := Lib.hid he; clear he
        go_wp2
        go_ret
        exact ⟨ret_int HE.out.symm, hbe⟩
      · obtain ⟨j, rfl⟩ : ∃ j, k = j + 1 := ⟨k - 1, by omega⟩
        have hj2 : j < (dig n).length := by have := HL.out; omega
        obtain ⟨x, hx⟩ := get_of_lt (show j < (dig m).length by omega)
        obtain ⟨y, hy⟩ := get_of_lt hj2
        obtain ⟨b, off, rfl⟩ := HA.out.addr (dgs_ne (by omega))
        obtain ⟨b2, off2, rfl⟩ := HB.out.addr (dgs_ne (by omega))
        have c1 := cell_keep (HA.out.dgs hx) hbe (Nat.le_refl _)
        have c2 := cell_keep (HB.out.dgs hy) hbe (Nat.le_refl _)
        have e1 : (((j + 1 : Nat) : Int) - 1) = (j : Int) := by omega
        rw [e1]
        have i1 : (j : Int) < (dig m).length := by omega
        have i2 : (j : Int) < (dig n).length := by omega
        have i3 : (0 : Int) ≤ j := by omega
        have hxy : x < y ∨ y < x ∨ x = y := by omega
        rcases hxy with hlt | hgt | heq
        · have he : cmpN m n = -1 := cmpN_lt (by have := cmp_digit (sm_dig m) hx hy HD.out hlt; rwa [val_dig, val_dig] at this)
          have HE := Lib.hid he; clear he hx hy e1
          have hne : ((x : Int) != y) = true := by simp; omega
          have hl : decide ((x : Int) < y) = true := by simp; omega
          go_wp2
          go_quiet (fail)
          go_wp2
          go_quiet (fail)
          go_wp2
          go_ret
          exact ⟨ret_int HE.out.symm, bel_drewN (bel_drewN hbe _) _⟩
        · have he : cmpN m n = 1 := cmpN_gt (by have := cmp_digit (sm_dig n) hy hx HD.out.symm hgt; rwa [val_dig, val_dig] at this)
          have HE := Lib.hid he; clear he hx hy e1
          have hne : ((x : Int) != y) = true := by simp; omega
          have hl : decide ((x : Int) < y) = false := by simp; omega
          go_wp2
          go_quiet (fail)
          go_wp2
          go_quiet (fail)
          go_wp2
          go_ret
          exact ⟨ret_int HE.out.symm, bel_drewN (bel_drewN hbe _) _⟩
        · subst heq
          have he : (dig m).drop j = (dig n).drop j := by
            rw [List.drop_eq_getElem_cons (show j < (dig m).length by omega), List.drop_eq_getElem_cons hj2, HD.out, (List.getElem?_eq_some_iff.1 hx).2, (List.getElem?_eq_some_iff.1 hy).2]
          have HE := Lib.hid he; clear he hx hy e1
          have hne : ((x : Int) != x) = false := by simp
          go_wp2
          go_quiet (fail)
          go_wp2
          go_roundw
          case rel => exact ⟨j, by omega, by go_num, HE.out, bel_drewN hbe _⟩
          case measure => simp [intOf]
  · rcases Nat.lt_or_gt_of_ne hlen with hlt | hgt
    · have he : cmpN m n = -1 := cmpN_lt (lt_of_len hlt)
      have HE := Lib.hid he; clear he
      have h1 : (((dig m).length : Int) != (dig n).length) = true := by simp; omega
      go_enter Tryz.func189, Tryz.ntmps189
      go_wp2
      go_ret
      exact ⟨ret_int HE.out.symm, Below.refl _ _⟩
    · have he : cmpN m n = 1 := cmpN_gt (lt_of_len hgt)
      have HE := Lib.hid he; clear he
      have h1 : (((dig m).length : Int) != (dig n).length) = true := by simp; omega
      have h2 : (dig n).length ≤ (dig m).length := by omega
      go_enter Tryz.func189, Tryz.ntmps189
      go_wp2
      go_ret
      exact ⟨ret_int HE.out.symm, Below.refl _ _⟩

end Go.Proofs.YtoochleabcjljaaGreatDoor

/- Codes: equal bytes; frames of one's own. -/
namespace Go.Proofs.YtoochleabcjljaaGreatDoor
open Go.RowKit

theorem equal_bytes (aa ab : Option Addr) (xs ys : List Nat) (ca cb : Nat) (w : World) (ha : Cells w aa (bys xs)) (hb : Cells w ab (bys ys)) (hl : xs.length ≤ 9223372036854775807) (hl' : ys.length ≤ 9223372036854775807) :
    Calls Tryz.prog 132 #[.slice aa xs.length ca, .slice ab ys.length cb] w fun e w' => e = .returned (.bool (decide (xs = ys))) ∧ Below w.heap.size w w' := by
  by_cases hlen : xs.length = ys.length
  · have h1 : ((xs.length : Int) != ys.length) = false := by simp [hlen]
    have hlt : (ys.length : Int) ≤ xs.length := by omega
    have HL := Lib.hid hlen; clear hlen
    have HA := Lib.hid ha; have HB := Lib.hid hb; clear ha hb
    go_enter Tryz.func132, Tryz.ntmps132
    go_wp2
    go_loopw [13] (fun i wr => ∃ k : Nat, k ≤ xs.length ∧ i = .int .i64 k ∧ xs.take k = ys.take k ∧ Below w.heap.size w wr) (fun i _ => xs.length - (intOf i).toNat)
    case atStart => exact ⟨0, Nat.zero_le _, rfl, rfl, Below.refl _ _⟩
    case round =>
      obtain ⟨k, hk, rfl, heq, hbe⟩ := hrel
      have HQ := Lib.hid heq; clear heq
      by_cases hlt : k < xs.length
      · have hlt2 : k < ys.length := by have := HL.out; omega
        obtain ⟨x, hx⟩ := get_of_lt hlt
        obtain ⟨y, hy⟩ := get_of_lt hlt2
        obtain ⟨b, off, rfl⟩ := HA.out.addr (bys_ne (by omega))
        obtain ⟨b2, off2, rfl⟩ := HB.out.addr (bys_ne (by omega))
        have c1 := cell_keep (HA.out.at (bys_get hx)) hbe (Nat.le_refl _)
        have c2 := cell_keep (HB.out.at (bys_get hy)) hbe (Nat.le_refl _)
        have i1 : (k : Int) < xs.length := by omega
        have i2 : (k : Int) < ys.length := by omega
        have i3 : (0 : Int) ≤ k := by omega
        by_cases hxy : x = y
        · obtain rfl := hxy
          have ht : xs.take (k + 1) = ys.take (k + 1) := by rw [take_get hx, take_get hy, HQ.out]
          have HT := Lib.hid ht; clear ht hx hy
          go_wp2
          go_quiet (fail)
          go_wp2
          go_roundw
          case rel => exact ⟨k + 1, by omega, by go_num, HT.out, bel_drewN hbe _⟩
          case measure => simp [intOf]; omega
        · have hne : decide (xs = ys) = false := by
            rw [decide_eq_false_iff_not]; rintro rfl
            rw [hx] at hy; simp at hy; exact hxy hy
          have HNE := Lib.hid hne; clear hne hx hy
          have hb1 : ((x : Int) == y) = false := by rw [beq_eq_false_iff_ne]; omega
          have hb2 : ((x : Int) != y) = true := by rw [bne_iff_ne]; omega
          go_wp2
          go_quiet (fail)
          go_wp2
          go_ret
          exact ⟨ret_bool HNE.out.symm, bel_drewN hbe _⟩
      · obtain rfl : k = xs.length := by omega
        have he : decide (xs = ys) = true := by
          rw [decide_eq_true_iff]
          have := HQ.out
          rw [List.take_length, HL.out, List.take_length] at this; exact this
        have HE := Lib.hid he; clear he
        go_wp2
        go_ret
        exact ⟨ret_bool HE.out.symm, hbe⟩
  · have h1 : ((xs.length : Int) != ys.length) = true := by simp; omega
    have he : decide (xs = ys) = false := by
      rw [decide_eq_false_iff_not]; rintro rfl; exact hlen rfl
    have HE := Lib.hid he; clear he
    go_enter Tryz.func132, Tryz.ntmps132
    go_wp2
    go_ret
    exact ⟨ret_bool HE.out.symm, Below.refl _ _⟩

theorem Tryz.infoInts : (Tryz.prog.info? 22).map (fun i => (i.zero, i.size, i.bytes)) = some (some (.slice none 0 0), 1, 24) := by kernel_rfl
/-- rows of different types lie apart -/
theorem own_own_ne {w : World} {b b' : Nat} {T e : TypeId} {s s' n n' : Nat} {v v' : Value} {xs xs' : List Value} (h : w.ownsRow b T s v n xs) (ho : w.ownsRow b' e s' v' n' xs') (hT : T ≠ e) : v.ownBlock = none ∨ v.ownBlock ≠ v'.ownBlock := by
  rcases h.2 with ⟨rfl, _⟩ | ⟨g, cap, cur, rfl, _, hg, _⟩
  · exact .inl rfl
  · refine .inr fun e' => ?_
    have hb : Blk w g T cur := hg
    exact blk_own_ne hb ho hT (by rw [← e']; rfl)
/-- the rows of a frame, all of one's own -/
def FrO (base : Nat) (w : World) (v : Value) (xss : List (List Int)) : Prop :=
  ∃ vs, vs.length = xss.length ∧ w.ownsRow base 22 1 v xss.length vs ∧ ∀ (i : Nat) x xs, vs[i]? = some x → xss[i]? = some xs → w.ownsRow base 3 1 x xs.length (xs.map (Value.int .i64))
theorem FrO.kept {base : Nat} {w w' : World} {v : Value} {xss : List (List Int)} {row : Option Nat} (h : FrO base w v xss) (hg : w.grownBy w' row) (hr : ∀ k, row = some k → base ≤ k → ∀ cs T, w.heap[k]? = some (.cells cs T (0, 0)) → T ≠ 3 ∧ T ≠ 22) : FrO base w' v xss := by
  have key : ∀ (T : TypeId) (s n : Nat) (v : Value) (xs : List Value), (T = 3 ∨ T = 22) → w.ownsRow base T s v n xs → w'.ownsRow base T s v n xs := by
    intro T s n v xs hT ho
    refine ho.kept hg ?_
    rcases ho.2 with ⟨rfl, _⟩ | ⟨g, cap, cur, rfl, hb, hgg, _⟩
    · exact .inl rfl
    · refine .inr fun e => ?_
      have := hr g e.symm hb cur T hgg
      rcases hT with h | h
      · exact this.1 h
      · exact this.2 h
  obtain ⟨vs, h1, h2, h3⟩ := h
  exact ⟨vs, h1, key _ _ _ _ _ (.inr rfl) h2, fun i x xs hx hxs => key _ _ _ _ _ (.inl rfl) (h3 i x xs hx hxs)⟩
theorem FrO.below {base : Nat} {w w' : World} {v : Value} {xss : List (List Int)} (h : FrO base w v xss) (hb : Below w.heap.size w w') : FrO base w' v xss := by
  refine h.kept (row := none) ⟨hb.os, hb.tape, hb.output, hb.size, fun k hk _ => hb.block k hk⟩ (fun k e => by simp at e)
theorem FrO.base {base base' : Nat} {w : World} {v : Value} {xss : List (List Int)} (h : FrO base w v xss) (hb : base' ≤ base) : FrO base' w v xss := by
  obtain ⟨vs, h1, h2, h3⟩ := h
  exact ⟨vs, h1, own_base h2 hb, fun i x xs hx hxs => own_base (h3 i x xs hx hxs) hb⟩
theorem FrO.nil (base : Nat) (w : World) : FrO base w (.slice none 0 0) [] := ⟨[], rfl, World.ownsRow_nil _ _ _ _, fun i x xs hx => by simp at hx⟩
theorem FrO.cells {base : Nat} {w : World} {v : Value} {xss : List (List Int)} (h : FrO base w v xss) : ∃ a c vs, v = .slice a xss.length c ∧ Cells w a vs ∧ RowsV w vs xss ∧ xss.length ≤ 9223372036854775807 := by
  obtain ⟨vs, h1, h2, h3⟩ := h
  obtain ⟨a, c, rfl, hc, hn, hm⟩ := own_cap h2
  have hmx : maxLen = 9223372036854775807 := rfl
  refine ⟨a, c, vs, rfl, hc, ⟨h1, fun i x xs hx hxs => ?_⟩, by omega⟩
  obtain ⟨a', c', rfl, hc', hn', hm'⟩ := own_cap (h3 i x xs hx hxs)
  exact ⟨a', c', rfl, hc', by omega⟩
theorem RdS.blk {B bR : Nat} {l r : List Nat} {w : World} (h : RdS B bR l w r) : ∃ cs, Blk w bR 180 cs := by
  obtain ⟨_, a, cap, at_, _, _, h3, _⟩ := h; exact ⟨_, h3⟩
theorem FrO.kept_blk {base : Nat} {w w' : World} {v : Value} {xss : List (List Int)} {b : Nat} {T : TypeId} {cs : Array Value} (h : FrO base w v xss) (hg : w.grownBy w' (some b)) (hb : Blk w b T cs) (h1 : T ≠ 3) (h2 : T ≠ 22) : FrO base w' v xss := by
  refine h.kept hg (fun k e _ cs' T' hk => ?_)
  obtain rfl : b = k := by simpa using e
  have hbb : w.heap[b]? = _ := hb
  rw [hbb] at hk
  simp at hk
  exact ⟨by rw [← hk.2]; exact h1, by rw [← hk.2]; exact h2⟩
/-- one row more -/
theorem FrO.snoc {base : Nat} {w w' : World} {v v' x : Value} {xss : List (List Int)} {xs : List Int} {vs : List Value} (h1 : vs.length = xss.length) (h3 : ∀ (i : Nat) x xs, vs[i]? = some x → xss[i]? = some xs → w.ownsRow base 3 1 x xs.length (xs.map (Value.int .i64))) (h2 : w.ownsRow base 22 1 v xss.length vs) (hx : w.ownsRow base 3 1 x xs.length (xs.map (Value.int .i64)))
    (hg : w.grownBy w' v.ownBlock) (ho : w'.ownsRow base 22 1 v' (xss.length + 1) (vs ++ [x])) : FrO base w' v' (xss ++ [xs]) := by
  refine ⟨vs ++ [x], by simp [h1], by simpa using ho, fun i y ys hy hys => ?_⟩
  have key : ∀ (y : Value) (ys : List Int), w.ownsRow base 3 1 y ys.length (ys.map (Value.int .i64)) → w'.ownsRow base 3 1 y ys.length (ys.map (Value.int .i64)) := fun y ys hh => hh.kept hg (own_own_ne hh h2 (by decide))
  rcases Nat.lt_trichotomy i xss.length with hi | hi | hi
  · rw [List.getElem?_append_left (by omega)] at hy hys
    exact key _ _ (h3 i y ys hy hys)
  · subst hi
    rw [← h1, List.getElem?_append_right (Nat.le_refl _), Nat.sub_self] at hy
    rw [List.getElem?_append_right (Nat.le_refl _), Nat.sub_self] at hys
    simp at hy hys
    subst hy; subst hys
    exact key _ _ hx
  · rw [List.getElem?_eq_none (by simp; omega)] at hys
    contradiction
end Go.Proofs.YtoochleabcjljaaGreatDoor

/- Codes: the reference's reader of bits. -/
namespace Go.Proofs.YtoochleabcjljaaGreatDoor
open Go.RowKit

/-- the reference's reader at block bR, over the bytes l, with the bits r to come; 'ov': bits were missing -/
def RdF (B bR : Nat) (l : List Nat) (w : World) (r : List Nat) (ov : Bool) : Prop :=
  B ≤ bR ∧ ∃ a cap at_, at_ ≤ 8 * l.length ∧ r = (unB l).drop at_ ∧ w.heap[bR]? = some (.cells #[.slice a l.length cap, .int .i64 (at_ : Nat), .bool ov] 245 (0, 0)) ∧ Cells w a (bys l) ∧ ∀ b off, a = some ⟨b, off, none⟩ → b < B
theorem RdF.lt {B bR : Nat} {l r : List Nat} {ov : Bool} {w : World} (h : RdF B bR l w r ov) : bR < w.heap.size := by
  obtain ⟨_, a, cap, at_, _, _, h3, _⟩ := h; exact heap_lt h3
theorem RdF.blk {B bR : Nat} {l r : List Nat} {ov : Bool} {w : World} (h : RdF B bR l w r ov) : ∃ cs, Blk w bR 245 cs := by
  obtain ⟨_, a, cap, at_, _, _, h3, _⟩ := h; exact ⟨_, h3⟩
theorem RdF.kept {B bR : Nat} {l r : List Nat} {ov : Bool} {w w' : World} {row : Option Nat} (h : RdF B bR l w r ov) (hg : w.grownBy w' row) (hr : ∀ k, row = some k → B ≤ k ∧ k ≠ bR) : RdF B bR l w' r ov := by
  have hlt := h.lt
  obtain ⟨h0, a, cap, at_, h1, h2, h3, h4, h5⟩ := h
  exact ⟨h0, a, cap, at_, h1, h2, (hg.block bR hlt (fun e => (hr bR e.symm).2 rfl)).trans h3, h4.grown hg (fun b off e _ hk => by have := h5 b off e; have := (hr b hk.symm).1; omega), h5⟩
theorem RdF.below {B bR : Nat} {l r : List Nat} {ov : Bool} {w w' : World} (h : RdF B bR l w r ov) (hb : Below w.heap.size w w') : RdF B bR l w' r ov := by
  have hlt := h.lt
  obtain ⟨h0, a, cap, at_, h1, h2, h3, h4, h5⟩ := h
  exact ⟨h0, a, cap, at_, h1, h2, (hb.block bR hlt).trans h3, h4.below hb (Nat.le_refl _), h5⟩
theorem RdF.bits {B bR : Nat} {l r : List Nat} {ov : Bool} {w : World} (h : RdF B bR l w r ov) : ∀ b ∈ r, b ≤ 1 := by
  obtain ⟨_, a, cap, at_, _, h2, _⟩ := h
  subst h2
  intro b hb
  exact unB_bits l b (List.mem_of_mem_drop hb)
theorem heap_set2 {w : World} {b : Nat} {a c d u : Value} {T : TypeId} (h : w.heap[b]? = some (.cells #[a, c, d] T (0, 0))) : (w.setCell ⟨b, 2, none⟩ u).heap[b]? = some (.cells #[a, c, u] T (0, 0)) := by
  rw [heap_setCell_same w b 2 _ _ u h]; rfl
theorem heap_set1' {w : World} {b : Nat} {a c d u : Value} {T : TypeId} (h : w.heap[b]? = some (.cells #[a, c, d] T (0, 0))) : (w.setCell ⟨b, 1, none⟩ u).heap[b]? = some (.cells #[a, u, d] T (0, 0)) := by
  rw [heap_setCell_same w b 1 _ _ u h]; rfl

set_option maxRecDepth 100000 in
set_option maxHeartbeats 2000000 in
theorem refTake (B bR : Nat) (l r : List Nat) (ov : Bool) (k : Nat) (w : World) (h : RdF B bR l w r ov) (hd : ∀ d ∈ l, d < 256) (hl : l.length ≤ 1099511627776) (hk : k ≤ 32) :
    Calls Tryz.prog 184 #[.pointer (some ⟨bR, 0, none⟩), .int .i64 (k : Nat)] w fun e w' => e = .returned (.int .i64 ((takeR r k).1.1 : Nat)) ∧ RdF B bR l w' (takeR r k).2 (ov || !(takeR r k).1.2) ∧ w.grownBy w' (some bR) := by
  have HD := Lib.hid hd; have H := Lib.hid h
  have HB := Lib.hid h.bits
  clear hd h
  go_enter Tryz.func184, Tryz.ntmps184
  go_wp2
  go_loopw [5, 6] (fun n i wr => ∃ j : Nat, j ≤ k ∧ j ≤ r.length ∧ i = .int .i64 j ∧ n = .int .i64 (valB (r.take j) : Nat) ∧ RdF B bR l wr (r.drop j) ov ∧ w.grownBy wr (some bR)) (fun _ i _ => k - (intOf i).toNat)
  case atStart => exact ⟨0, Nat.zero_le _, Nat.zero_le _, rfl, rfl, H.out, World.grownBy.refl _ _⟩
  case round =>
    obtain ⟨j, hj, hjr, rfl, rfl, hr, hg⟩ := hrel
    have HR := Lib.hid hr
    by_cases hlt : j < k
    · obtain ⟨h0, a, cap, at_, ha, hrd, hbk, hca, hab⟩ := hr
      have hul : (unB l).length = 8 * l.length := unB_length l
      have hrl : r.length - j = 8 * l.length - at_ := by have := congrArg List.length hrd; rw [List.length_drop, List.length_drop, hul] at this; exact this
      have c0 : wr.cell? ⟨bR, 0, none⟩ = some (.slice a l.length cap) := by rw [Lib.cell_of_heap hbk]; rfl
      have c1 : wr.cell? ⟨bR, 1, none⟩ = some (.int .i64 (at_ : Nat)) := by rw [Lib.cell_of_heap hbk]; rfl
      have c9 : wr.cell? ⟨bR, 2, none⟩ = some (.bool ov) := by rw [Lib.cell_of_heap hbk]; rfl
      have f1 : wr.frozen? ⟨bR, 1, none⟩ = false := Lib.frozen_of_heap hbk 1
      have f2 : wr.frozen? ⟨bR, 2, none⟩ = false := Lib.frozen_of_heap hbk 2
      have g1 : IntKind.i64.wrap (8 * (l.length : Int)) = 8 * (l.length : Int) := IntWalk.i64_in _ (by omega)
      by_cases hj2 : j < r.length
      · obtain ⟨d, hdd⟩ := get_of_lt (show at_ / 8 < l.length by omega)
        have hbit := unB_get l at_ d hdd
        have hd256 := HD.out d (List.mem_of_getElem? hdd)
        obtain ⟨x, hx⟩ : ∃ x, x = d / 2 ^ (7 - at_ % 8) % 2 := ⟨_, rfl⟩
        rw [← hx] at hbit
        have hrj : r[j]? = some x := by
          have e1 : (r.drop j)[0]? = ((unB l).drop at_)[0]? := by rw [hrd]
          rw [List.getElem?_drop, List.getElem?_drop, Nat.add_zero, Nat.add_zero] at e1
          rw [e1]; exact hbit
        have hnv : valB (r.take (j + 1)) = 2 * valB (r.take j) + x := by rw [take_get hrj, valB_snoc]
        have hvl := valB_lt (l := r.take j) (fun b hb => HB.out b (List.mem_of_mem_take hb))
        rw [List.length_take, Nat.min_eq_left hjr] at hvl
        have hp31 : (2 : Nat) ^ j ≤ 2 ^ 31 := Nat.pow_le_pow_right (by decide) (by omega)
        have hx1 : x ≤ 1 := by omega
        obtain ⟨b, off, rfl⟩ := hca.addr (bys_ne (by omega))
        have c2 : wr.cell? ⟨b, off + at_ / 8, none⟩ = some (.int .u8 (d : Nat)) := hca.at (bys_get hdd)
        have hand : bits BinOp.and IntKind.i64 ((d : Int) / 2 ^ (7 - at_ % 8)) 1 = (x : Int) := by
          have h2 : ((d / 2 ^ (7 - at_ % 8) : Nat) : Int) = (d : Int) / 2 ^ (7 - at_ % 8) := by simp
          rw [← h2, bit_and (x := ((d / 2 ^ (7 - at_ % 8) : Nat) : Int)) (Int.natCast_nonneg _) (by have := Nat.div_le_self d (2 ^ (7 - at_ % 8)); omega), hx]; simp
        have e1 : ((at_ + 1 : Nat) : Int) = (at_ : Int) + 1 := by omega
        have hx2 : RdF B bR l (wr.setCell ⟨bR, 1, none⟩ (.int .i64 ((at_ : Int) + 1))) (r.drop (j + 1)) ov := by
          refine ⟨h0, _, cap, at_ + 1, by omega, ?_, by rw [e1]; exact heap_set1' hbk, hca.grown (grown_set wr ⟨bR, 1, none⟩ _) (fun b' off' e _ hk => by have := hab b' off' e; simp at hk; omega), hab⟩
          rw [← List.drop_drop, hrd, List.drop_drop]
        have hg2 : w.grownBy (wr.setCell ⟨bR, 1, none⟩ (.int .i64 ((at_ : Int) + 1))) (some bR) := hg.trans (grown_set wr ⟨bR, 1, none⟩ _)
        have HX2 := Lib.hid hx2; have HG2 := Lib.hid hg2; have HAND := Lib.hid hand
        have HNV := Lib.hid hnv
        clear hx2 hg2 hand e1 hnv hbit hrj
        generalize valB (r.take j) = v at *
        have hv31 : v < 2147483648 := by omega
        clear hvl hp31
        clear hrd hbk hca hab hdd HR
        go_wp2_with fail
        go_quiet (fail)
        go_wp2_with fail
        go_quiet (fail)
        go_wp2_with fail
        have hw : wrap64 (2 * (v : Int) + x) = ((2 * v + x : Nat) : Int) := by simp only [wrap64]; omega
        go_roundw
        case rel => exact ⟨j + 1, by omega, by omega, by go_num, by rw [HAND.out, hw, HNV.out], HX2.out, by have h := HG2.out; exact ⟨h.os, h.tape, h.output, h.size, h.block⟩⟩
        case measure => simp [intOf]; omega
      · have hjr2 : r.length = j := by omega
        have ht : takeR r k = ((0, false), []) := by unfold takeR; rw [if_neg (by omega)]
        have HT := Lib.hid ht
        have hdr : r.drop j = [] := List.drop_eq_nil_of_le (by omega)
        have hge : 8 * (l.length : Int) ≤ at_ := by omega
        have hx2 : RdF B bR l (wr.setCell ⟨bR, 2, none⟩ (.bool true)) [] true := by
          refine ⟨h0, a, cap, at_, ha, by rw [← hrd, hdr], heap_set2 hbk, hca.grown (grown_set wr ⟨bR, 2, none⟩ _) (fun b' off' e _ hk => by have := hab b' off' e; simp at hk; omega), hab⟩
        have hg2 : w.grownBy (wr.setCell ⟨bR, 2, none⟩ (.bool true)) (some bR) := hg.trans (grown_set wr ⟨bR, 2, none⟩ _)
        have HX2 := Lib.hid hx2; have HG2 := Lib.hid hg2
        clear ht hdr hrd hbk hca hab hx2 hg2
        go_wp2_with fail
        go_quiet (fail)
        go_wp2_with fail
        go_ret
        exact ⟨by rw [HT.out]; rfl, by rw [HT.out, Bool.not_false, Bool.or_true]; exact HX2.out, by have h := HG2.out; exact ⟨h.os, h.tape, h.output, h.size, h.block⟩⟩
    · obtain rfl : j = k := by omega
      have ht : takeR r j = ((valB (r.take j), true), r.drop j) := by unfold takeR; rw [if_pos hjr]
      have HT := Lib.hid ht; clear ht
      go_wp2
      go_ret
      exact ⟨by rw [HT.out]; rfl, by rw [HT.out, Bool.not_true, Bool.or_false]; exact HR.out, hg⟩
end Go.Proofs.YtoochleabcjljaaGreatDoor

/- Codes: a folded value as the reference reads it. -/
namespace Go.Proofs.YtoochleabcjljaaGreatDoor
open Go.RowKit

set_option maxRecDepth 100000 in
set_option maxHeartbeats 2000000 in
theorem refValue (B bR : Nat) (l r : List Nat) (ov : Bool) (sh : Nat) (w : World) (h : RdF B bR l w r ov) (hd : ∀ d ∈ l, d < 256) (hl : l.length ≤ 1099511627776) (hsh : sh ≤ 30) :
    Calls Tryz.prog 221 #[.pointer (some ⟨bR, 0, none⟩), .int .i64 (sh : Nat)] w fun e w' => e = .returned (.int .i64 ((valueF sh 20 r).1.1 : Nat)) ∧ RdF B bR l w' (valueF sh 20 r).2 (ov || (valueF sh 20 r).1.2) ∧ w.grownBy w' (some bR) := by
  have HTK := Lib.hid (fun r ov k w h hk => refTake B bR l r ov k w h hd hl hk)
  have H := Lib.hid h
  have hp30 : (2 : Nat) ^ sh ≤ 2 ^ 30 := Nat.pow_le_pow_right (by decide) hsh
  clear hd h
  go_enter Tryz.func221, Tryz.ntmps221
  go_wp2
  go_loopw [5] (fun q wr => ∃ (n : Nat) (s : List Nat), n ≤ 20 ∧ q = .int .i64 n ∧ valueF sh (20 - n) s = valueF sh 20 r ∧ RdF B bR l wr s ov ∧ w.grownBy wr (some bR)) (fun q _ => 20 - (intOf q).toNat)
  case atStart => exact ⟨0, r, by omega, rfl, rfl, H.out, World.grownBy.refl _ _⟩
  case round =>
    clear H
    obtain ⟨n, s, hn, rfl, hv, hs, hg⟩ := hrel
    by_cases h20 : n = 20
    · subst h20
      rw [Nat.sub_self, valueF] at hv
      have HV := Lib.hid hv
      have ht := HTK.out s ov 32 wr hs (by omega)
      have HT := Lib.hid ht
      clear hv ht hs
      go_wp2_with fail
      refine HT.out.mono ?_
      rintro e w1 ⟨rfl, hs1, hg1⟩
      have hgg := hg.trans hg1
      have HS1 := Lib.hid hs1
      clear hs1 hg1 hg
      go_wp2
      go_ret
      exact ⟨by rw [← HV.out]; rfl, by rw [← HV.out]; exact HS1.out, hgg⟩
    · obtain ⟨f, hf⟩ : ∃ f, 20 - n = f + 1 := ⟨19 - n, by omega⟩
      have hnf : 20 - (f + 1) = n := by omega
      rw [hf] at hv
      have HV := Lib.hid hv
      have ht := HTK.out s ov 1 wr hs (by omega)
      have HT := Lib.hid ht
      have hbt := hs.bits
      have hn20 : n < 20 := by omega
      have hn20i : (n : Int) < 20 := by omega
      have hne : ((n : Int) == 20) = false := by rw [beq_eq_false_iff_ne]; omega
      clear hv ht hs
      have hmul : n * 2 ^ sh ≤ 20 * 2 ^ 30 := Nat.mul_le_mul (by omega) hp30
      have hmi : ((n * 2 ^ sh : Nat) : Int) = (n : Int) * 2 ^ sh := by simp
      cases s with
      | nil =>
        have hv := HV.out
        rw [valueF, hnf] at hv
        have HV2 := Lib.hid hv
        clear hv
        have e1 : takeR [] 1 = ((0, false), []) := rfl
        have E1 := Lib.hid e1; clear e1
        go_wp2_with fail
        refine HT.out.mono ?_
        rintro e w1 ⟨rfl, hs1, hg1⟩
        rw [E1.out] at hs1 ⊢
        have hgg : w.grownBy w1.drew (some bR) := by have h := hg.trans hg1; exact ⟨h.os, h.tape, h.output, h.size, h.block⟩
        have ht2 := HTK.out [] _ sh w1.drew hs1 (by omega)
        rw [(takeR_nil sh).1, (takeR_nil sh).2] at ht2
        have HT2 := Lib.hid ht2
        clear hs1 hg1 ht2
        go_wp2_with fail
        go_region_with (go_at_call 184; refine HT2.out.mono ?_; rintro e w2 ⟨rfl, hs2, hg2⟩; have HS2 := Lib.hid hs2; have HG2 := Lib.hid hg2; clear hs2 hg2)
        all_goals
          have hgf := hgg.trans HG2.out
          have q1 : IntKind.i64.wrap ((n : Int) * 2 ^ sh) = ((n * 2 ^ sh : Nat) : Int) := by rw [← hmi]; exact IntWalk.i64_in _ (by omega)
          have q2 : IntKind.i64.wrap ((n * 2 ^ sh : Nat) : Int) = ((n * 2 ^ sh : Nat) : Int) := IntWalk.i64_in _ (by omega)
          have Q1 := Lib.hid q1; have Q2 := Lib.hid q2
          clear q1 q2 hmi hmul hp30
          go_wp2_with fail
          go_ret
          exact ⟨by rw [← HV2.out]; exact ret_int (show IntKind.i64.wrap (IntKind.i64.wrap ((n : Int) * 2 ^ sh)) = ((n * 2 ^ sh : Nat) : Int) from by rw [Q1.out]; exact Q2.out), by
            have h9 := HS2.out
            rw [Bool.not_false, Bool.or_true, Bool.true_or] at h9
            rw [← HV2.out, Bool.or_true]; exact h9, hgf⟩
      | cons b s =>
        have hb1 : b ≤ 1 := hbt b (by simp)
        have e1 : takeR (b :: s) 1 = ((b, true), s) := by simp [takeR, valB]
        have E1 := Lib.hid e1; clear e1
        have hsb : ∀ c ∈ s, c ≤ 1 := fun c hc => hbt c (by simp [hc])
        have hbd := takeR_bd hsb sh
        clear hbt
        go_wp2_with fail
        refine HT.out.mono ?_
        rintro e w1 ⟨rfl, hs1, hg1⟩
        rw [E1.out] at hs1 ⊢
        have hgg := hg.trans hg1
        rw [Bool.not_true, Bool.or_false] at hs1
        by_cases hb0 : b = 1
        · subst hb0
          have hv := HV.out
          rw [valueF, if_pos rfl] at hv
          have HV2 := Lib.hid hv
          have HS1 := Lib.hid hs1
          clear hv hs1 hg1
          go_wp2
          go_roundw
          case rel => exact ⟨n + 1, s, by omega, by go_num, by rw [show 20 - (n + 1) = f from by omega]; exact HV2.out, HS1.out, hgg⟩
          case measure => simp [intOf]; omega
        · obtain rfl : b = 0 := by omega
          have hv := HV.out
          rw [valueF, if_neg hb0, hnf] at hv
          have HV2 := Lib.hid hv
          have ht2 := HTK.out s ov sh w1.drew hs1 (by omega)
          have HT2 := Lib.hid ht2
          have hgg2 : w.grownBy w1.drew (some bR) := ⟨hgg.os, hgg.tape, hgg.output, hgg.size, hgg.block⟩
          clear hv hs1 hg1 ht2 hb0 hgg
          go_wp2_with fail
          go_region_with (go_at_call 184; refine HT2.out.mono ?_; rintro e w2 ⟨rfl, hs2, hg2⟩; have HS2 := Lib.hid hs2; have HG2 := Lib.hid hg2; clear hs2 hg2)
          all_goals
            have hgf := hgg2.trans HG2.out
            have q1 : IntKind.i64.wrap ((n : Int) * 2 ^ sh) = ((n * 2 ^ sh : Nat) : Int) := by rw [← hmi]; exact IntWalk.i64_in _ (by omega)
            have q2 : IntKind.i64.wrap (((n * 2 ^ sh : Nat) : Int) + ((takeR s sh).1.1 : Nat)) = ((n * 2 ^ sh + (takeR s sh).1.1 : Nat) : Int) := by rw [Int.natCast_add]; exact IntWalk.i64_in _ (by omega)
            have Q1 := Lib.hid q1; have Q2 := Lib.hid q2
            clear q1 q2 hmi hmul hp30
            go_wp2_with fail
            go_ret
            exact ⟨by rw [← HV2.out]; exact ret_int (show IntKind.i64.wrap (IntKind.i64.wrap ((n : Int) * 2 ^ sh) + ((takeR s sh).1.1 : Nat)) = ((n * 2 ^ sh + (takeR s sh).1.1 : Nat) : Int) from by rw [Q1.out]; exact Q2.out), by rw [← HV2.out]; exact HS2.out, hgf⟩
end Go.Proofs.YtoochleabcjljaaGreatDoor

/- Codes: the samples of a channel as the reference reads them. -/
namespace Go.Proofs.YtoochleabcjljaaGreatDoor
open Go.RowKit

theorem rowF_bits {sh : Nat} (hs : sh ≤ 30) : ∀ (n : Nat) (r : List Nat) (ov : Bool) (acc : List Int), (∀ b ∈ r, b ≤ 1) → ∀ b ∈ (rowF sh n r ov acc).2, b ≤ 1
  | 0, _, _, _, hb => hb
  | n + 1, r, _, _, hb => by
    rw [rowF]
    exact rowF_bits hs n _ _ _ (valueF_bd hs 20 (Nat.le_refl _) hb).2

set_option maxRecDepth 100000 in
set_option maxHeartbeats 4000000 in
theorem refChannel2 (B bR : Nat) (l r : List Nat) (ov : Bool) (m : Nat) (w : World) (h : RdF B bR l w r ov) (hd : ∀ d ∈ l, d < 256) (hl : l.length ≤ 1099511627776) (hm : m ≤ 64) :
    Calls Tryz.prog 185 #[.pointer (some ⟨bR, 0, none⟩), .int .i64 (m : Nat)] w fun e w' => (∃ v, e = .returned v ∧ w'.ownsRow w.heap.size 3 1 v (chanF m r ov).1.1.length ((chanF m r ov).1.1.map (Value.int .i64))) ∧ RdF B bR l w' (chanF m r ov).2 (chanF m r ov).1.2 ∧ w.grownBy w' (some bR) := by
  have HTK := Lib.hid (fun r ov k w h hk => refTake B bR l r ov k w h hd hl hk)
  have HVA := Lib.hid (fun r ov sh w h hs => refValue B bR l r ov sh w h hd hl hs)
  have hbR := h.lt
  have hB := h.1
  have h1 := HTK.out r ov 2 w h (by omega)
  have H1 := Lib.hid h1
  obtain ⟨ho3, hbits1⟩ := takeR_bd h.bits 2
  obtain ⟨hs31, hbits2⟩ := takeR_bd hbits1 5
  have hres : chanF m r ov = ((sumsR (rowF (min (takeR (takeR r 2).2 5).1.1 30) m (takeR (takeR r 2).2 5).2 (ov || !(takeR r 2).1.2 || !(takeR (takeR r 2).2 5).1.2) []).1.1 (takeR r 2).1.1, (rowF (min (takeR (takeR r 2).2 5).1.1 30) m (takeR (takeR r 2).2 5).2 (ov || !(takeR r 2).1.2 || !(takeR (takeR r 2).2 5).1.2) []).1.2), (rowF (min (takeR (takeR r 2).2 5).1.1 30) m (takeR (takeR r 2).2 5).2 (ov || !(takeR r 2).1.2 || !(takeR (takeR r 2).2 5).1.2) []).2) := rfl
  generalize chanF m r ov = res at *
  have HT2 := Lib.hid (fun ov1 w1 hs1 => HTK.out (takeR r 2).2 ov1 5 w1 hs1 (by omega))
  generalize ht1 : takeR r 2 = t1 at *
  obtain ⟨⟨o, ok1⟩, r1⟩ := t1
  simp only at hres ho3 hbits1 hs31 hbits2 H1 HT2
  generalize ht2 : takeR r1 5 = t2 at *
  obtain ⟨⟨k0, ok2⟩, r2⟩ := t2
  simp only at hres hs31 hbits2 HT2
  obtain ⟨sh, hsh⟩ : ∃ sh, sh = min k0 30 := ⟨_, rfl⟩
  have hsh30 : sh ≤ 30 := by omega
  rw [← hsh] at hres
  have hmin : min (k0 : Int) 30 = (sh : Int) := by omega
  have HRES := Lib.hid hres
  clear hd h1 h ht1 hbits1 hbits2 ht2 hres hsh
  go_enter Tryz.func185, Tryz.ntmps185
  go_wp2_with fail
  refine H1.out.mono ?_
  rintro e w1 ⟨rfl, hs1, hg1⟩
  have h2 := HT2.out _ w1 hs1
  have H2 := Lib.hid h2
  clear h2 hs1
  go_wp2_with fail
  refine H2.out.mono ?_
  rintro e w2 ⟨rfl, hs2, hg2⟩
  have hg := hg1.trans hg2
  have HS2 := Lib.hid hs2; have HG := Lib.hid hg
  have hz := hg.size
  clear hg1 hg2 hs2 H1 H2 HT2 hg
  obtain ⟨ov2, hov2⟩ : ∃ ov2, ov2 = (ov || !ok1 || !ok2) := ⟨_, rfl⟩
  rw [← hov2] at HS2 HRES
  clear hov2
  go_wp2_with fail
  go_loopw [7, 8] (fun v i wr => ∃ (k : Nat) (s : List Nat) (ov' : Bool) (acc : List Int), k ≤ m ∧ i = .int .i64 k ∧ acc.length = k ∧ (∀ x ∈ acc, -12884901889 ≤ x ∧ x ≤ 12884901889) ∧ rowF sh (m - k) s ov' acc = rowF sh m r2 ov2 [] ∧ RdF B bR l wr s ov' ∧ wr.ownsRow w.heap.size 3 1 v k (acc.map (Value.int .i64)) ∧ w.grownBy wr (some bR)) (fun _ i _ => m - (intOf i).toNat)
  case atStart => exact ⟨0, r2, ov2, [], Nat.zero_le _, rfl, rfl, by simp, rfl, HS2.out, World.ownsRow_nil _ _ _ _, HG.out⟩
  case round =>
    clear HS2 HG
    obtain ⟨k, s, ov', acc, hk, rfl, hal, hab, hrow, hs, hown, hg⟩ := hrel
    have HROW := Lib.hid hrow; have HAB := Lib.hid hab
    clear hrow hab
    by_cases hlt : k < m
    · have hv := HVA.out s ov' sh wr hs hsh30
      have hvb := valueF_bd hsh30 20 (Nat.le_refl _) hs.bits
      have HV := Lib.hid hv; have HOW := Lib.hid hown
      obtain ⟨d, hd⟩ : ∃ d, m - k = d + 1 := ⟨m - k - 1, by omega⟩
      have hrow := HROW.out
      rw [hd, rowF] at hrow
      have HROW2 := Lib.hid hrow
      clear hrow hv hown hs HROW
      generalize hvr : valueF sh 20 s = vr at *
      obtain ⟨⟨u, okv⟩, s2⟩ := vr
      simp only at HROW2 hvb HV
      clear hvr
      obtain ⟨i0, hi, hz0, hz1, hz2⟩ := info_parts Tryz.infoInt
      go_wp2_with fail
      refine HV.out.mono ?_
      rintro e w3 ⟨rfl, hs3, hg3⟩
      have hg4 := hg.trans hg3
      have hown3 := HOW.out.kept hg3 (.inr (fun e => by have := (HOW.out.lt _ e).1; omega))
      have HS3 := Lib.hid hs3; have HO3 := Lib.hid hown3; have HG4 := Lib.hid hg4
      have hz4 := hg4.size
      have hub := unfU_bd hvb.1
      have hu := hvb.1
      clear hs3 hown3 hg4 hg3 hg HV
      by_cases hodd : u % 2 = 1
      · have h1 : (u : Int).tmod 2 = 1 := by rw [Int.tmod_eq_emod_of_nonneg (by omega)]; omega
        have h2 : (-((u : Int) + 1)).tdiv 2 = -(((u : Int) + 1) / 2) := by rw [Int.neg_tdiv, Int.tdiv_eq_ediv_of_nonneg (by omega)]
        have HU : Hid (unfU u = -(((u : Int) + 1) / 2)) := Lib.hid (by rw [unfU, if_pos hodd])
        go_wp2_with (at_builtin; refine wpList_append_lies _ rfl _ _ _ rfl w.heap.size 3 i0 (.int .i64 0) 1 8 Tryz.underlying22 hi hz0 hz1 hz2 rfl (by decide) _ _ _ rfl (HO3.out.alloc _) ⟨w3.heap.size, 0, none⟩ 1 1 [.int .i64 (-(((u : Int) + 1) / 2))] rfl rfl (news1 _ _ _) (by simp [Value.oneCell']) (by omega) (by unfold maxLen; omega) (by omega) (by simp; omega) (w3.heap.size + 1) (by simp) ?_)
        intro g1 cg1 w5 hown5 hgrow hat hlt1
        have ha1 := World.grownBy_alloc w3 (.cells #[.int .i64 (-(((u : Int) + 1) / 2))] 3)
        have hs5 := (HS3.out.kept (ha1 none) (fun k e => by simp at e)).kept hgrow (fun k e => by have := (HO3.out.lt k e).1; omega)
        have hg5 : w.grownBy w5 (some bR) := (HG4.out.trans (ha1 _)).andThen hgrow (fun j e => .inl (HO3.out.lt j e).1)
        have HS5 := Lib.hid hs5; have HG5 := Lib.hid hg5; have HO5 := Lib.hid hown5
        clear hs5 hg5 hown5 hgrow hat hlt1 ha1 HG4 HO3 HS3 h1 h2
        go_wp2
        go_roundw
        case rel => exact ⟨k + 1, s2, _, acc ++ [unfU u], by omega, by go_num, by rw [List.length_append, hal]; rfl, (by
          intro x hx
          rcases List.mem_append.1 hx with h | h
          · exact HAB.out x h
          · rw [List.mem_singleton.1 h]; exact hub), by rw [show m - (k + 1) = d from by omega]; exact HROW2.out, HS5.out, by rw [List.map_append, HU.out]; exact HO5.out, HG5.out⟩
        case measure => simp [intOf]; omega
      · have h1 : (u : Int).tmod 2 = 0 := by rw [Int.tmod_eq_emod_of_nonneg (by omega)]; omega
        have h2 : (u : Int).tdiv 2 = (u : Int) / 2 := Int.tdiv_eq_ediv_of_nonneg (by omega)
        have HU : Hid (unfU u = (u : Int) / 2) := Lib.hid (by rw [unfU, if_neg hodd])
        go_wp2_with (at_builtin; refine wpList_append_lies _ rfl _ _ _ rfl w.heap.size 3 i0 (.int .i64 0) 1 8 Tryz.underlying22 hi hz0 hz1 hz2 rfl (by decide) _ _ _ rfl (HO3.out.alloc _) ⟨w3.heap.size, 0, none⟩ 1 1 [.int .i64 ((u : Int) / 2)] rfl rfl (news1 _ _ _) (by simp [Value.oneCell']) (by omega) (by unfold maxLen; omega) (by omega) (by simp; omega) (w3.heap.size + 1) (by simp) ?_)
        intro g1 cg1 w5 hown5 hgrow hat hlt1
        have ha1 := World.grownBy_alloc w3 (.cells #[.int .i64 ((u : Int) / 2)] 3)
        have hs5 := (HS3.out.kept (ha1 none) (fun k e => by simp at e)).kept hgrow (fun k e => by have := (HO3.out.lt k e).1; omega)
        have hg5 : w.grownBy w5 (some bR) := (HG4.out.trans (ha1 _)).andThen hgrow (fun j e => .inl (HO3.out.lt j e).1)
        have HS5 := Lib.hid hs5; have HG5 := Lib.hid hg5; have HO5 := Lib.hid hown5
        clear hs5 hg5 hown5 hgrow hat hlt1 ha1 HG4 HO3 HS3 h1 h2
        go_wp2
        go_roundw
        case rel => exact ⟨k + 1, s2, _, acc ++ [unfU u], by omega, by go_num, by rw [List.length_append, hal]; rfl, (by
          intro x hx
          rcases List.mem_append.1 hx with h | h
          · exact HAB.out x h
          · rw [List.mem_singleton.1 h]; exact hub), by rw [show m - (k + 1) = d from by omega]; exact HROW2.out, HS5.out, by rw [List.map_append, HU.out]; exact HO5.out, HG5.out⟩
        case measure => simp [intOf]; omega
    · obtain rfl : k = m := by omega
      have hrow := HROW.out
      rw [Nat.sub_self, rowF] at hrow
      have hre : res = ((sumsR acc o, ov'), s) := by rw [HRES.out, ← hrow]
      have HRE := Lib.hid hre
      have HOW := Lib.hid hown; have HS := Lib.hid hs; have HG := Lib.hid hg
      obtain ⟨xa, xc, rfl, -⟩ := own_cells hown
      clear hre hown hs hg hrow HROW HRES
      subst hal
      go_wp2_with fail
      go_loopw [10] (fun i wi => ∃ q : Nat, q ≤ o ∧ i = .int .i64 q ∧ wi.ownsRow w.heap.size 3 1 (.slice xa acc.length xc) acc.length ((sumsR acc q).map (Value.int .i64)) ∧ RdF B bR l wi s ov' ∧ w.grownBy wi (some bR)) (fun i _ => o - (intOf i).toNat)
      case atStart => exact ⟨0, Nat.zero_le _, rfl, HOW.out, HS.out, HG.out⟩
      case round =>
        clear HOW HS HG
        obtain ⟨q, hq, rfl, hown, hs, hg⟩ := hrel
        have HO2 := Lib.hid hown
        by_cases hqo : q < o
        · have hrl := sumsR_length acc q
          have hrb := sumsR_bd (show acc.length ≤ 64 by omega) HAB.out q (by omega)
          have hrb2 := sumsR_bd (show acc.length ≤ 64 by omega) HAB.out (q + 1) (by omega)
          rw [sumsR] at hrb2
          have HYS : Hid (sumsR acc (q + 1) = psum (sumsR acc q)) := Lib.hid rfl
          clear hown
          generalize sumsR acc q = ys at *
          have HYB := Lib.hid hrb; have HPB := Lib.hid hrb2; clear hrb hrb2
          have hrl2 : acc.length = ys.length := hrl.symm
          have hyl : ys.length ≤ 64 := by omega
          have HRE2 := HRE
          have HRS := Lib.hid hs; have HRG := Lib.hid hg
          clear hs hg
          generalize hacl : acc.length = n at *
          subst hrl2
          clear hrl
          go_wp2_with fail
          go_loopw [11] (fun i wj => ∃ j : Nat, 1 ≤ j ∧ (j ≤ ys.length ∨ j = 1) ∧ i = .int .i64 (j : Int) ∧ wj.ownsRow w.heap.size 3 1 (.slice xa ys.length xc) ys.length (((psum ys).take j ++ ys.drop j).map (Value.int .i64)) ∧ RdF B bR l wj s ov' ∧ w.grownBy wj (some bR)) (fun i _ => ys.length - (intOf i).toNat)
          case atStart =>
            refine ⟨1, Nat.le_refl _, .inr rfl, rfl, ?_, HRS.out, HRG.out⟩
            rcases Nat.eq_zero_or_pos ys.length with h0 | h0
            · have hy0 : ys = [] := List.length_eq_zero_iff.1 h0
              have := HO2.out
              rw [hy0] at this ⊢
              simpa [psum] using this
            · rw [psum_start h0]; exact HO2.out
          case round =>
            clear HRS HRG
            obtain ⟨j, hj1, hj, rfl, hown, hs, hg⟩ := hrel
            by_cases h1 : j < ys.length
            · obtain ⟨t, rfl⟩ : ∃ t, j = t + 1 := ⟨j - 1, by omega⟩
              have e1 : (((t + 1 : Nat) : Int)) = (t : Int) + 1 := by omega
              rw [e1]
              obtain ⟨x, hx⟩ := get_of_lt (show t + 1 < ys.length by omega)
              obtain ⟨y, hy⟩ := get_of_lt (show t < (psum ys).length by rw [psum_length]; omega)
              have hst := psum_step hx hy
              obtain ⟨bx1, bx2⟩ := HYB.out x (List.mem_of_getElem? hx)
              obtain ⟨by1, by2⟩ := HPB.out y (List.mem_of_getElem? hy)
              obtain ⟨gb, cg', hv, -, -⟩ := hown.form (by omega)
              simp only [Value.slice.injEq, true_and] at hv
              obtain ⟨rfl, rfl⟩ := hv
              have hlx : ((psum ys).take (t + 1)).length = t + 1 := by rw [List.length_take, psum_length]; omega
              have c1 : wr.cell? ⟨gb, t + 1, none⟩ = some (.int .i64 x) := by
                rw [hown.cellAt (t + 1) (by omega), List.getElem?_map, List.getElem?_append_right (by omega), hlx, Nat.sub_self, List.getElem?_drop, Nat.add_zero, hx]; rfl
              have c2 : wr.cell? ⟨gb, t, none⟩ = some (.int .i64 y) := by
                rw [hown.cellAt t (by omega), List.getElem?_map, List.getElem?_append_left (by rw [hlx]; omega), List.getElem?_take, if_pos (by omega), hy]; rfl
              have f1 := hown.frozenAt (t + 1)
              have hsto := hown.stored (t + 1) (.int .i64 (x + y))
              rw [← List.map_set, hst] at hsto
              have hgb := hown.lt gb rfl
              have hs2 := hs.kept hsto.2 (fun k e => by simp at e; omega)
              have hg2 := hg.andThen hsto.2 (fun k e => by simp at e; exact .inl (by omega))
              have HST := Lib.hid hsto.1; have HS2 := Lib.hid hs2; have HG2 := Lib.hid hg2
              clear hsto hs2 hg2 hst hx hy hown e1 hlx hs hg hj
              have i1 : (t : Int) + 1 < ys.length := by omega
              have i2 : (t : Int) < ys.length := by omega
              have i3 : (0 : Int) ≤ t := by omega
              have i4 : (0 : Int) ≤ (t : Int) + 1 := by omega
              have q1 : IntKind.i64.wrap (((t + 1 : Nat) : Int) - 1) = (t : Int) := by rw [IntWalk.i64_in _ (by omega)]; omega
              have q6 : IntKind.i64.wrap (t : Int) = (t : Int) := IntWalk.i64_in _ (by omega)
              have q2 : IntKind.i64.wrap (x + y) = x + y := IntWalk.i64_in _ (by omega)
              have q5 : IntKind.i64.wrap ((t : Int) + 1 - 1) = (t : Int) := by rw [IntWalk.i64_in _ (by omega)]; omega
              have q3 : (((t : Int) + 1)).toNat = t + 1 := by omega
              go_wp2
              go_still_tail 13, (by kernel_rfl)
              change wpList _ _ _ _ _ wr.drew
              have c1d : wr.drew.cell? ⟨gb, t + 1, none⟩ = some (.int .i64 x) := c1
              have f1d : wr.drew.frozen? ⟨gb, t + 1, none⟩ = false := f1
              have HSTd : Hid ((wr.drew.setCell ⟨gb, t + 1, none⟩ (.int .i64 (x + y))).ownsRow w.heap.size 3 1 (.slice (some ⟨gb, 0, none⟩) ys.length xc) ys.length (((psum ys).take (t + 2) ++ ys.drop (t + 2)).map (Value.int .i64))) := HST.out
              have HS2d : Hid (RdF B bR l (wr.drew.setCell ⟨gb, t + 1, none⟩ (.int .i64 (x + y))) s ov') := HS2.out
              have HG2d : Hid (w.grownBy (wr.drew.setCell ⟨gb, t + 1, none⟩ (.int .i64 (x + y))) (some bR)) := by
                have h := HG2.out
                exact ⟨h.os, h.tape, h.output, h.size, h.block⟩
              clear HST HS2 HG2 c1 c2 f1 q1 q2 q5 q6
              generalize wr.drew = wd at *
              go_wp2
              go_roundw
              case rel => exact ⟨t + 2, by omega, by omega, by go_num, HSTd.out, HS2d.out, HG2d.out⟩
              case measure => simp [intOf]; omega
            · have hfin : wr.ownsRow w.heap.size 3 1 (.slice xa ys.length xc) ys.length ((psum ys).map (Value.int .i64)) := by
                have h2 : (psum ys).take j ++ ys.drop j = psum ys := by
                  rw [List.drop_eq_nil_of_le (by omega), List.append_nil, List.take_of_length_le (by rw [psum_length]; omega)]
                rw [h2] at hown; exact hown
              have HF := Lib.hid hfin; have HS := Lib.hid hs; have HG := Lib.hid hg
              clear hfin hown hs hg
              go_wp2
              go_roundw
              case rel => exact ⟨q + 1, by omega, by go_num, by rw [HYS.out]; exact HF.out, HS.out, HG.out⟩
              case measure => simp [intOf]; omega
        · obtain rfl : q = o := by omega
          have HS := Lib.hid hs; have HG := Lib.hid hg
          have hrl := sumsR_length acc q
          have HRL := Lib.hid hrl
          clear hs hg hown hrl
          go_wp2
          go_ret
          exact ⟨⟨_, rfl, by rw [HRE.out]; simp only [HRL.out]; exact HO2.out⟩, by rw [HRE.out]; exact HS.out, HG.out⟩
end Go.Proofs.YtoochleabcjljaaGreatDoor
