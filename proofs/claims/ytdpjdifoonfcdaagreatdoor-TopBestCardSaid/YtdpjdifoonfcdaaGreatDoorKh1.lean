/- Parts of a proof, in build order: N1, N2, K0, K1, K2, Ap, K3, K4, K5, K6. -/
import Derived.Test.YtdpjdifoonfcdaaGreatDoorKh0
import Derived.Laws.AppendOwnNone
import Derived.Maps.AppendAt

namespace Go.Proofs.YtdpjdifoonfcdaaGreatDoor
open Go.RowKit
theorem zeros_dgs (n : Nat) : (madeCells (Value.int .u64 0).cells (n * 1)).toList = dgs (List.replicate n 0) := by
 rw [show (Value.int .u64 0).cells = #[Value.int .u64 0] from rfl, toList_madeCells_one]; simp [dgs]
theorem set_zeros (k q : Nat) (qs : List Nat) : (dgs (List.replicate (k + 1) 0 ++ qs)).set k (.int .u64 (q : Nat)) = dgs (List.replicate k 0 ++ (q :: qs)) := by
 rw [List.replicate_succ', List.append_assoc, dgs_append, dgs_append, List.set_append_right _ _ (by simp [dgs])]
 simp [dgs]
set_option maxRecDepth 100000 in
theorem short_any (aa : Option Addr) (l : List Nat) (ca d : Nat) (w : World) (ha : Cells w aa (dgs l)) (hs : Sm l) (hl : l.length <= 17592186044416) (hd : 1 <= d) (hd2 : d <= 1000000000) :
 Calls Tryz.prog 220 #[.slice aa l.length ca, .int .u64 (d : Nat)] w fun e w' => (∃ a c, e = .returned (.tuple #[.slice a (dig (val l / d)).length c, .int .u64 (val l % d : Nat)]) /\ Cells w' a (dgs (dig (val l / d))) /\ (dig (val l / d)).length <= c /\ c <= 17592186044416) /\ Below w.heap.size w w' := by
 obtain ⟨i0, hi, hz0, hz1, hz2⟩ := info_parts Tryz.infoU64
 have HA := Lib.hid ha; clear ha
 have HS := Lib.hid hs; clear hs
 have hne : ((d : Int) == 0) = false := by simp; omega
 go_enter Tryz.func220, Tryz.ntmps220
 go_wp2_with (at_make; refine wpList_make_full _ rfl _ _ 144 rfl w.heap.size 208 i0 (.int .u64 0) 1 Tryz.underlying144 hi hz0 hz1 .i64 .i64 _ _ l.length rfl rfl rfl rfl (by rw [hz2]; omega) (by unfold maxLen; omega) (Nat.le_refl _) ?_; intro w1 hown1 hgrow1)
 rw [zeros_dgs] at hown1
 have hb1 := (Below.refl w.heap.size w).grown hgrow1 (Nat.le_refl _) (fun _ h => by cases h)
 clear hgrow1
 have HO := Lib.hid hown1; clear hown1
 go_wp2
 go_loopw [7, 8] (fun r i wr => ∃ k : Nat, ∃ qs : List Nat, k <= l.length /\ i = .int .i64 ((k : Int) - 1) /\ r = .int .u64 (val (l.drop k) % d : Nat) /\ qs.length = l.length - k /\ val qs = val (l.drop k) / d /\ Sm qs /\ wr.ownsRow w.heap.size 208 1 (.slice (some ⟨w.heap.size, 0, none⟩) l.length l.length) l.length (dgs (List.replicate k 0 ++ qs)) /\ Below w.heap.size w wr) (fun _ i _ => (intOf i + 1).toNat)
 case atStart => exact ⟨l.length, [], Nat.le_refl _, rfl, by rw [List.drop_length]; simp [val], by simp, by rw [List.drop_length]; simp [val], by simp [Sm], by simpa using HO.out, hb1⟩
 case round =>
  clear hb1
  obtain ⟨k, qs, hk, rfl, rfl, hql, hqv, hqs, hown, hb⟩ := hrel
  by_cases h0 : k = 0
  · subst h0
    rw [List.drop_zero] at hqv ⊢
    simp only [List.replicate_zero, List.nil_append, Nat.sub_zero] at hown hql
    obtain ⟨g, c, hv, hcs⟩ := own_cells hown
    simp only [Value.slice.injEq, true_and] at hv
    obtain ⟨rfl, rfl⟩ := hv
    have hle := lean_any (some ⟨w.heap.size, 0, none⟩) qs l.length wr hcs hqs (by omega) (by omega) (by omega)
    have hdl : (dig (val qs)).length <= qs.length := dig_len_val hqs
    rw [hqv] at hle hdl
    rw [hql] at hle hdl
    have HLE := Lib.hid hle; clear hle hcs hown hqv hqs
    have HQL := Lib.hid hql; clear hql
    go_wp2_with fail
    refine HLE.out.mono ?_
    rintro e w2 ⟨⟨rfl, hcs2⟩, rfl⟩
    have HCS := Lib.hid hcs2; clear hcs2
    go_wp2
    go_ret2
    exact ⟨⟨_, _, rfl, HCS.out, hdl, hl⟩, hb⟩
  · obtain ⟨j, rfl⟩ : ∃ j, k = j + 1 := ⟨k - 1, by omega⟩
    have hj : j < l.length := by omega
    obtain ⟨x, hx⟩ := get_of_lt hj
    have hxB := sm_get HS.out hx
    obtain ⟨b, off, rfl⟩ := HA.out.addr (dgs_ne (by omega))
    have c1 := cell_keep (HA.out.dgs hx) hb (Nat.le_refl _)
    have hdr : val (l.drop j) = x + B * val (l.drop (j + 1)) := by
     rw [List.drop_eq_getElem_cons hj, (List.getElem?_eq_some_iff.1 hx).2, val_cons]
    have hst := short_step (H := val (l.drop (j + 1))) (x := x) (show 0 < d by omega)
    rw [<- hdr] at hst
    have hrd : val (l.drop (j + 1)) % d < d := Nat.mod_lt _ (by omega)
    have hq := short_dig hrd (show x < B by simp only [B]; omega)
    generalize hr : val (l.drop (j + 1)) % d = r at *
    have HR := Lib.hid hr; clear hr hdr hx
    have c2 := hown.cellAt j (by omega)
    rw [show (dgs (List.replicate (j + 1) 0 ++ qs))[j]? = some (.int .u64 (0 : Nat)) from by rw [dgs, List.map_append, List.getElem?_append_left (by simp)]; simp] at c2
    have c3 := hown.frozenAt j
    have hsto := hown.stored j (.int .u64 ((r * B + x) / d : Nat))
    rw [set_zeros] at hsto
    obtain ⟨hsto1, hsto2⟩ := hsto
    have e1 : ((((r : Int) * 1000000000) + x) / d) = (((r * B + x) / d : Nat) : Int) := by simp [B]
    have e2 : ((((r : Int) * 1000000000) + x) % d) = (((r * B + x) % d : Nat) : Int) := by simp [B]
    have q1 : 0 <= (((r : Int) * 1000000000) + x) / d := by rw [e1]; exact Int.natCast_nonneg _
    have q2 : (((r : Int) * 1000000000) + x) / d <= 999999999 := by rw [e1]; simp only [B] at hq ⊢; omega
    have hsz := hb.size
    have hszl : w.heap.size < wr.heap.size := by have := World.block_lt_of_cell? wr _ c2; simpa using this
    have hb2 : Below w.heap.size w (wr.setCell ⟨w.heap.size, j, none⟩ (.int .u64 ((r * B + x) / d : Nat))) := hb.setCell (Nat.le_refl _) _
    have HST := Lib.hid hst; clear hst
    have HQL := Lib.hid hql; clear hql
    have HQV := Lib.hid hqv; clear hqv
    have HQS := Lib.hid hqs; clear hqs
    have HO1 := Lib.hid hsto1; clear hsto1 hsto2 hown
    have HB2 := Lib.hid hb2; clear hb2
    have E1 := Lib.hid e1; have E2 := Lib.hid e2; clear e1 e2
    have e3 : (((j + 1 : Nat) : Int) - 1) = (j : Int) := by omega
    rw [e3]
    clear e3
    go_wp2
    go_roundw
    case rel =>
     refine ⟨j, (r * B + x) / d :: qs, by omega, rfl, by rw [E2.out, HST.out.2], by rw [List.length_cons, HQL.out]; omega, by rw [val_cons, HQV.out, HST.out.1], ?_, by rw [E1.out]; exact HO1.out, by rw [E1.out]; exact HB2.out⟩
     intro y hy
     rcases List.mem_cons.1 hy with rfl | hy
     · exact hq
     · exact HQS.out y hy
    case measure => simp [intOf]
end Go.Proofs.YtdpjdifoonfcdaaGreatDoor

namespace Go.Proofs.YtdpjdifoonfcdaaGreatDoor
open Go.RowKit
def NatV (w : World) (v : Value) (n : Nat) : Prop := ∃ a c, v = .slice a (dig n).length c /\ Cells w a (dgs (dig n)) /\ (dig n).length <= c /\ c <= 9223372036854775807
theorem NatV.below {w w' : World} {B : Nat} {v : Value} {n : Nat} (h : NatV w v n) (hb : Below B w w') (hB : w.heap.size <= B) : NatV w' v n := by
 obtain ⟨a, c, h1, h2, h3⟩ := h
 exact ⟨a, c, h1, h2.below hb hB, h3⟩
theorem dig_one {n : Nat} (h0 : n ≠ 0) (h : n < B) : dig n = [n] := dig_small h h0
set_option maxRecDepth 100000 in
theorem over_small (va vb : Value) (m n : Nat) (w : World) (ha : NatV w va m) (hb : NatV w vb n) (hm : (dig m).length <= 17592186044416) (hn0 : n ≠ 0) (hn : n < B) :
 Calls Tryz.prog 153 #[va, vb] w fun e w' => (∃ q r, e = .returned (.tuple #[q, r]) /\ NatV w' q (m / n) /\ NatV w' r (m % n)) /\ Below w.heap.size w w' := by
 have HVA := Lib.hid ha
 obtain ⟨aa, ca, rfl, ha, hac, hac2⟩ := ha
 obtain ⟨ab, cb, rfl, hb, hbc, hbc2⟩ := hb
 have hnl : (dig n).length <= 1 := by rw [dig_one hn0 hn]; simp
 by_cases hlt : m < n
 · have hq : m / n = 0 := Nat.div_eq_of_lt hlt
   have hr : m % n = m := Nat.mod_eq_of_lt hlt
   have hcmp := compare_any aa ab m n ca cb w ha hb (by omega) (by omega)
   rw [cmpN_lt hlt] at hcmp
   have HC := Lib.hid hcmp; clear hcmp
   have HQ := Lib.hid hq; have HR := Lib.hid hr; clear hq hr ha hb
   go_enter Tryz.func153, Tryz.ntmps153
   go_wp2_with fail
   refine HC.out.mono ?_
   rintro e w1 ⟨rfl, hb1⟩
   go_wp2
   go_ret2
   exact ⟨⟨_, _, rfl, by rw [HQ.out]; exact ⟨none, 0, by rw [dig_zero]; rfl, by rw [dig_zero]; exact Cells.nil _ _, by rw [dig_zero]; simp, by omega⟩, by rw [HR.out]; exact HVA.out.below hb1 (Nat.le_refl _)⟩, hb1⟩
 · have hcmp := compare_any aa ab m n ca cb w ha hb (by omega) (by omega)
   have hge : 0 <= cmpN m n := by unfold cmpN; rw [if_neg hlt]; split <;> omega
   have hdn := dig_one hn0 hn
   have hc0 : Cells w ab [.int .u64 (n : Nat)] := by rw [hdn] at hb; exact hb
   obtain ⟨b, off, rfl⟩ := hc0.addr (by simp)
   rw [hdn] at hcmp
   rw [hdn]
   simp only [B] at hn
   have hsh := fun (w1 : World) (h : Cells w1 aa (dgs (dig m))) => short_any aa (dig m) ca n w1 h (sm_dig m) (by omega) (by omega) (by omega)
   rw [val_dig] at hsh
   have hmod : m % n < n := Nat.mod_lt _ (by omega)
   have hnat := fun (w1 : World) => natural_any (m % n) w1 (by omega)
   generalize cmpN m n = cm at *
   have HC := Lib.hid hcmp; have HSH := Lib.hid hsh; have HN := Lib.hid hnat; have HA := Lib.hid ha; have HC0 := Lib.hid hc0
   clear hcmp hsh hnat ha hb hc0 hdn
   go_enter Tryz.func153, Tryz.ntmps153
   go_wp2_with fail
   refine HC.out.mono ?_
   rintro e w1 ⟨rfl, hb1⟩
   have hcell : w1.cell? ⟨b, off, none⟩ = some (.int .u64 (n : Nat)) := (HC0.out.below hb1 (Nat.le_refl _)).at (j := 0) rfl
   go_wp2_with fail
   refine (HSH.out w1 (HA.out.below hb1 (Nat.le_refl _))).mono ?_
   rintro e w2 ⟨⟨a, c, rfl, hq, hqc, hqc2⟩, hb2⟩
   have HQ := Lib.hid hq; clear hq
   go_wp2_with fail
   refine (HN.out w2).mono ?_
   rintro e w3 ⟨⟨a3, c3, rfl, hr, hrc, hrc2⟩, hb3⟩
   have HR := Lib.hid hr; clear hr
   go_wp2
   go_ret2
   exact ⟨⟨_, _, rfl, (NatV.below ⟨_, _, rfl, HQ.out, hqc, by omega⟩ hb3 (Nat.le_refl _)), ⟨_, _, rfl, HR.out, hrc, hrc2⟩⟩, (hb1.trans (hb2.mono hb1.size)).trans (hb3.mono (Nat.le_trans hb1.size hb2.size))⟩
end Go.Proofs.YtdpjdifoonfcdaaGreatDoor

namespace Go.Proofs.YtdpjdifoonfcdaaGreatDoor
theorem val_zeros (n : Nat) : val (List.replicate n 0) = 0 := by
 rw [val_eq_zero]; intro d hd; exact (List.mem_replicate.1 hd).2
theorem sm_append {a b : List Nat} (ha : Sm a) (hb : Sm b) : Sm (a ++ b) := by
 intro d hd
 rcases List.mem_append.1 hd with h | h
 · exact ha d h
 · exact hb d h
theorem sm_take {a : List Nat} (ha : Sm a) (n : Nat) : Sm (a.take n) := fun d hd => ha d (List.mem_of_mem_take hd)
theorem sm_drop {a : List Nat} (ha : Sm a) (n : Nat) : Sm (a.drop n) := fun d hd => ha d (List.mem_of_mem_drop hd)
theorem sm_one {d : Nat} (h : d < B) : Sm [d] := by intro x hx; simp at hx; rw [hx]; exact h
theorem sm_zeros (n : Nat) : Sm (List.replicate n 0) := by intro d hd; rw [(List.mem_replicate.1 hd).2]; exact B_pos
theorem val_take_succ {l : List Nat} {k d : Nat} (h : l[k]? = some d) : val (l.take (k + 1)) = val (l.take k) + B ^ k * d := by
 have hk : k < l.length := (List.getElem?_eq_some_iff.1 h).1
 rw [List.take_add_one, h]
 show val (l.take k ++ [d]) = _
 rw [val_snoc, List.length_take, Nat.min_eq_left (by omega)]
theorem val_take_drop (l : List Nat) (k : Nat) (hk : k <= l.length) : val l = val (l.take k) + B ^ k * val (l.drop k) := by
 have h := val_append (l.take k) (l.drop k)
 rw [List.take_append_drop, List.length_take, Nat.min_eq_left hk] at h
 exact h
theorem carry_step {M C X k : Nat} (c z : Nat) (h : M + C * B ^ k = X) (hc : c = C + z) : (M + B ^ k * (c % B)) + (c / B) * B ^ (k + 1) = X + B ^ k * z := by
 have h1 := Nat.mod_add_div c B
 have h2 : B ^ k * (c % B) + (c / B) * B ^ (k + 1) = B ^ k * c := by
  conv => rhs; rw [<- h1]
  rw [Nat.mul_add, Nat.pow_succ, Nat.mul_comm (B ^ k) B, Nat.mul_comm (c / B), Nat.mul_assoc B, <- Nat.mul_assoc (B ^ k) B, Nat.mul_comm (B ^ k) B, Nat.mul_assoc B]
 have h3 : B ^ k * c = C * B ^ k + B ^ k * z := by rw [hc, Nat.mul_add, Nat.mul_comm C]
 omega
theorem borrow_step {M Y U C k : Nat} (t z u low c d C' : Nat) (h : M + Y = U + C * B ^ k) (ht : t = C + z) (hl : low = t % B) (hc : c = t / B) (hd : low + d = u /\ C' = c ∨ low + d = u + B /\ C' = c + 1) :
 (M + B ^ k * d) + (Y + B ^ k * z) = (U + B ^ k * u) + C' * B ^ (k + 1) := by
 have h1 := Nat.mod_add_div t B
 rw [<- hl, <- hc] at h1
 have h2 : C + z + d = u + B * C' := by
  rcases hd with ⟨h3, h4⟩ | ⟨h3, h4⟩
  · rw [h4]; omega
  · rw [h4, Nat.mul_add]; omega
 have h3 : B ^ k * (C + z + d) = B ^ k * (u + B * C') := by rw [h2]
 have h4 : C' * B ^ (k + 1) = B ^ k * (B * C') := by rw [Nat.pow_succ, Nat.mul_comm C', Nat.mul_assoc]
 rw [Nat.mul_add, Nat.mul_add, Nat.mul_add] at h3
 rw [h4]
 have h5 : C * B ^ k = B ^ k * C := Nat.mul_comm _ _
 omega
theorem scale_half {t : Nat} (h1 : 1 <= t) (h2 : t < B) : 500000000 <= B / (t + 1) * t := by
 have hB : B = 1000000000 := rfl
 by_cases h : 500000000 <= t
 · have h3 : 1 <= B / (t + 1) := by rw [Nat.le_div_iff_mul_le (by omega)]; omega
   calc 500000000 <= t := h
    _ = 1 * t := (Nat.one_mul t).symm
    _ <= B / (t + 1) * t := Nat.mul_le_mul_right t h3
 · have hs : B < (B / (t + 1) + 1) * (t + 1) := by
    have := Nat.lt_div_mul_add (a := B) (b := t + 1) (by omega)
    rw [Nat.add_mul]; omega
   generalize B / (t + 1) = s at *
   -- B + 1 <= (s + 1) * (t + 1), so s * t >= B - s - t; and s * t grows
   have e : (s + 1) * (t + 1) = s * t + s + t + 1 := by rw [Nat.add_mul, Nat.mul_add, Nat.mul_add]; omega
   rw [e] at hs
   rcases Nat.eq_or_lt_of_le h1 with ht | ht
   · subst ht; rw [Nat.mul_one] at *; omega
   · apply Classical.byContradiction
     intro hlt
     have hst : s * t < 500000000 := by omega
     -- s <= s * t / 2
     have h5 : s * 2 <= s * t := Nat.mul_le_mul_left s ht
     have h6 : 2 * t <= s * t ∨ s <= 1 := by
      rcases Nat.lt_or_ge s 2 with h | h
      · exact .inr (by omega)
      · exact .inl (Nat.mul_le_mul_right t h)
     omega
end Go.Proofs.YtdpjdifoonfcdaaGreatDoor

namespace Go.Proofs.YtdpjdifoonfcdaaGreatDoor
theorem guess_dec {v1 v2 u0 u1 u2 P V U q r : Nat} (hV1 : (v1 * B + v2) * P <= V) (hU2 : U < (u0 * B * B + u1 * B + u2 + 1) * P) (hUB : U < B * V) (hqr : q * v1 + r = u0 * B + u1)
 (ht : B <= q ∨ r * B + u2 < q * v2) : U < q * V := by
 rcases ht with h | h
 · exact Nat.lt_of_lt_of_le hUB (Nat.mul_le_mul_right V h)
 · have h1 : u0 * B * B + u1 * B + u2 + 1 <= q * (v1 * B + v2) := by
    have e1 : q * (v1 * B + v2) = (q * v1) * B + q * v2 := by rw [Nat.mul_add, Nat.mul_assoc]
    have e2 : (u0 * B + u1) * B = u0 * B * B + u1 * B := Nat.add_mul _ _ _
    have e3 : (q * v1 + r) * B = (q * v1) * B + r * B := Nat.add_mul _ _ _
    rw [hqr, e2] at e3
    omega
   calc U < (u0 * B * B + u1 * B + u2 + 1) * P := hU2
    _ <= (q * (v1 * B + v2)) * P := Nat.mul_le_mul_right P h1
    _ = q * ((v1 * B + v2) * P) := Nat.mul_assoc _ _ _
    _ <= q * V := Nat.mul_le_mul_left q hV1
theorem guess_end {v1 v2 u0 u1 u2 P V U q r : Nat} (hV1 : (v1 * B + v2) * P <= V) (hV2 : V < (v1 * B + v2 + 1) * P) (hU1 : (u0 * B * B + u1 * B + u2) * P <= U) (hv : 1 <= v1) (hqr : q * v1 + r = u0 * B + u1)
 (hq : q <= B) (ht : q * v2 <= r * B + u2) : q * V < U + V := by
 have hP : 0 < P := by
  rcases Nat.eq_zero_or_pos P with h | h
  · rw [h] at hV2; simp at hV2
  · exact h
 have hVpos : B * P <= V := by
  calc B * P <= (v1 * B + v2) * P := Nat.mul_le_mul_right P (by have := Nat.mul_le_mul_right B hv; omega)
   _ <= V := hV1
 have hBpos : 0 < B * P := Nat.mul_pos B_pos hP
 rcases Nat.eq_zero_or_pos q with h0 | h0
 · subst h0; omega
 · have h1 : q * (v1 * B + v2) <= u0 * B * B + u1 * B + u2 := by
    have e1 : q * (v1 * B + v2) = (q * v1) * B + q * v2 := by rw [Nat.mul_add, Nat.mul_assoc]
    have e2 : (u0 * B + u1) * B = u0 * B * B + u1 * B := Nat.add_mul _ _ _
    have e3 : (q * v1 + r) * B = (q * v1) * B + r * B := Nat.add_mul _ _ _
    rw [hqr, e2] at e3
    omega
   have h2 : q * V < q * ((v1 * B + v2 + 1) * P) := Nat.mul_lt_mul_of_pos_left hV2 h0
   have h3 : q * ((v1 * B + v2 + 1) * P) = (q * (v1 * B + v2)) * P + q * P := by
    rw [<- Nat.mul_assoc, Nat.mul_add, Nat.mul_one, Nat.add_mul]
   have h4 : (q * (v1 * B + v2)) * P <= (u0 * B * B + u1 * B + u2) * P := Nat.mul_le_mul_right P h1
   have h5 : q * P <= B * P := Nat.mul_le_mul_right P hq
   omega
theorem break_end {v2 u2 q r : Nat} (hq : q <= B) (hv : v2 < B) (hr : B <= r) : q * v2 <= r * B + u2 := by
 have h1 : q * v2 <= B * B := Nat.mul_le_mul hq (Nat.le_of_lt hv)
 have h2 : B * B <= r * B := Nat.mul_le_mul_right B hr
 omega
theorem guess_first {v1 v2 u0 u1 P V H : Nat} (hV2 : V < (v1 * B + v2 + 1) * P) (hv1 : 500000000 <= v1) (hv2 : v2 < B) (hu1 : u1 < B)
 (hH : (u0 * B + u1) * P <= H) (hHV : H < V) : u0 <= v1 /\ (u0 * B + u1) / v1 <= B + 1 := by
 have hP : 0 < P := by
  rcases Nat.eq_zero_or_pos P with h | h
  · rw [h] at hV2; simp at hV2
  · exact h
 have h1 : u0 * B + u1 < v1 * B + v2 + 1 := by
  have h2 : (u0 * B + u1) * P < (v1 * B + v2 + 1) * P := by omega
  exact Nat.lt_of_mul_lt_mul_right h2
 have hB : B = 1000000000 := rfl
 have h3 : u0 <= v1 := by
  apply Classical.byContradiction
  intro h
  have := Nat.mul_le_mul_right B (show v1 + 1 <= u0 by omega)
  rw [Nat.add_mul] at this; omega
 refine ⟨h3, ?_⟩
 have h4 : u0 * B + u1 < (B + 2) * v1 := by
  have := Nat.mul_le_mul_right B h3
  rw [Nat.add_mul, Nat.mul_comm B v1]; omega
 have := (Nat.div_lt_iff_lt_mul (show 0 < v1 by omega)).2 h4
 omega
end Go.Proofs.YtdpjdifoonfcdaaGreatDoor

namespace Go.Proofs.YtdpjdifoonfcdaaGreatDoor
open Go.RowKit
theorem own_short {w : World} {b g : Nat} {e : TypeId} {N cap n : Nat} {xs : List Value} (h : w.ownsRow b e 1 (.slice (some ⟨g, 0, none⟩) N cap) N xs) (hn : n <= N) : w.ownsRow b e 1 (.slice (some ⟨g, 0, none⟩) n cap) n (xs.take n) := by
 obtain ⟨h0, h1⟩ := h
 refine ⟨by rw [List.length_take]; omega, ?_⟩
 rcases h1 with ⟨h2, _⟩ | ⟨g', cap', cur, h2, hb, hg, hc, hm, hs, ht⟩
 · simp at h2
 · simp only [Value.slice.injEq, Option.some.injEq, Addr.mk.injEq, and_true, true_and] at h2
   obtain ⟨rfl, rfl⟩ := h2
   refine .inr ⟨g, cap, cur, rfl, hb, hg, by omega, hm, hs, ?_⟩
   rw [Nat.mul_one] at *
   rw [<- ht, List.take_take, Nat.min_eq_left hn]
theorem dig_take : ∀ (n : Nat) (l : List Nat), l.length = n -> Sm l -> dig (val l) = l.take (dig (val l)).length := by
 intro n
 induction n with
 | zero => intro l hl _; rw [List.length_eq_zero_iff.1 hl]; simp [val, dig_zero]
 | succ n ih =>
   intro l hl hs
   by_cases h : l.getLast? = some 0
   · obtain ⟨l', rfl⟩ : ∃ l', l = l' ++ [0] := by
      rcases List.eq_nil_or_concat l with rfl | ⟨l', b, rfl⟩
      · simp at hl
      · simp at h; exact ⟨l', by simp [h]⟩
     have hs' : Sm l' := fun d hd => hs d (by simp [hd])
     have hv : val (l' ++ [0]) = val l' := by rw [val_snoc]; simp
     have h1 := ih l' (by simpa using hl) hs'
     have h2 := dig_len_val hs'
     rw [hv, List.take_append_of_le_length h2]; exact h1
   · rw [dig_val hs h, List.take_length]
theorem set_mid (A mid R : List Nat) (o d p : Nat) (hp : A.length + mid.length = p) : (dgs (A ++ mid ++ (o :: R))).set p (.int .u64 (d : Nat)) = dgs (A ++ (mid ++ [d]) ++ R) := by
 subst hp
 have h : (A ++ mid).length = A.length + mid.length := List.length_append
 rw [dgs_append, List.set_append_right _ _ (by rw [dgs_length, h]; omega), dgs_length, h, Nat.sub_self, <- List.append_assoc, dgs_append, dgs_append]
 simp [dgs]
theorem get_mid (A mid R : List Nat) (o p : Nat) (hp : A.length + mid.length = p) : (dgs (A ++ mid ++ (o :: R)))[p]? = some (.int .u64 (o : Nat)) := by
 subst hp
 have h : (A ++ mid).length = A.length + mid.length := List.length_append
 rw [dgs_append, List.getElem?_append_right (by rw [dgs_length, h]; omega), dgs_length, h, Nat.sub_self]
 simp [dgs]
theorem drop_get {α : Type} {l : List α} {i : Nat} {x : α} (h : l[i]? = some x) : l.drop i = x :: l.drop (i + 1) := by
 obtain ⟨h1, h2⟩ := List.getElem?_eq_some_iff.1 h
 rw [List.drop_eq_getElem_cons h1, h2]
theorem mul_dig {x y : Nat} (hx : x <= 999999999) (hy : y <= 999999999) : x * y <= 999999998000000001 := by
 have := Nat.mul_le_mul hx hy; omega
theorem times_val {lo l1 mid l2 : List Nat} {k x C : Nat} (hx : l1[k]? = some x) (hl : lo.length = k + l2.length) (hv : val lo = val (l1.take k) * val l2) (hm : mid.length = l2.length)
 (h : val mid + C * B ^ l2.length = val ((lo.drop k).take l2.length) + x * val (l2.take l2.length)) : val (lo.take k ++ mid ++ [C]) = val (l1.take (k + 1)) * val l2 := by
 have h1 := val_take_drop lo k (by omega)
 rw [List.take_length, List.take_of_length_le (by rw [List.length_drop]; omega)] at h
 rw [val_snoc, val_append, List.length_append, List.length_take, Nat.min_eq_left (by omega), hm, val_take_succ hx, Nat.add_mul, <- hv, h1]
 have h2 : B ^ k * (val mid + C * B ^ l2.length) = B ^ k * (val (lo.drop k) + x * val l2) := by rw [h]
 rw [Nat.mul_add, Nat.mul_add] at h2
 have e1 : B ^ (k + l2.length) * C = B ^ k * (C * B ^ l2.length) := by rw [Nat.pow_add, Nat.mul_assoc, Nat.mul_comm C]
 have e2 : B ^ k * x * val l2 = B ^ k * (x * val l2) := Nat.mul_assoc _ _ _
 omega
set_option maxRecDepth 100000 in
set_option maxHeartbeats 2000000 in
theorem times_lists (aa ab : Option Addr) (l1 l2 : List Nat) (ca cb : Nat) (w : World) (ha : Cells w aa (dgs l1)) (hb : Cells w ab (dgs l2)) (h1 : Sm l1) (h2 : Sm l2) (hl : l1.length + l2.length <= 17592186044416) :
 Calls Tryz.prog 221 #[.slice aa l1.length ca, .slice ab l2.length cb] w fun e w' => (∃ v, e = .returned v /\ w'.ownsRow w.heap.size 208 1 v (dig (val l1 * val l2)).length (dgs (dig (val l1 * val l2)))) /\ Below w.heap.size w w' := by
 obtain ⟨i0, hi, hz0, hz1, hz2⟩ := info_parts Tryz.infoU64
 have HA := Lib.hid ha; have HB := Lib.hid hb; have H1 := Lib.hid h1; have H2 := Lib.hid h2
 clear ha hb h1 h2
 go_enter Tryz.func221, Tryz.ntmps221
 go_wp2_with (at_make; refine wpList_make_full _ rfl _ _ 144 rfl w.heap.size 208 i0 (.int .u64 0) 1 Tryz.underlying144 hi hz0 hz1 .i64 .i64 _ _ (l1.length + l2.length) rfl rfl (by omega) (by omega) (by rw [hz2]; omega) (by unfold maxLen; omega) (Nat.le_refl _) ?_; intro w1 hown1 hgrow1)
 rw [zeros_dgs] at hown1
 have hb1 := (Below.refl w.heap.size w).grown hgrow1 (Nat.le_refl _) (fun _ h => by cases h)
 clear hgrow1
 have HO1 := Lib.hid hown1; clear hown1
 go_wp2
 go_loopw [20] (fun i wr => ∃ (k : Nat) (lo : List Nat), k <= l1.length /\ i = .int .i64 k /\ lo.length = k + l2.length /\ Sm lo /\ val lo = val (l1.take k) * val l2 /\ wr.ownsRow w.heap.size 208 1 (.slice (some ⟨w.heap.size, 0, none⟩) (l1.length + l2.length) (l1.length + l2.length)) (l1.length + l2.length) (dgs (lo ++ List.replicate (l1.length - k) 0)) /\ Below w.heap.size w wr) (fun i _ => l1.length - (intOf i).toNat)
 case atStart => exact ⟨0, List.replicate l2.length 0, Nat.zero_le _, rfl, by simp, sm_zeros _, by rw [val_zeros]; simp [val], by rw [List.replicate_append_replicate, Nat.sub_zero, Nat.add_comm l2.length]; exact HO1.out, hb1⟩
 case round =>
  clear hb1
  obtain ⟨k, lo, hk, rfl, hlo, hsm, hval, hown, hbr⟩ := hrel
  obtain ⟨wo, rfl⟩ : ∃ wo : World, wo = wr := ⟨_, rfl⟩
  have HLO := Lib.hid hlo; have HSM := Lib.hid hsm; have HVL := Lib.hid hval; have HO := Lib.hid hown
  clear hlo hsm hval hown
  by_cases hlt : k < l1.length
  · obtain ⟨x, hx⟩ := get_of_lt hlt
    have hxB := sm_get H1.out hx
    obtain ⟨b1, o1, rfl⟩ := HA.out.addr (dgs_ne (by omega))
    have c1 := cell_keep (HA.out.dgs hx) hbr (Nat.le_refl _)
    have i1 : (k : Int) < l1.length := by omega
    have HX := Lib.hid hx; clear hx
    go_wp2
    clear c1
    go_loopw [8, 27] (fun c j wi => ∃ (q C : Nat) (mid : List Nat), q <= l2.length /\ j = .int .i64 q /\ c = .int .u64 (C : Nat) /\ C <= 999999999 /\ mid.length = q /\ Sm mid /\ val mid + C * B ^ q = val ((lo.drop k).take q) + x * val (l2.take q) /\ wi.ownsRow w.heap.size 208 1 (.slice (some ⟨w.heap.size, 0, none⟩) (l1.length + l2.length) (l1.length + l2.length)) (l1.length + l2.length) (dgs (lo.take k ++ mid ++ (lo.drop (k + q) ++ List.replicate (l1.length - k) 0))) /\ Below w.heap.size w wi) (fun _ j _ => l2.length - (intOf j).toNat)
    case atStart =>
     refine ⟨0, 0, [], Nat.zero_le _, rfl, rfl, by omega, rfl, by simp [Sm], by simp [val], ?_, hbr⟩
     rw [Nat.add_zero, List.append_nil, <- List.append_assoc, List.take_append_drop]; exact HO.out
    case round =>
     clear hbr HO
     obtain ⟨q, C, mid, hq, rfl, rfl, hC, hml, hms, hmv, hown, hbi⟩ := hrel
     have HML := Lib.hid hml; have HMS := Lib.hid hms; have HMV := Lib.hid hmv
     clear hml hms hmv
     have hsz := hbi.size
     by_cases hlt2 : q < l2.length
     · obtain ⟨y, hy⟩ := get_of_lt hlt2
       have hyB := sm_get H2.out hy
       obtain ⟨b2, o2, rfl⟩ := HB.out.addr (dgs_ne (by omega))
       have c2 := cell_keep (HB.out.dgs hy) hbi (Nat.le_refl _)
       obtain ⟨o, ho⟩ := get_of_lt (show k + q < lo.length by have := HLO.out; omega)
       have hoB := sm_get HSM.out ho
       have hdr := drop_get ho
       have hlk : (lo.take k).length + mid.length = k + q := by rw [List.length_take, HML.out, Nat.min_eq_left (by have := HLO.out; omega)]
       rw [hdr, List.cons_append] at hown
       have c3 := hown.cellAt (k + q) (by omega)
       rw [get_mid _ _ _ _ _ hlk] at c3
       have c4 := hown.frozenAt (k + q)
       have hsto := (hown.stored (k + q) (.int .u64 ((C + (o + x * y)) % B : Nat))).1
       rw [set_mid _ _ _ _ _ _ hlk] at hsto
       have hb2 : Below w.heap.size w (wr.setCell ⟨w.heap.size, k + q, none⟩ (.int .u64 ((C + (o + x * y)) % B : Nat))) := hbi.setCell (Nat.le_refl _) _
       have hxy := mul_dig hxB hyB
       have hod : (lo.drop k)[q]? = some o := by rw [List.getElem?_drop]; exact ho
       have hcs := carry_step (C + (o + x * y)) (o + x * y) HMV.out rfl
       have hnv : val (mid ++ [(C + (o + x * y)) % B]) + (C + (o + x * y)) / B * B ^ (q + 1) = val ((lo.drop k).take (q + 1)) + x * val (l2.take (q + 1)) := by
        rw [val_snoc, HML.out, hcs, val_take_succ hod, val_take_succ hy, Nat.mul_add, Nat.mul_add, Nat.mul_left_comm x (B ^ q) y]; omega
       have hnc : (C + (o + x * y)) / B <= 999999999 := by
        have : (C + (o + x * y)) / B < B := Nat.div_lt_of_lt_mul (by simp only [B]; omega)
        simp only [B] at this ⊢; omega
       have HNV := Lib.hid hnv; have HST := Lib.hid hsto; have HB2 := Lib.hid hb2; have HNC := Lib.hid hnc
       have e1 : (((C : Int) + ((o : Int) + (x : Int) * y)) % 1000000000) = (((C + (o + x * y)) % B : Nat) : Int) := by simp [B]
       have e2 : (((C : Int) + ((o : Int) + (x : Int) * y)) / 1000000000) = (((C + (o + x * y)) / B : Nat) : Int) := by simp [B]
       have E1 := Lib.hid e1; have E2 := Lib.hid e2
       have p0 : (0 : Int) <= (x : Int) * y := Int.mul_nonneg (by omega) (by omega)
       have p1 : (x : Int) * y <= 999999998000000001 := by
        have : ((x * y : Nat) : Int) <= 999999998000000001 := by omega
        simpa using this
       have j1 : (q : Int) < l2.length := by omega
       have j2 : (0 : Int) <= (k : Int) + q := by omega
       have j3 : (k : Int) + q < ((l1.length + l2.length : Nat) : Int) := by omega
       have j4 : ((k : Int) + q).toNat = k + q := by omega
       clear hdr hy ho hod hcs hnv hsto hb2 hnc e1 e2 hown hxy hlk
       go_wp2
       clear c2 c3 c4 j4
       go_roundw
       case rel => exact ⟨q + 1, _, mid ++ [(C + (o + x * y)) % B], by omega, by go_num, by rw [E2.out], HNC.out, by rw [List.length_append, HML.out]; rfl, sm_append HMS.out (sm_one (Nat.mod_lt _ B_pos)), HNV.out, by rw [E1.out]; exact HST.out, by rw [E1.out]; exact HB2.out⟩
       case measure => simp [intOf]; omega
     · obtain rfl : q = l2.length := by omega
       have hdn : lo.drop (k + l2.length) = [] := List.drop_eq_nil_of_le (by have := HLO.out; omega)
       rw [hdn, List.nil_append] at hown
       have hrep : List.replicate (l1.length - k) 0 = 0 :: List.replicate (l1.length - (k + 1)) 0 := by rw [show l1.length - k = (l1.length - (k + 1)) + 1 from by omega, List.replicate_succ]
       rw [hrep] at hown
       have hlk : (lo.take k).length + mid.length = k + l2.length := by rw [List.length_take, HML.out, Nat.min_eq_left (by have := HLO.out; omega)]
       have hnv := times_val HX.out HLO.out HVL.out HML.out HMV.out
       have hnl : (lo.take k ++ mid ++ [C]).length = k + 1 + l2.length := by rw [List.length_append, List.length_append, hlk, List.length_singleton]; omega
       have hns : Sm (lo.take k ++ mid ++ [C]) := sm_append (sm_append (sm_take HSM.out _) HMS.out) (sm_one (by simp only [B]; omega))
       have HNV := Lib.hid hnv; have HNL := Lib.hid hnl; have HNS := Lib.hid hns
       have j2 : (0 : Int) <= (k : Int) + l2.length := by omega
       have j3 : (k : Int) + l2.length < ((l1.length + l2.length : Nat) : Int) := by omega
       have j4 : ((k : Int) + l2.length).toNat = k + l2.length := by omega
       by_cases hC0 : C = 0
       · subst hC0
         have ho : wr.ownsRow w.heap.size 208 1 (.slice (some ⟨w.heap.size, 0, none⟩) (l1.length + l2.length) (l1.length + l2.length)) (l1.length + l2.length) (dgs (lo.take k ++ mid ++ [0] ++ List.replicate (l1.length - (k + 1)) 0)) := by
          rw [List.append_assoc _ [0]]; exact hown
         have HOF := Lib.hid ho
         clear hown hnv hnl hns hdn hrep hlk ho
         go_wp2
         refine wp_loop_rounds 1 ?_
         rw [rounds_succ]
         go_wp2
         go_roundw
         case rel => exact ⟨k + 1, _, by omega, by go_num, HNL.out, HNS.out, HNV.out, HOF.out, hbi⟩
         case measure => simp [intOf]; omega
       · have c3 := hown.cellAt (k + l2.length) (by omega)
         rw [get_mid _ _ _ _ _ hlk] at c3
         have c4 := hown.frozenAt (k + l2.length)
         have hsto := (hown.stored (k + l2.length) (.int .u64 (C : Nat))).1
         rw [set_mid _ _ _ _ _ _ hlk, <- List.append_assoc] at hsto
         have hb2 : Below w.heap.size w (wr.setCell ⟨w.heap.size, k + l2.length, none⟩ (.int .u64 (C : Nat))) := hbi.setCell (Nat.le_refl _) _
         have HST := Lib.hid hsto; have HB2 := Lib.hid hb2
         have e1 : ((C : Int) % 1000000000) = (C : Int) := by omega
         have e2 : ((C : Int) / 1000000000) = 0 := by omega
         have hCp : (0 : Int) < C := by omega
         clear hown hnv hnl hns hdn hrep hlk hsto hb2
         go_wp2
         refine wp_loop_rounds 2 ?_
         rw [rounds_succ]
         go_wp2
         rw [rounds_succ]
         go_wp2
         clear e1 e2 c3 c4 j4
         go_roundw
         case rel => exact ⟨k + 1, _, by omega, by go_num, HNL.out, HNS.out, HNV.out, HST.out, HB2.out⟩
         case measure => simp [intOf]; omega
  · obtain rfl : k = l1.length := by omega
    have ho := HO.out
    rw [Nat.sub_self, List.replicate_zero, List.append_nil] at ho
    have hv := HVL.out
    rw [List.take_length] at hv
    have hll := HLO.out
    obtain ⟨g, c, hge, hcs⟩ := own_cells ho
    simp only [Value.slice.injEq, true_and] at hge
    obtain ⟨rfl, rfl⟩ := hge
    have hle := lean_any (some ⟨w.heap.size, 0, none⟩) lo (l1.length + l2.length) wo hcs HSM.out (by omega) (by omega) (by omega)
    have hdl : (dig (val lo)).length <= lo.length := dig_len_val HSM.out
    rw [hv] at hle hdl
    rw [hll] at hle hdl
    have hdt := dig_take _ lo rfl HSM.out
    rw [hv] at hdt
    have hsh := own_short ho hdl
    rw [show (dgs lo).take (dig (val l1 * val l2)).length = dgs (dig (val l1 * val l2)) from by rw [dgs, <- List.map_take, <- hdt]; rfl] at hsh
    have HLE := Lib.hid hle; have HF := Lib.hid hsh
    clear hle hcs ho hv hll hdl hsh hdt
    go_wp2_with fail
    refine HLE.out.mono ?_
    rintro e w2 ⟨⟨rfl, _⟩, rfl⟩
    go_wp2
    go_ret
    exact ⟨⟨_, rfl, HF.out⟩, hbr⟩
end Go.Proofs.YtdpjdifoonfcdaaGreatDoor

namespace Go.Proofs.YtdpjdifoonfcdaaGreatDoor
open Go.RowKit
theorem Cells.grown {w w' : World} {row : Option Nat} {ao : Option Addr} {cs : List Value} (h : Cells w ao cs) (hg : w.grownBy w' row) (hne : ∀ b off, ao = some ⟨b, off, none⟩ -> cs ≠ [] -> some b ≠ row) : Cells w' ao cs := by
 rcases h with h | ⟨b, off, rfl, h2⟩
 · exact .inl h
 · refine .inr ⟨b, off, rfl, fun j u hu => ?_⟩
   have h3 := h2 j u hu
   have h4 := World.block_lt_of_cell? w _ h3
   rw [hg.cell_far _ h4 (hne b off rfl (by rintro rfl; simp at hu))]
   exact h3
theorem grown_refl (w : World) (row : Option Nat) : w.grownBy w row := ⟨rfl, rfl, rfl, Nat.le_refl _, fun _ _ _ => rfl⟩
end Go.Proofs.YtdpjdifoonfcdaaGreatDoor

namespace Go.Proofs.YtdpjdifoonfcdaaGreatDoor
open Go.RowKit
def loopsIn : Code -> List Code
 | .loop c => c :: loopsIn c
 | .seq a b => loopsIn a ++ loopsIn b
 | .block _ c => loopsIn c
 | .scope c => loopsIn c
 | .cond _ a b => loopsIn a ++ loopsIn b
 | _ => []
noncomputable def overLoop (k : Nat) : Code := (loopsIn (Tryz.f153.body.getD .skip)).getD k .skip
def Drawn (w w' : World) : Prop := ∃ d, w' = w.drewN d
theorem borrow_bd {lo vt us : List Nat} {q C k : Nat} (hs : Sm lo) (hl : lo.length = k) (hv : Sm vt) (hvl : vt.length = k) (h : val lo + q * val vt = val us + C * B ^ k) : C <= q := by
 have h1 := val_lt hs
 have h2 := val_lt hv
 rw [hl] at h1; rw [hvl] at h2
 apply Classical.byContradiction
 intro hc
 have h3 : (q + 1) * B ^ k <= C * B ^ k := Nat.mul_le_mul_right _ (by omega)
 have h4 : q * val vt <= q * B ^ k := Nat.mul_le_mul_left _ (Nat.le_of_lt h2)
 rw [Nat.add_mul, Nat.one_mul] at h3
 omega
set_option maxRecDepth 1000000 in
def SubX (bu lu cu bv nv cv i q C : Nat) (s0 s1 s2 s3 s4 s5 s6 s7 s8 s11 s12 s14 s16 s21 s22 s23 s24 s25 s26 s27 s28 s29 s30 s31 s32 s33 s34 s35 s36 s37 s38 s39 s40 s41 s42 s43 s44 s45 s46 s47 s48 s49 s50 s51 s52 s53 s54 s55 s56 s57 s58 s59 s60 s61 s62 s63 s64 s65 s66 s67 s68 s69 s70 s71 s72 s73 s74 s75 s76 s77 s78 s79 s80 s81 s82 s83 s84 s85 s86 s87 s88 s89 s90 s91 s92 s93 s94 s95 s96 s97 s98 s99 s100 s101 s102 s103 s104 s105 s106 s107 s108 s109 s110 s111 s112 s113 s114 s115 s116 s117 s118 s119 s120 s121 s122 s123 s124 s125 s126 s127 s128 s129 s130 s131 s132 s133 s134 s135 s136 s137 s138 s139 s140 s141 s142 s143 s144 s145 s190 s191 s192 s193 s194 s195 s196 s197 s198 s199 s200 s201 s202 s203 s204 s205 s206 s207 s208 s209 s210 s211 s212 s213 s214 s215 s216 s217 s218 s219 s220 s221 s222 s223 s224 s225 s226 s227 s228 s229 s230 s231 s232 s233 s234 s235 s236 s237 s238 s239 s240 s241 s242 s243 s244 s245 s246 s247 s248 s249 s250 s251 s252 s253 s254 s255 s256 s257 s258 s259 s260 s261 s262 s263 s264 s265 s266 s267 s268 s269 s270 s271 s272 s273 s274 s275 s276 s277 s278 s279 s280 s281 s282 : Value) (a : Act) : Prop := ∃ v18 v19 v20 v148 v149 v150 v151 v152 v153 v154 v155 v156 v157 v158 v159 v160 v161 v162 v163 v164 v165 v166 v167 v168 v169 v170 v171 v172 v173 v174 v175 v176 v177 v178 v179 v180 v181 v182 v183 v184 v185 v186 v187 v188 v189 : Value, a = ⟨#[s0, s1, s2, s3, s4, s5, s6, s7, s8, .slice (some ⟨bu, 0, none⟩) lu cu, .slice (some ⟨bv, 0, none⟩) nv cv, s11, s12, .int .i64 (i : Nat), s14, .int .u64 (q : Nat), s16, .int .u64 (C : Nat), v18, v19, v20, s21, s22, s23, s24, s25, s26, s27, s28, s29, s30, s31, s32, s33, s34, s35, s36, s37, s38, s39, s40, s41, s42, s43, s44, s45, s46, s47, s48, s49, s50, s51, s52, s53, s54, s55, s56, s57, s58, s59, s60, s61, s62, s63, s64, s65, s66, s67, s68, s69, s70, s71, s72, s73, s74, s75, s76, s77, s78, s79, s80, s81, s82, s83, s84, s85, s86, s87, s88, s89, s90, s91, s92, s93, s94, s95, s96, s97, s98, s99, s100, s101, s102, s103, s104, s105, s106, s107, s108, s109, s110, s111, s112, s113, s114, s115, s116, s117, s118, s119, s120, s121, s122, s123, s124, s125, s126, s127, s128, s129, s130, s131, s132, s133, s134, s135, s136, s137, s138, s139, s140, s141, s142, s143, s144, s145, .slice (some ⟨bv, 0, none⟩) nv cv, .int .i64 (nv : Nat), v148, v149, v150, v151, v152, v153, v154, v155, v156, v157, v158, v159, v160, v161, v162, v163, v164, v165, v166, v167, v168, v169, v170, v171, v172, v173, v174, v175, v176, v177, v178, v179, v180, v181, v182, v183, v184, v185, v186, v187, v188, v189, s190, s191, s192, s193, s194, s195, s196, s197, s198, s199, s200, s201, s202, s203, s204, s205, s206, s207, s208, s209, s210, s211, s212, s213, s214, s215, s216, s217, s218, s219, s220, s221, s222, s223, s224, s225, s226, s227, s228, s229, s230, s231, s232, s233, s234, s235, s236, s237, s238, s239, s240, s241, s242, s243, s244, s245, s246, s247, s248, s249, s250, s251, s252, s253, s254, s255, s256, s257, s258, s259, s260, s261, s262, s263, s264, s265, s266, s267, s268, s269, s270, s271, s272, s273, s274, s275, s276, s277, s278, s279, s280, s281, s282], []⟩
set_option maxRecDepth 1000000 in
set_option maxHeartbeats 20000000 in
theorem over_sub (ud vd : List Nat) (B0 bu lu cu bv nv cv i q : Nat) (w : World) (Q0 : Exit -> Act -> World -> Prop) (s0 s1 s2 s3 s4 s5 s6 s7 s8 s11 s12 s14 s16 s18 s19 s20 s21 s22 s23 s24 s25 s26 s27 s28 s29 s30 s31 s32 s33 s34 s35 s36 s37 s38 s39 s40 s41 s42 s43 s44 s45 s46 s47 s48 s49 s50 s51 s52 s53 s54 s55 s56 s57 s58 s59 s60 s61 s62 s63 s64 s65 s66 s67 s68 s69 s70 s71 s72 s73 s74 s75 s76 s77 s78 s79 s80 s81 s82 s83 s84 s85 s86 s87 s88 s89 s90 s91 s92 s93 s94 s95 s96 s97 s98 s99 s100 s101 s102 s103 s104 s105 s106 s107 s108 s109 s110 s111 s112 s113 s114 s115 s116 s117 s118 s119 s120 s121 s122 s123 s124 s125 s126 s127 s128 s129 s130 s131 s132 s133 s134 s135 s136 s137 s138 s139 s140 s141 s142 s143 s144 s145 s149 s150 s151 s152 s153 s154 s155 s156 s157 s158 s159 s160 s161 s162 s163 s164 s165 s166 s167 s168 s169 s170 s171 s172 s173 s174 s175 s176 s177 s178 s179 s180 s181 s182 s183 s184 s185 s186 s187 s188 s189 s190 s191 s192 s193 s194 s195 s196 s197 s198 s199 s200 s201 s202 s203 s204 s205 s206 s207 s208 s209 s210 s211 s212 s213 s214 s215 s216 s217 s218 s219 s220 s221 s222 s223 s224 s225 s226 s227 s228 s229 s230 s231 s232 s233 s234 s235 s236 s237 s238 s239 s240 s241 s242 s243 s244 s245 s246 s247 s248 s249 s250 s251 s252 s253 s254 s255 s256 s257 s258 s259 s260 s261 s262 s263 s264 s265 s266 s267 s268 s269 s270 s271 s272 s273 s274 s275 s276 s277 s278 s279 s280 s281 s282 : Value)
 (hud : Hid (ud.length = lu)) (hus : Hid (Sm ud)) (hvd : Hid (vd.length = nv)) (hvs : Hid (Sm vd)) (hin : i + nv < lu) (hq : q <= 1000000000) (hlu : lu <= 17592186044416) (hne : bv ≠ bu)
 (hv : Hid (Cells w (some ⟨bv, 0, none⟩) (dgs vd))) (hu : Hid (w.ownsRow B0 208 1 (.slice (some ⟨bu, 0, none⟩) lu cu) lu (dgs ud)))
 (hexit : ∀ a' w' (C : Nat) (lo : List Nat), SubX bu lu cu bv nv cv i q C s0 s1 s2 s3 s4 s5 s6 s7 s8 s11 s12 s14 s16 s21 s22 s23 s24 s25 s26 s27 s28 s29 s30 s31 s32 s33 s34 s35 s36 s37 s38 s39 s40 s41 s42 s43 s44 s45 s46 s47 s48 s49 s50 s51 s52 s53 s54 s55 s56 s57 s58 s59 s60 s61 s62 s63 s64 s65 s66 s67 s68 s69 s70 s71 s72 s73 s74 s75 s76 s77 s78 s79 s80 s81 s82 s83 s84 s85 s86 s87 s88 s89 s90 s91 s92 s93 s94 s95 s96 s97 s98 s99 s100 s101 s102 s103 s104 s105 s106 s107 s108 s109 s110 s111 s112 s113 s114 s115 s116 s117 s118 s119 s120 s121 s122 s123 s124 s125 s126 s127 s128 s129 s130 s131 s132 s133 s134 s135 s136 s137 s138 s139 s140 s141 s142 s143 s144 s145 s190 s191 s192 s193 s194 s195 s196 s197 s198 s199 s200 s201 s202 s203 s204 s205 s206 s207 s208 s209 s210 s211 s212 s213 s214 s215 s216 s217 s218 s219 s220 s221 s222 s223 s224 s225 s226 s227 s228 s229 s230 s231 s232 s233 s234 s235 s236 s237 s238 s239 s240 s241 s242 s243 s244 s245 s246 s247 s248 s249 s250 s251 s252 s253 s254 s255 s256 s257 s258 s259 s260 s261 s262 s263 s264 s265 s266 s267 s268 s269 s270 s271 s272 s273 s274 s275 s276 s277 s278 s279 s280 s281 s282 a' -> lo.length = nv -> Sm lo -> C <= q -> val lo + q * val vd = val ((ud.drop i).take nv) + C * B ^ nv -> w'.ownsRow B0 208 1 (.slice (some ⟨bu, 0, none⟩) lu cu) lu (dgs (ud.take i ++ lo ++ ud.drop (i + nv))) -> w.grownBy w' (some bu) -> Q0 (.exit 6) a' w') :
 Code.wp Tryz.prog (Code.loop (overLoop 3)) Q0 ⟨#[s0, s1, s2, s3, s4, s5, s6, s7, s8, .slice (some ⟨bu, 0, none⟩) lu cu, .slice (some ⟨bv, 0, none⟩) nv cv, s11, s12, .int .i64 (i : Nat), s14, .int .u64 (q : Nat), s16, .int .u64 0, s18, s19, s20, s21, s22, s23, s24, s25, s26, s27, s28, s29, s30, s31, s32, s33, s34, s35, s36, s37, s38, s39, s40, s41, s42, s43, s44, s45, s46, s47, s48, s49, s50, s51, s52, s53, s54, s55, s56, s57, s58, s59, s60, s61, s62, s63, s64, s65, s66, s67, s68, s69, s70, s71, s72, s73, s74, s75, s76, s77, s78, s79, s80, s81, s82, s83, s84, s85, s86, s87, s88, s89, s90, s91, s92, s93, s94, s95, s96, s97, s98, s99, s100, s101, s102, s103, s104, s105, s106, s107, s108, s109, s110, s111, s112, s113, s114, s115, s116, s117, s118, s119, s120, s121, s122, s123, s124, s125, s126, s127, s128, s129, s130, s131, s132, s133, s134, s135, s136, s137, s138, s139, s140, s141, s142, s143, s144, s145, .slice (some ⟨bv, 0, none⟩) nv cv, .int .i64 (nv : Nat), .int .i64 0, s149, s150, s151, s152, s153, s154, s155, s156, s157, s158, s159, s160, s161, s162, s163, s164, s165, s166, s167, s168, s169, s170, s171, s172, s173, s174, s175, s176, s177, s178, s179, s180, s181, s182, s183, s184, s185, s186, s187, s188, s189, s190, s191, s192, s193, s194, s195, s196, s197, s198, s199, s200, s201, s202, s203, s204, s205, s206, s207, s208, s209, s210, s211, s212, s213, s214, s215, s216, s217, s218, s219, s220, s221, s222, s223, s224, s225, s226, s227, s228, s229, s230, s231, s232, s233, s234, s235, s236, s237, s238, s239, s240, s241, s242, s243, s244, s245, s246, s247, s248, s249, s250, s251, s252, s253, s254, s255, s256, s257, s258, s259, s260, s261, s262, s263, s264, s265, s266, s267, s268, s269, s270, s271, s272, s273, s274, s275, s276, s277, s278, s279, s280, s281, s282], []⟩ w := by
 have HEX := Lib.hid hexit
 clear hexit
 dsimp only
 have hwl : overLoop 3 = overLoop 3 := rfl
 conv at hwl => rhs; whnf
 rw [hwl]
 clear hwl
 go_loopw [17, 148] (fun c j wi => ∃ (k C : Nat) (lo : List Nat), k <= nv /\ j = .int .i64 k /\ c = .int .u64 (C : Nat) /\ C <= q /\ lo.length = k /\ Sm lo /\ val lo + q * val (vd.take k) = val ((ud.drop i).take k) + C * B ^ k /\ wi.ownsRow B0 208 1 (.slice (some ⟨bu, 0, none⟩) lu cu) lu (dgs (ud.take i ++ lo ++ ud.drop (i + k))) /\ w.grownBy wi (some bu)) (fun _ j _ => nv - (intOf j).toNat)
 case atStart => exact ⟨0, 0, [], Nat.zero_le _, rfl, rfl, Nat.zero_le _, rfl, by simp [Sm], by simp [val], by rw [Nat.add_zero, List.append_nil, List.take_append_drop]; exact hu.out, grown_refl _ _⟩
 case round =>
  clear hu
  obtain ⟨k, C, lo, hk, rfl, rfl, hC, hll, hls, hlv, hown, hg⟩ := hrel
  have HLL := Lib.hid hll; have HLS := Lib.hid hls; have HLV := Lib.hid hlv
  have hsz := hg.size
  by_cases hlt : k < nv
  · obtain ⟨y, hy⟩ := get_of_lt (show k < vd.length by have := hvd.out; omega)
    have hyB := sm_get hvs.out hy
    have hcl := hv.out.grown hg (fun b off e _ => by simp at e; obtain ⟨rfl, _⟩ := e; simpa using hne)
    have c2 := hcl.dgs hy
    rw [Nat.zero_add] at c2
    obtain ⟨u0, hu0⟩ := get_of_lt (show i + k < ud.length by have := hud.out; omega)
    have huB := sm_get hus.out hu0
    have hdr := drop_get hu0
    have hlk : (ud.take i).length + lo.length = i + k := by rw [List.length_take, HLL.out, Nat.min_eq_left (by have := hud.out; omega)]
    rw [hdr] at hown
    have c3 := hown.cellAt (i + k) (by omega)
    rw [get_mid _ _ _ _ _ hlk] at c3
    have c4 := hown.frozenAt (i + k)
    have hod : (ud.drop i)[k]? = some u0 := by rw [List.getElem?_drop]; exact hu0
    have hqy : q * y <= 1000000000 * 999999999 := Nat.mul_le_mul hq hyB
    have p0 : (0 : Int) <= (q : Int) * y := Int.mul_nonneg (by omega) (by omega)
    have p1 : (q : Int) * y <= 999999999000000000 := by
     have : ((q * y : Nat) : Int) <= 999999999000000000 := by omega
     simpa using this
    obtain ⟨T, hT⟩ : ∃ T, T = C + q * y := ⟨_, rfl⟩
    have hTI : (C : Int) + (q : Int) * y = (T : Int) := by rw [hT]; simp
    have hlow : T % B < B := Nat.mod_lt _ B_pos
    have HTI := Lib.hid hTI
    have HT := Lib.hid hT
    have eB : B = 1000000000 := rfl
    by_cases hbo : u0 < T % B
    · have hst := borrow_step T (q * y) u0 (T % B) (T / B) (u0 + B - T % B) (T / B + 1) HLV.out hT rfl rfl (.inr ⟨by omega, rfl⟩)
      have hdB : u0 + B - T % B < B := by omega
      have hnl : Sm (lo ++ [u0 + B - T % B]) := sm_append HLS.out (sm_one hdB)
      have hnv : val (lo ++ [u0 + B - T % B]) + q * val (vd.take (k + 1)) = val ((ud.drop i).take (k + 1)) + (T / B + 1) * B ^ (k + 1) := by
       rw [val_snoc, HLL.out, val_take_succ hy, val_take_succ hod, Nat.mul_add, Nat.mul_left_comm q]; exact hst
      have hnll : (lo ++ [u0 + B - T % B]).length = k + 1 := by rw [List.length_append, HLL.out]; rfl
      have hnc := borrow_bd hnl hnll (sm_take hvs.out (k + 1)) (by rw [List.length_take, hvd.out]; omega) hnv
      have hs1 := hown.stored (i + k) (.int .u64 ((u0 + B : Nat) : Int))
      rw [set_mid _ _ _ _ _ _ hlk] at hs1
      have hs1' : (wr.setCell ⟨bu, i + k, none⟩ (.int .u64 ((u0 + B : Nat) : Int))).ownsRow B0 208 1 (.slice (some ⟨bu, 0, none⟩) lu cu) lu (dgs (ud.take i ++ lo ++ ((u0 + B) :: ud.drop (i + k + 1)))) := by
       have := hs1.1; rw [List.append_assoc, List.append_assoc, List.singleton_append] at this; rw [List.append_assoc]; exact this
      have c5 := hs1'.cellAt (i + k) (by omega)
      rw [get_mid _ _ _ _ _ hlk] at c5
      have c6 := hs1'.frozenAt (i + k)
      have hs2 := hs1'.stored (i + k) (.int .u64 ((u0 + B - T % B : Nat) : Int))
      rw [set_mid _ _ _ _ _ _ hlk] at hs2
      have hgg := (World.grownBy.trans hg hs1.2).trans hs2.2
      have HS2 := Lib.hid hs2.1; have HGG := Lib.hid hgg; have HNV := Lib.hid hnv; have HNS := Lib.hid hnl; have HNL := Lib.hid hnll
      have e1 : ((T : Int) % 1000000000) = ((T % B : Nat) : Int) := by simp [B]
      have e2 : ((T : Int) / 1000000000) + 1 = ((T / B + 1 : Nat) : Int) := by simp [B]
      have e3 : ((u0 : Int) + 1000000000) = ((u0 + B : Nat) : Int) := by simp [B]
      have e4 : ((u0 : Int) + 1000000000) - ((T : Int) % 1000000000) = ((u0 + B - T % B : Nat) : Int) := by rw [e1, e3]; omega
      have hbI : (u0 : Int) < ((C : Int) + (q : Int) * y) % 1000000000 := by rw [hTI, e1]; omega
      rw [<- e3] at c5
      have hb0 : (0 : Int) <= ((C : Int) + (q : Int) * y) % 1000000000 := by omega
      have hb1 : ((C : Int) + (q : Int) * y) % 1000000000 <= 999999999 := by omega
      have HNC := Lib.hid hnc
      have E2 := Lib.hid e2; have E3 := Lib.hid e3; have E4 := Lib.hid e4
      clear hown hdr hlk hy hu0 hod hqy hst hdB hnl hnv hnll hnc hs1 hs1' hs2 hgg hll hls hlv hcl e1 e2 e3 e4 hT hTI
      go_wp2
      clear c2 c3 c4 c5 c6
      go_roundw
      case rel => exact ⟨k + 1, T / B + 1, lo ++ [u0 + B - T % B], by omega, by go_num, by rw [HTI.out, E2.out], HNC.out, HNL.out, HNS.out, HNV.out, by rw [HTI.out, E4.out, E3.out]; exact HS2.out, by rw [HTI.out, E4.out, E3.out]; exact HGG.out⟩
      case measure => simp [intOf]; omega
    · have hst := borrow_step T (q * y) u0 (T % B) (T / B) (u0 - T % B) (T / B) HLV.out hT rfl rfl (.inl ⟨by omega, rfl⟩)
      have hdB : u0 - T % B < B := by omega
      have hnl : Sm (lo ++ [u0 - T % B]) := sm_append HLS.out (sm_one hdB)
      have hnv : val (lo ++ [u0 - T % B]) + q * val (vd.take (k + 1)) = val ((ud.drop i).take (k + 1)) + T / B * B ^ (k + 1) := by
       rw [val_snoc, HLL.out, val_take_succ hy, val_take_succ hod, Nat.mul_add, Nat.mul_left_comm q]; exact hst
      have hnll : (lo ++ [u0 - T % B]).length = k + 1 := by rw [List.length_append, HLL.out]; rfl
      have hnc := borrow_bd hnl hnll (sm_take hvs.out (k + 1)) (by rw [List.length_take, hvd.out]; omega) hnv
      have hs2 := hown.stored (i + k) (.int .u64 ((u0 - T % B : Nat) : Int))
      rw [set_mid _ _ _ _ _ _ hlk] at hs2
      have hgg := World.grownBy.trans hg hs2.2
      have HS2 := Lib.hid hs2.1; have HGG := Lib.hid hgg; have HNV := Lib.hid hnv; have HNS := Lib.hid hnl; have HNL := Lib.hid hnll
      have e1 : ((T : Int) % 1000000000) = ((T % B : Nat) : Int) := by simp [B]
      have e2 : ((T : Int) / 1000000000) = ((T / B : Nat) : Int) := by simp [B]
      have e4 : (u0 : Int) - ((T : Int) % 1000000000) = ((u0 - T % B : Nat) : Int) := by rw [e1]; omega
      have hbI : ¬ (u0 : Int) < ((C : Int) + (q : Int) * y) % 1000000000 := by rw [hTI, e1]; omega
      have hb0 : (0 : Int) <= ((C : Int) + (q : Int) * y) % 1000000000 := by omega
      have HNC := Lib.hid hnc
      have E2 := Lib.hid e2; have E4 := Lib.hid e4
      clear hown hdr hlk hy hu0 hod hqy hst hdB hnl hnv hnll hnc hs2 hgg hll hls hlv hcl e1 e2 e4 hT hTI
      go_wp2
      clear c2 c3 c4
      go_roundw
      case rel => exact ⟨k + 1, T / B, lo ++ [u0 - T % B], by omega, by go_num, by rw [HTI.out, E2.out], HNC.out, HNL.out, HNS.out, HNV.out, by rw [HTI.out, E4.out]; exact HS2.out, by rw [HTI.out, E4.out]; exact HGG.out⟩
      case measure => simp [intOf]; omega
  · obtain rfl : k = nv := by omega
    rw [List.take_of_length_le (show vd.length <= k by rw [hvd.out]; omega)] at HLV
    have HO := Lib.hid hown; have HG := Lib.hid hg
    clear hll hls hlv hown hg
    go_wp2
    refine HEX.out _ _ C lo ?_ HLL.out HLS.out hC HLV.out HO.out HG.out
    unfold SubX
    repeat apply Exists.intro
    rfl
set_option maxRecDepth 1000000 in
def AddX (bu lu cu bv nv cv i C : Nat) (s0 s1 s2 s3 s4 s5 s6 s7 s8 s11 s12 s14 s15 s16 s17 s18 s19 s20 s24 s25 s26 s27 s28 s29 s30 s31 s32 s33 s34 s35 s36 s37 s38 s39 s40 s41 s42 s43 s44 s45 s46 s47 s48 s49 s50 s51 s52 s53 s54 s55 s56 s57 s58 s59 s60 s61 s62 s63 s64 s65 s66 s67 s68 s69 s70 s71 s72 s73 s74 s75 s76 s77 s78 s79 s80 s81 s82 s83 s84 s85 s86 s87 s88 s89 s90 s91 s92 s93 s94 s95 s96 s97 s98 s99 s100 s101 s102 s103 s104 s105 s106 s107 s108 s109 s110 s111 s112 s113 s114 s115 s116 s117 s118 s119 s120 s121 s122 s123 s124 s125 s126 s127 s128 s129 s130 s131 s132 s133 s134 s135 s136 s137 s138 s139 s140 s141 s142 s143 s144 s145 s146 s147 s148 s149 s150 s151 s152 s153 s154 s155 s156 s157 s158 s159 s160 s161 s162 s163 s164 s165 s166 s167 s168 s169 s170 s171 s172 s173 s174 s175 s176 s177 s178 s179 s180 s181 s182 s183 s184 s185 s186 s187 s188 s189 s190 s191 s192 s193 s194 s195 s196 s197 s198 s199 s200 s201 s202 s203 s204 s205 s206 s207 s208 s209 s210 s211 s212 s213 s214 s215 s216 s217 s218 s219 s220 s221 s222 s223 s224 s252 s253 s254 s255 s256 s257 s258 s259 s260 s261 s262 s263 s264 s265 s266 s267 s268 s269 s270 s271 s272 s273 s274 s275 s276 s277 s278 s279 s280 s281 s282 : Value) (a : Act) : Prop := ∃ v22 v23 v227 v228 v229 v230 v231 v232 v233 v234 v235 v236 v237 v238 v239 v240 v241 v242 v243 v244 v245 v246 v247 v248 v249 v250 v251 : Value, a = ⟨#[s0, s1, s2, s3, s4, s5, s6, s7, s8, .slice (some ⟨bu, 0, none⟩) lu cu, .slice (some ⟨bv, 0, none⟩) nv cv, s11, s12, .int .i64 (i : Nat), s14, s15, s16, s17, s18, s19, s20, .int .u64 (C : Nat), v22, v23, s24, s25, s26, s27, s28, s29, s30, s31, s32, s33, s34, s35, s36, s37, s38, s39, s40, s41, s42, s43, s44, s45, s46, s47, s48, s49, s50, s51, s52, s53, s54, s55, s56, s57, s58, s59, s60, s61, s62, s63, s64, s65, s66, s67, s68, s69, s70, s71, s72, s73, s74, s75, s76, s77, s78, s79, s80, s81, s82, s83, s84, s85, s86, s87, s88, s89, s90, s91, s92, s93, s94, s95, s96, s97, s98, s99, s100, s101, s102, s103, s104, s105, s106, s107, s108, s109, s110, s111, s112, s113, s114, s115, s116, s117, s118, s119, s120, s121, s122, s123, s124, s125, s126, s127, s128, s129, s130, s131, s132, s133, s134, s135, s136, s137, s138, s139, s140, s141, s142, s143, s144, s145, s146, s147, s148, s149, s150, s151, s152, s153, s154, s155, s156, s157, s158, s159, s160, s161, s162, s163, s164, s165, s166, s167, s168, s169, s170, s171, s172, s173, s174, s175, s176, s177, s178, s179, s180, s181, s182, s183, s184, s185, s186, s187, s188, s189, s190, s191, s192, s193, s194, s195, s196, s197, s198, s199, s200, s201, s202, s203, s204, s205, s206, s207, s208, s209, s210, s211, s212, s213, s214, s215, s216, s217, s218, s219, s220, s221, s222, s223, s224, .slice (some ⟨bv, 0, none⟩) nv cv, .int .i64 (nv : Nat), v227, v228, v229, v230, v231, v232, v233, v234, v235, v236, v237, v238, v239, v240, v241, v242, v243, v244, v245, v246, v247, v248, v249, v250, v251, s252, s253, s254, s255, s256, s257, s258, s259, s260, s261, s262, s263, s264, s265, s266, s267, s268, s269, s270, s271, s272, s273, s274, s275, s276, s277, s278, s279, s280, s281, s282], []⟩
set_option maxRecDepth 1000000 in
set_option maxHeartbeats 20000000 in
theorem over_add (ud vd : List Nat) (B0 bu lu cu bv nv cv i : Nat) (w : World) (Q0 : Exit -> Act -> World -> Prop) (s0 s1 s2 s3 s4 s5 s6 s7 s8 s11 s12 s14 s15 s16 s17 s18 s19 s20 s22 s23 s24 s25 s26 s27 s28 s29 s30 s31 s32 s33 s34 s35 s36 s37 s38 s39 s40 s41 s42 s43 s44 s45 s46 s47 s48 s49 s50 s51 s52 s53 s54 s55 s56 s57 s58 s59 s60 s61 s62 s63 s64 s65 s66 s67 s68 s69 s70 s71 s72 s73 s74 s75 s76 s77 s78 s79 s80 s81 s82 s83 s84 s85 s86 s87 s88 s89 s90 s91 s92 s93 s94 s95 s96 s97 s98 s99 s100 s101 s102 s103 s104 s105 s106 s107 s108 s109 s110 s111 s112 s113 s114 s115 s116 s117 s118 s119 s120 s121 s122 s123 s124 s125 s126 s127 s128 s129 s130 s131 s132 s133 s134 s135 s136 s137 s138 s139 s140 s141 s142 s143 s144 s145 s146 s147 s148 s149 s150 s151 s152 s153 s154 s155 s156 s157 s158 s159 s160 s161 s162 s163 s164 s165 s166 s167 s168 s169 s170 s171 s172 s173 s174 s175 s176 s177 s178 s179 s180 s181 s182 s183 s184 s185 s186 s187 s188 s189 s190 s191 s192 s193 s194 s195 s196 s197 s198 s199 s200 s201 s202 s203 s204 s205 s206 s207 s208 s209 s210 s211 s212 s213 s214 s215 s216 s217 s218 s219 s220 s221 s222 s223 s224 s228 s229 s230 s231 s232 s233 s234 s235 s236 s237 s238 s239 s240 s241 s242 s243 s244 s245 s246 s247 s248 s249 s250 s251 s252 s253 s254 s255 s256 s257 s258 s259 s260 s261 s262 s263 s264 s265 s266 s267 s268 s269 s270 s271 s272 s273 s274 s275 s276 s277 s278 s279 s280 s281 s282 : Value)
 (hud : Hid (ud.length = lu)) (hus : Hid (Sm ud)) (hvd : Hid (vd.length = nv)) (hvs : Hid (Sm vd)) (hin : i + nv < lu) (hlu : lu <= 17592186044416) (hne : bv ≠ bu)
 (hv : Hid (Cells w (some ⟨bv, 0, none⟩) (dgs vd))) (hu : Hid (w.ownsRow B0 208 1 (.slice (some ⟨bu, 0, none⟩) lu cu) lu (dgs ud)))
 (hexit : ∀ a' w' (C : Nat) (lo : List Nat), AddX bu lu cu bv nv cv i C s0 s1 s2 s3 s4 s5 s6 s7 s8 s11 s12 s14 s15 s16 s17 s18 s19 s20 s24 s25 s26 s27 s28 s29 s30 s31 s32 s33 s34 s35 s36 s37 s38 s39 s40 s41 s42 s43 s44 s45 s46 s47 s48 s49 s50 s51 s52 s53 s54 s55 s56 s57 s58 s59 s60 s61 s62 s63 s64 s65 s66 s67 s68 s69 s70 s71 s72 s73 s74 s75 s76 s77 s78 s79 s80 s81 s82 s83 s84 s85 s86 s87 s88 s89 s90 s91 s92 s93 s94 s95 s96 s97 s98 s99 s100 s101 s102 s103 s104 s105 s106 s107 s108 s109 s110 s111 s112 s113 s114 s115 s116 s117 s118 s119 s120 s121 s122 s123 s124 s125 s126 s127 s128 s129 s130 s131 s132 s133 s134 s135 s136 s137 s138 s139 s140 s141 s142 s143 s144 s145 s146 s147 s148 s149 s150 s151 s152 s153 s154 s155 s156 s157 s158 s159 s160 s161 s162 s163 s164 s165 s166 s167 s168 s169 s170 s171 s172 s173 s174 s175 s176 s177 s178 s179 s180 s181 s182 s183 s184 s185 s186 s187 s188 s189 s190 s191 s192 s193 s194 s195 s196 s197 s198 s199 s200 s201 s202 s203 s204 s205 s206 s207 s208 s209 s210 s211 s212 s213 s214 s215 s216 s217 s218 s219 s220 s221 s222 s223 s224 s252 s253 s254 s255 s256 s257 s258 s259 s260 s261 s262 s263 s264 s265 s266 s267 s268 s269 s270 s271 s272 s273 s274 s275 s276 s277 s278 s279 s280 s281 s282 a' -> lo.length = nv -> Sm lo -> C <= 1 -> val lo + C * B ^ nv = val ((ud.drop i).take nv) + val vd -> w'.ownsRow B0 208 1 (.slice (some ⟨bu, 0, none⟩) lu cu) lu (dgs (ud.take i ++ lo ++ ud.drop (i + nv))) -> w.grownBy w' (some bu) -> Q0 (.exit 8) a' w') :
 Code.wp Tryz.prog (Code.loop (overLoop 4)) Q0 ⟨#[s0, s1, s2, s3, s4, s5, s6, s7, s8, .slice (some ⟨bu, 0, none⟩) lu cu, .slice (some ⟨bv, 0, none⟩) nv cv, s11, s12, .int .i64 (i : Nat), s14, s15, s16, s17, s18, s19, s20, .int .u64 0, s22, s23, s24, s25, s26, s27, s28, s29, s30, s31, s32, s33, s34, s35, s36, s37, s38, s39, s40, s41, s42, s43, s44, s45, s46, s47, s48, s49, s50, s51, s52, s53, s54, s55, s56, s57, s58, s59, s60, s61, s62, s63, s64, s65, s66, s67, s68, s69, s70, s71, s72, s73, s74, s75, s76, s77, s78, s79, s80, s81, s82, s83, s84, s85, s86, s87, s88, s89, s90, s91, s92, s93, s94, s95, s96, s97, s98, s99, s100, s101, s102, s103, s104, s105, s106, s107, s108, s109, s110, s111, s112, s113, s114, s115, s116, s117, s118, s119, s120, s121, s122, s123, s124, s125, s126, s127, s128, s129, s130, s131, s132, s133, s134, s135, s136, s137, s138, s139, s140, s141, s142, s143, s144, s145, s146, s147, s148, s149, s150, s151, s152, s153, s154, s155, s156, s157, s158, s159, s160, s161, s162, s163, s164, s165, s166, s167, s168, s169, s170, s171, s172, s173, s174, s175, s176, s177, s178, s179, s180, s181, s182, s183, s184, s185, s186, s187, s188, s189, s190, s191, s192, s193, s194, s195, s196, s197, s198, s199, s200, s201, s202, s203, s204, s205, s206, s207, s208, s209, s210, s211, s212, s213, s214, s215, s216, s217, s218, s219, s220, s221, s222, s223, s224, .slice (some ⟨bv, 0, none⟩) nv cv, .int .i64 (nv : Nat), .int .i64 0, s228, s229, s230, s231, s232, s233, s234, s235, s236, s237, s238, s239, s240, s241, s242, s243, s244, s245, s246, s247, s248, s249, s250, s251, s252, s253, s254, s255, s256, s257, s258, s259, s260, s261, s262, s263, s264, s265, s266, s267, s268, s269, s270, s271, s272, s273, s274, s275, s276, s277, s278, s279, s280, s281, s282], []⟩ w := by
 have HEX := Lib.hid hexit
 clear hexit
 dsimp only
 have hwl : overLoop 4 = overLoop 4 := rfl
 conv at hwl => rhs; whnf
 rw [hwl]
 clear hwl
 go_loopw [21, 227] (fun c j wi => ∃ (k C : Nat) (lo : List Nat), k <= nv /\ j = .int .i64 k /\ c = .int .u64 (C : Nat) /\ C <= 1 /\ lo.length = k /\ Sm lo /\ val lo + C * B ^ k = val ((ud.drop i).take k) + val (vd.take k) /\ wi.ownsRow B0 208 1 (.slice (some ⟨bu, 0, none⟩) lu cu) lu (dgs (ud.take i ++ lo ++ ud.drop (i + k))) /\ w.grownBy wi (some bu)) (fun _ j _ => nv - (intOf j).toNat)
 case atStart => exact ⟨0, 0, [], Nat.zero_le _, rfl, rfl, Nat.zero_le _, rfl, by simp [Sm], by simp [val], by rw [Nat.add_zero, List.append_nil, List.take_append_drop]; exact hu.out, grown_refl _ _⟩
 case round =>
  clear hu
  obtain ⟨k, C, lo, hk, rfl, rfl, hC, hll, hls, hlv, hown, hg⟩ := hrel
  have HLL := Lib.hid hll; have HLS := Lib.hid hls; have HLV := Lib.hid hlv
  have hsz := hg.size
  by_cases hlt : k < nv
  · obtain ⟨y, hy⟩ := get_of_lt (show k < vd.length by have := hvd.out; omega)
    have hyB := sm_get hvs.out hy
    have hcl := hv.out.grown hg (fun b off e _ => by simp at e; obtain ⟨rfl, _⟩ := e; simpa using hne)
    have c2 := hcl.dgs hy
    rw [Nat.zero_add] at c2
    obtain ⟨u0, hu0⟩ := get_of_lt (show i + k < ud.length by have := hud.out; omega)
    have huB := sm_get hus.out hu0
    have hdr := drop_get hu0
    have hlk : (ud.take i).length + lo.length = i + k := by rw [List.length_take, HLL.out, Nat.min_eq_left (by have := hud.out; omega)]
    rw [hdr] at hown
    have c3 := hown.cellAt (i + k) (by omega)
    rw [get_mid _ _ _ _ _ hlk] at c3
    have c4 := hown.frozenAt (i + k)
    have hod : (ud.drop i)[k]? = some u0 := by rw [List.getElem?_drop]; exact hu0
    have eB : B = 1000000000 := rfl
    have hcs := carry_step (C + (u0 + y)) (u0 + y) HLV.out rfl
    have hnl : Sm (lo ++ [(C + (u0 + y)) % B]) := sm_append HLS.out (sm_one (Nat.mod_lt _ B_pos))
    have hnv : val (lo ++ [(C + (u0 + y)) % B]) + (C + (u0 + y)) / B * B ^ (k + 1) = val ((ud.drop i).take (k + 1)) + val (vd.take (k + 1)) := by
     rw [val_snoc, HLL.out, hcs, val_take_succ hy, val_take_succ hod, Nat.mul_add]; omega
    have hnll : (lo ++ [(C + (u0 + y)) % B]).length = k + 1 := by rw [List.length_append, HLL.out]; rfl
    have hnc : (C + (u0 + y)) / B <= 1 := by
     have : (C + (u0 + y)) / B < 2 := Nat.div_lt_of_lt_mul (by rw [eB]; omega)
     omega
    have hs2 := hown.stored (i + k) (.int .u64 (((C + (u0 + y)) % B : Nat) : Int))
    rw [set_mid _ _ _ _ _ _ hlk] at hs2
    have hgg := World.grownBy.trans hg hs2.2
    have HS2 := Lib.hid hs2.1; have HGG := Lib.hid hgg; have HNV := Lib.hid hnv; have HNS := Lib.hid hnl; have HNL := Lib.hid hnll; have HNC := Lib.hid hnc
    have e1 : (((C : Int) + ((u0 : Int) + y)) % 1000000000) = (((C + (u0 + y)) % B : Nat) : Int) := by simp [B]
    have e2 : (((C : Int) + ((u0 : Int) + y)) / 1000000000) = (((C + (u0 + y)) / B : Nat) : Int) := by simp [B]
    have E1 := Lib.hid e1; have E2 := Lib.hid e2
    clear hown hdr hlk hy hu0 hod hcs hnl hnv hnll hnc hs2 hgg hll hls hlv hcl e1 e2
    go_wp2
    clear c2 c3 c4
    go_roundw
    case rel => exact ⟨k + 1, _, lo ++ [(C + (u0 + y)) % B], by omega, by go_num, by rw [E2.out], HNC.out, HNL.out, HNS.out, HNV.out, by rw [E1.out]; exact HS2.out, by rw [E1.out]; exact HGG.out⟩
    case measure => simp [intOf]; omega
  · obtain rfl : k = nv := by omega
    rw [List.take_of_length_le (show vd.length <= k by rw [hvd.out]; omega)] at HLV
    have HO := Lib.hid hown; have HG := Lib.hid hg
    clear hll hls hlv hown hg
    go_wp2
    refine HEX.out _ _ C lo ?_ HLL.out HLS.out hC HLV.out HO.out HG.out
    unfold AddX
    repeat apply Exists.intro
    rfl
end Go.Proofs.YtdpjdifoonfcdaaGreatDoor

namespace Go.Proofs.YtdpjdifoonfcdaaGreatDoor
open Go.RowKit
def GuessR (u0 u1 v1 U V gh : Nat) (qv rv : Value) (w wi : World) : Prop := ∃ q r : Nat, q <= gh /\ qv = .int .u64 (q : Nat) /\ rv = .int .u64 (r : Nat) /\ r <= 999999999 /\ q * v1 + r = u0 * B + u1 /\ q <= 1000000001 /\ U < (q + 1) * V /\ Drawn w wi
set_option maxRecDepth 1000000 in
def GuessX (bu lu cu bv nv cv i q : Nat) (s0 s1 s2 s3 s4 s5 s6 s7 s8 s12 s14 s17 s18 s19 s20 s21 s22 s23 s24 s25 s26 s27 s28 s29 s30 s31 s32 s33 s34 s35 s36 s37 s38 s39 s40 s41 s42 s43 s44 s45 s46 s47 s48 s49 s50 s51 s52 s53 s54 s55 s56 s57 s58 s59 s60 s61 s62 s63 s64 s65 s66 s67 s68 s69 s70 s71 s72 s73 s74 s75 s76 s77 s78 s79 s80 s81 s82 s83 s84 s85 s86 s87 s88 s89 s90 s91 s92 s93 s94 s95 s96 s97 s98 s99 s100 s101 s102 s103 s104 s105 s106 s107 s108 s109 s110 s111 s112 s146 s147 s148 s149 s150 s151 s152 s153 s154 s155 s156 s157 s158 s159 s160 s161 s162 s163 s164 s165 s166 s167 s168 s169 s170 s171 s172 s173 s174 s175 s176 s177 s178 s179 s180 s181 s182 s183 s184 s185 s186 s187 s188 s189 s190 s191 s192 s193 s194 s195 s196 s197 s198 s199 s200 s201 s202 s203 s204 s205 s206 s207 s208 s209 s210 s211 s212 s213 s214 s215 s216 s217 s218 s219 s220 s221 s222 s223 s224 s225 s226 s227 s228 s229 s230 s231 s232 s233 s234 s235 s236 s237 s238 s239 s240 s241 s242 s243 s244 s245 s246 s247 s248 s249 s250 s251 s252 s253 s254 s255 s256 s257 s258 s259 s260 s261 s262 s263 s264 s265 s266 s267 s268 s269 s270 s271 s272 s273 s274 s275 s276 s277 s278 s279 s280 s281 s282 : Value) (a : Act) : Prop := ∃ v16 v113 v114 v115 v116 v117 v118 v119 v120 v121 v122 v123 v124 v125 v126 v127 v128 v129 v130 v131 v132 v133 v134 v135 v136 v137 v138 v139 v140 v141 v142 v143 v144 v145 : Value, a = ⟨#[s0, s1, s2, s3, s4, s5, s6, s7, s8, .slice (some ⟨bu, 0, none⟩) lu cu, .slice (some ⟨bv, 0, none⟩) nv cv, .int .i64 (nv : Nat), s12, .int .i64 (i : Nat), s14, .int .u64 (q : Nat), v16, s17, s18, s19, s20, s21, s22, s23, s24, s25, s26, s27, s28, s29, s30, s31, s32, s33, s34, s35, s36, s37, s38, s39, s40, s41, s42, s43, s44, s45, s46, s47, s48, s49, s50, s51, s52, s53, s54, s55, s56, s57, s58, s59, s60, s61, s62, s63, s64, s65, s66, s67, s68, s69, s70, s71, s72, s73, s74, s75, s76, s77, s78, s79, s80, s81, s82, s83, s84, s85, s86, s87, s88, s89, s90, s91, s92, s93, s94, s95, s96, s97, s98, s99, s100, s101, s102, s103, s104, s105, s106, s107, s108, s109, s110, s111, s112, v113, v114, v115, v116, v117, v118, v119, v120, v121, v122, v123, v124, v125, v126, v127, v128, v129, v130, v131, v132, v133, v134, v135, v136, v137, v138, v139, v140, v141, v142, v143, v144, v145, s146, s147, s148, s149, s150, s151, s152, s153, s154, s155, s156, s157, s158, s159, s160, s161, s162, s163, s164, s165, s166, s167, s168, s169, s170, s171, s172, s173, s174, s175, s176, s177, s178, s179, s180, s181, s182, s183, s184, s185, s186, s187, s188, s189, s190, s191, s192, s193, s194, s195, s196, s197, s198, s199, s200, s201, s202, s203, s204, s205, s206, s207, s208, s209, s210, s211, s212, s213, s214, s215, s216, s217, s218, s219, s220, s221, s222, s223, s224, s225, s226, s227, s228, s229, s230, s231, s232, s233, s234, s235, s236, s237, s238, s239, s240, s241, s242, s243, s244, s245, s246, s247, s248, s249, s250, s251, s252, s253, s254, s255, s256, s257, s258, s259, s260, s261, s262, s263, s264, s265, s266, s267, s268, s269, s270, s271, s272, s273, s274, s275, s276, s277, s278, s279, s280, s281, s282], []⟩
set_option maxRecDepth 1000000 in
set_option maxHeartbeats 20000000 in
theorem over_guess (bu lu cu bv nv cv i q0 r0 u0 u1 u2 v1 v2 P V U : Nat) (w : World) (Q0 : Exit -> Act -> World -> Prop) (s0 s1 s2 s3 s4 s5 s6 s7 s8 s12 s14 s17 s18 s19 s20 s21 s22 s23 s24 s25 s26 s27 s28 s29 s30 s31 s32 s33 s34 s35 s36 s37 s38 s39 s40 s41 s42 s43 s44 s45 s46 s47 s48 s49 s50 s51 s52 s53 s54 s55 s56 s57 s58 s59 s60 s61 s62 s63 s64 s65 s66 s67 s68 s69 s70 s71 s72 s73 s74 s75 s76 s77 s78 s79 s80 s81 s82 s83 s84 s85 s86 s87 s88 s89 s90 s91 s92 s93 s94 s95 s96 s97 s98 s99 s100 s101 s102 s103 s104 s105 s106 s107 s108 s109 s110 s111 s112 s113 s114 s115 s116 s117 s118 s119 s120 s121 s122 s123 s124 s125 s126 s127 s128 s129 s130 s131 s132 s133 s134 s135 s136 s137 s138 s139 s140 s141 s142 s143 s144 s145 s146 s147 s148 s149 s150 s151 s152 s153 s154 s155 s156 s157 s158 s159 s160 s161 s162 s163 s164 s165 s166 s167 s168 s169 s170 s171 s172 s173 s174 s175 s176 s177 s178 s179 s180 s181 s182 s183 s184 s185 s186 s187 s188 s189 s190 s191 s192 s193 s194 s195 s196 s197 s198 s199 s200 s201 s202 s203 s204 s205 s206 s207 s208 s209 s210 s211 s212 s213 s214 s215 s216 s217 s218 s219 s220 s221 s222 s223 s224 s225 s226 s227 s228 s229 s230 s231 s232 s233 s234 s235 s236 s237 s238 s239 s240 s241 s242 s243 s244 s245 s246 s247 s248 s249 s250 s251 s252 s253 s254 s255 s256 s257 s258 s259 s260 s261 s262 s263 s264 s265 s266 s267 s268 s269 s270 s271 s272 s273 s274 s275 s276 s277 s278 s279 s280 s281 s282 : Value)
 (hin : i + nv < lu) (hnv : 2 <= nv) (hlu : lu <= 17592186044416) (hu2 : u2 <= 999999999) (hv1 : 500000000 <= v1) (hv1B : v1 <= 999999999) (hv2 : v2 <= 999999999)
 (hV1 : Hid ((v1 * B + v2) * P <= V)) (hV2 : Hid (V < (v1 * B + v2 + 1) * P)) (hU1 : Hid ((u0 * B * B + u1 * B + u2) * P <= U)) (hU2 : Hid (U < (u0 * B * B + u1 * B + u2 + 1) * P)) (hUB : Hid (U < B * V))
 (hr0 : r0 <= 999999999) (hqr : Hid (q0 * v1 + r0 = u0 * B + u1)) (hq0 : q0 <= 1000000001) (hlo : Hid (U < (q0 + 1) * V))
 (c1 : w.cell? ⟨bv, nv - 1, none⟩ = some (.int .u64 (v1 : Nat))) (c2 : w.cell? ⟨bv, nv - 2, none⟩ = some (.int .u64 (v2 : Nat))) (c3 : w.cell? ⟨bu, i + nv - 2, none⟩ = some (.int .u64 (u2 : Nat)))
 (hexit : ∀ a' w' (q d : Nat), GuessX bu lu cu bv nv cv i q s0 s1 s2 s3 s4 s5 s6 s7 s8 s12 s14 s17 s18 s19 s20 s21 s22 s23 s24 s25 s26 s27 s28 s29 s30 s31 s32 s33 s34 s35 s36 s37 s38 s39 s40 s41 s42 s43 s44 s45 s46 s47 s48 s49 s50 s51 s52 s53 s54 s55 s56 s57 s58 s59 s60 s61 s62 s63 s64 s65 s66 s67 s68 s69 s70 s71 s72 s73 s74 s75 s76 s77 s78 s79 s80 s81 s82 s83 s84 s85 s86 s87 s88 s89 s90 s91 s92 s93 s94 s95 s96 s97 s98 s99 s100 s101 s102 s103 s104 s105 s106 s107 s108 s109 s110 s111 s112 s146 s147 s148 s149 s150 s151 s152 s153 s154 s155 s156 s157 s158 s159 s160 s161 s162 s163 s164 s165 s166 s167 s168 s169 s170 s171 s172 s173 s174 s175 s176 s177 s178 s179 s180 s181 s182 s183 s184 s185 s186 s187 s188 s189 s190 s191 s192 s193 s194 s195 s196 s197 s198 s199 s200 s201 s202 s203 s204 s205 s206 s207 s208 s209 s210 s211 s212 s213 s214 s215 s216 s217 s218 s219 s220 s221 s222 s223 s224 s225 s226 s227 s228 s229 s230 s231 s232 s233 s234 s235 s236 s237 s238 s239 s240 s241 s242 s243 s244 s245 s246 s247 s248 s249 s250 s251 s252 s253 s254 s255 s256 s257 s258 s259 s260 s261 s262 s263 s264 s265 s266 s267 s268 s269 s270 s271 s272 s273 s274 s275 s276 s277 s278 s279 s280 s281 s282 a' -> w' = w.drewN d -> q * V < U + V -> U < (q + 1) * V -> q <= 1000000000 -> Q0 (.exit 4) a' w') :
 Code.wp Tryz.prog (Code.loop (overLoop 2)) Q0 ⟨#[s0, s1, s2, s3, s4, s5, s6, s7, s8, .slice (some ⟨bu, 0, none⟩) lu cu, .slice (some ⟨bv, 0, none⟩) nv cv, .int .i64 (nv : Nat), s12, .int .i64 (i : Nat), s14, .int .u64 (q0 : Nat), .int .u64 (r0 : Nat), s17, s18, s19, s20, s21, s22, s23, s24, s25, s26, s27, s28, s29, s30, s31, s32, s33, s34, s35, s36, s37, s38, s39, s40, s41, s42, s43, s44, s45, s46, s47, s48, s49, s50, s51, s52, s53, s54, s55, s56, s57, s58, s59, s60, s61, s62, s63, s64, s65, s66, s67, s68, s69, s70, s71, s72, s73, s74, s75, s76, s77, s78, s79, s80, s81, s82, s83, s84, s85, s86, s87, s88, s89, s90, s91, s92, s93, s94, s95, s96, s97, s98, s99, s100, s101, s102, s103, s104, s105, s106, s107, s108, s109, s110, s111, s112, s113, s114, s115, s116, s117, s118, s119, s120, s121, s122, s123, s124, s125, s126, s127, s128, s129, s130, s131, s132, s133, s134, s135, s136, s137, s138, s139, s140, s141, s142, s143, s144, s145, s146, s147, s148, s149, s150, s151, s152, s153, s154, s155, s156, s157, s158, s159, s160, s161, s162, s163, s164, s165, s166, s167, s168, s169, s170, s171, s172, s173, s174, s175, s176, s177, s178, s179, s180, s181, s182, s183, s184, s185, s186, s187, s188, s189, s190, s191, s192, s193, s194, s195, s196, s197, s198, s199, s200, s201, s202, s203, s204, s205, s206, s207, s208, s209, s210, s211, s212, s213, s214, s215, s216, s217, s218, s219, s220, s221, s222, s223, s224, s225, s226, s227, s228, s229, s230, s231, s232, s233, s234, s235, s236, s237, s238, s239, s240, s241, s242, s243, s244, s245, s246, s247, s248, s249, s250, s251, s252, s253, s254, s255, s256, s257, s258, s259, s260, s261, s262, s263, s264, s265, s266, s267, s268, s269, s270, s271, s272, s273, s274, s275, s276, s277, s278, s279, s280, s281, s282], []⟩ w := by
 have HEX := Lib.hid hexit
 clear hexit
 dsimp only
 have hwl : overLoop 2 = overLoop 2 := rfl
 conv at hwl => rhs; whnf
 rw [hwl]
 clear hwl
 go_loopg [15, 16] q0 (fun gh qv rv wi => GuessR u0 u1 v1 U V gh qv rv w wi)
 case atStart => exact ⟨q0, r0, Nat.le_refl _, rfl, rfl, hr0, hqr.out, hq0, hlo.out, 0, rfl⟩
 case round =>
  clear hqr hlo hr0 hq0
  obtain ⟨q, r, hqg, rfl, rfl, hr, hqr, hq, hlo, d, rfl⟩ := hrel
  have HQR := Lib.hid hqr; have HLO := Lib.hid hlo
  clear hqr hlo
  have d1 : (w.drewN d).cell? ⟨bv, nv - 1, none⟩ = some (.int .u64 (v1 : Nat)) := c1
  have d2 : (w.drewN d).cell? ⟨bv, nv - 2, none⟩ = some (.int .u64 (v2 : Nat)) := c2
  have d3 : (w.drewN d).cell? ⟨bu, i + nv - 2, none⟩ = some (.int .u64 (u2 : Nat)) := c3
  have HD := Lib.hid d1
  have eB : B = 1000000000 := rfl
  have p0 : (0 : Int) <= (q : Int) * v2 := Int.mul_nonneg (by omega) (by omega)
  have p1 : (q : Int) * v2 <= 1000000001 * 999999999 := by
   have h := Nat.mul_le_mul hq hv2
   have : ((q * v2 : Nat) : Int) <= ((1000000001 * 999999999 : Nat) : Int) := by omega
   simpa using this
  have a1 : IntKind.i64.wrap ((nv : Int) - 2) = (nv : Int) - 2 := IntWalk.i64_in _ (by omega)
  have a2 : ((nv : Int) - 2).toNat = nv - 2 := by omega
  have a3 : (0 : Int) <= (nv : Int) - 2 := by omega
  have a4 : (nv : Int) - 2 < nv := by omega
  have a5 : IntKind.i64.wrap ((i : Int) + nv) = (i : Int) + nv := IntWalk.i64_in _ (by omega)
  have a6 : IntKind.i64.wrap ((i : Int) + nv - 2) = (i : Int) + nv - 2 := IntWalk.i64_in _ (by omega)
  have a7 : ((i : Int) + nv - 2).toNat = i + nv - 2 := by omega
  have a8 : (0 : Int) <= (i : Int) + nv - 2 := by omega
  have a9 : (i : Int) + nv - 2 < lu := by omega
  have a10 : IntKind.u64.wrap ((q : Int) * v2) = (q : Int) * v2 := IntWalk.u64_in _ (by omega)
  have a11 : IntKind.u64.wrap ((r : Int) * 1000000000) = (r : Int) * 1000000000 := IntWalk.u64_in _ (by omega)
  have a12 : IntKind.u64.wrap ((r : Int) * 1000000000 + u2) = (r : Int) * 1000000000 + u2 := IntWalk.u64_in _ (by omega)
  have hcast : ((q * v2 : Nat) : Int) = (q : Int) * v2 := by simp
  have b1 : ((nv : Int) - 1).toNat = nv - 1 := by omega
  by_cases hte : B <= q ∨ r * B + u2 < q * v2
  · have hdec := guess_dec hV1.out hU2.out hUB.out HQR.out hte
    have hq1 : 1 <= q := by
     rcases Nat.eq_zero_or_pos q with h | h
     · subst h; simp at hdec
     · exact h
    have hqr2 : (q - 1) * v1 + (r + v1) = u0 * B + u1 := by
     have h := HQR.out
     obtain ⟨p, rfl⟩ : ∃ p, q = p + 1 := ⟨q - 1, by omega⟩
     rw [Nat.add_mul, Nat.one_mul] at h
     rw [Nat.add_sub_cancel]; omega
    have hlo2 : U < (q - 1 + 1) * V := by rw [Nat.sub_add_cancel hq1]; exact hdec
    have HQ2 := Lib.hid hqr2; have HL2 := Lib.hid hlo2
    have hq1I : (1 : Int) <= q := by omega
    have hEND : B <= r + v1 -> (q - 1) * V < U + V := fun h => guess_end hV1.out hV2.out hU1.out (by omega) hqr2 (by omega) (break_end (by omega) (by omega) h)
    have HEND := Lib.hid hEND
    clear hdec hqr2 hlo2 hEND
    have hways : (B <= q /\ B <= r + v1) ∨ (B <= q /\ r + v1 < B) ∨ (q < B /\ B <= r + v1) ∨ (q < B /\ r + v1 < B) := by omega
    rcases hways with ⟨hge, hbr⟩ | ⟨hge, hbr⟩ | ⟨hge, hbr⟩ | ⟨hge, hbr⟩
    · have g1 : decide ((1000000000 : Int) <= q) = true := by simp; omega
      have g3 : (1000000000 : Int) <= (r : Int) + v1 := by omega
      clear hte hcast p0 p1
      go_wp2_with fail
      go_quiet (fail)
      clear a1 a2 a3 a4 a5 a6 a7 a8 a9 a10 a11 a12 g1 d2 d3
      have d1 : (w.drewN (d + nq)).cell? ⟨bv, nv - 1, none⟩ = some (.int .u64 (v1 : Nat)) := c1
      go_wp2
      refine HEX.out _ _ (q - 1) _ ?_ rfl (HEND.out hbr) HL2.out (by omega)
      unfold GuessX
      repeat apply Exists.intro
      rw [show ((q - 1 : Nat) : Int) = (q : Int) - 1 from by omega]
    · have g1 : decide ((1000000000 : Int) <= q) = true := by simp; omega
      have g3 : decide ((1000000000 : Int) <= (r : Int) + v1) = false := by simp; omega
      clear hte hcast p0 p1
      go_wp2_with fail
      go_quiet (fail)
      clear a1 a2 a3 a4 a5 a6 a7 a8 a9 a10 a11 a12 g1 d2 d3
      have d1 : (w.drewN (d + nq)).cell? ⟨bv, nv - 1, none⟩ = some (.int .u64 (v1 : Nat)) := c1
      go_wp2
      go_roundg (q - 1)
      case measure => omega
      case rel => exact ⟨q - 1, r + v1, Nat.le_refl _, by go_num, by go_num, by omega, HQ2.out, by omega, HL2.out, _, rfl⟩
    · have g1 : decide ((1000000000 : Int) <= q) = false := by simp; omega
      have g2 : decide ((r : Int) * 1000000000 + u2 < (q : Int) * v2) = true := by
       have h : r * B + u2 < q * v2 := by rcases hte with h | h; exact absurd h (by omega); exact h
       rw [eB] at h
       rw [decide_eq_true_iff, <- hcast]; omega
      have g3 : (1000000000 : Int) <= (r : Int) + v1 := by omega
      clear hte hcast p0 p1
      go_wp2_with fail
      go_quiet (fail)
      clear a1 a2 a3 a4 a5 a6 a7 a8 a9 a10 a11 a12 g1 g2 d2 d3
      have d1 : (w.drewN (d + nq)).cell? ⟨bv, nv - 1, none⟩ = some (.int .u64 (v1 : Nat)) := c1
      go_wp2
      refine HEX.out _ _ (q - 1) _ ?_ rfl (HEND.out hbr) HL2.out (by omega)
      unfold GuessX
      repeat apply Exists.intro
      rw [show ((q - 1 : Nat) : Int) = (q : Int) - 1 from by omega]
    · have g1 : decide ((1000000000 : Int) <= q) = false := by simp; omega
      have g2 : decide ((r : Int) * 1000000000 + u2 < (q : Int) * v2) = true := by
       have h : r * B + u2 < q * v2 := by rcases hte with h | h; exact absurd h (by omega); exact h
       rw [eB] at h
       rw [decide_eq_true_iff, <- hcast]; omega
      have g3 : decide ((1000000000 : Int) <= (r : Int) + v1) = false := by simp; omega
      clear hte hcast p0 p1
      go_wp2_with fail
      go_quiet (fail)
      clear a1 a2 a3 a4 a5 a6 a7 a8 a9 a10 a11 a12 g1 g2 d2 d3
      have d1 : (w.drewN (d + nq)).cell? ⟨bv, nv - 1, none⟩ = some (.int .u64 (v1 : Nat)) := c1
      go_wp2
      go_roundg (q - 1)
      case measure => omega
      case rel => exact ⟨q - 1, r + v1, Nat.le_refl _, by go_num, by go_num, by omega, HQ2.out, by omega, HL2.out, _, rfl⟩
  · have hte2 : q < B /\ q * v2 <= r * B + u2 := by
     constructor
     · exact Nat.not_le.1 fun h => hte (.inl h)
     · exact Nat.not_lt.1 fun h => hte (.inr h)
    have g1 : decide ((1000000000 : Int) <= q) = false := by simp; omega
    have g2 : decide ((r : Int) * 1000000000 + u2 < (q : Int) * v2) = false := by
     have h := hte2.2
     rw [eB] at h
     rw [decide_eq_false_iff_not, <- hcast]; omega
    have hge2 := guess_end (q := q) (r := r) hV1.out hV2.out hU1.out (by omega) HQR.out (by omega) hte2.2
    have HG2 := Lib.hid hge2
    have hq9 : q <= 1000000000 := by omega
    clear hge2 hcast hte hte2
    go_wp2_with fail
    go_quiet (fail)
    clear a1 a2 a3 a4 a5 a6 a7 a8 a9 a10 a11 a12 g1 g2 d1 d2 d3
    go_wp2
    refine HEX.out _ _ q _ ?_ (World.drewN_drewN _ _ _) HG2.out HLO.out hq9
    unfold GuessX
    repeat apply Exists.intro
    rfl
end Go.Proofs.YtdpjdifoonfcdaaGreatDoor

namespace Go.Proofs.YtdpjdifoonfcdaaGreatDoor
theorem digits3 {d : List Nat} {m u0 u1 u2 : Nat} (h2 : d[m]? = some u2) (h1 : d[m + 1]? = some u1) (h0 : d[m + 2]? = some u0) :
 val (d.take (m + 3)) = val (d.take m) + B ^ m * (u0 * B * B + u1 * B + u2) := by
 rw [val_take_succ (k := m + 2) h0, val_take_succ (k := m + 1) h1, val_take_succ h2]
 have e1 : B ^ (m + 1) = B ^ m * B := Nat.pow_succ ..
 have e2 : B ^ (m + 2) = B ^ m * B * B := by rw [Nat.pow_succ, Nat.pow_succ]
 rw [e1, e2, Nat.mul_add, Nat.mul_add]
 have e3 : B ^ m * (u0 * B * B) = B ^ m * B * B * u0 := by rw [Nat.mul_assoc u0, Nat.mul_comm u0, <- Nat.mul_assoc, <- Nat.mul_assoc]
 have e4 : B ^ m * (u1 * B) = B ^ m * B * u1 := by rw [Nat.mul_comm u1, <- Nat.mul_assoc]
 rw [e3, e4]; omega
theorem digits2 {d : List Nat} {m v1 v2 : Nat} (h2 : d[m]? = some v2) (h1 : d[m + 1]? = some v1) :
 val (d.take (m + 2)) = val (d.take m) + B ^ m * (v1 * B + v2) := by
 rw [val_take_succ (k := m + 1) h1, val_take_succ h2]
 have e1 : B ^ (m + 1) = B ^ m * B := Nat.pow_succ ..
 have e4 : B ^ m * (v1 * B) = B ^ m * B * v1 := by rw [Nat.mul_comm v1, <- Nat.mul_assoc]
 rw [e1, Nat.mul_add, e4]; omega
theorem take_lt {d : List Nat} (hs : Sm d) (m : Nat) (hm : m <= d.length) : val (d.take m) < B ^ m := by
 have := val_lt (sm_take hs m)
 rwa [List.length_take, Nat.min_eq_left hm] at this
theorem bounds3 {d : List Nat} {m u0 u1 u2 : Nat} (hs : Sm d) (h2 : d[m]? = some u2) (h1 : d[m + 1]? = some u1) (h0 : d[m + 2]? = some u0) :
 (u0 * B * B + u1 * B + u2) * B ^ m <= val (d.take (m + 3)) /\ val (d.take (m + 3)) < (u0 * B * B + u1 * B + u2 + 1) * B ^ m := by
 have h3 := take_lt hs m (by have := (List.getElem?_eq_some_iff.1 h2).1; omega)
 rw [digits3 h2 h1 h0, Nat.mul_comm (B ^ m), Nat.add_mul (u0 * B * B + u1 * B + u2) 1, Nat.one_mul]
 omega
theorem bounds2 {d : List Nat} {m v1 v2 : Nat} (hs : Sm d) (h2 : d[m]? = some v2) (h1 : d[m + 1]? = some v1) :
 (v1 * B + v2) * B ^ m <= val (d.take (m + 2)) /\ val (d.take (m + 2)) < (v1 * B + v2 + 1) * B ^ m := by
 have h3 := take_lt hs m (by have := (List.getElem?_eq_some_iff.1 h2).1; omega)
 rw [digits2 h2 h1, Nat.mul_comm (B ^ m), Nat.add_mul (v1 * B + v2) 1, Nat.one_mul]
 omega
theorem val_take_cons {d : List Nat} {x : Nat} (h : d[0]? = some x) (n : Nat) : val (d.take (n + 1)) = x + B * val ((d.drop 1).take n) := by
 cases d with
 | nil => simp at h
 | cons a r => simp at h; subst h; simp [val]
theorem round_U {ud vd : List Nat} {i m x u0 u1 u2 v1 v2 V : Nat} (hus : Sm ud) (hvs : Sm vd) (hvl : vd.length = m + 2) (hV : val vd = V)
 (hx : ud[i]? = some x) (h2 : ud[i + m]? = some u2) (h1 : ud[i + m + 1]? = some u1) (h0 : ud[i + m + 2]? = some u0) (hv2 : vd[m]? = some v2) (hv1 : vd[m + 1]? = some v1)
 (hH : val ((ud.drop (i + 1)).take (m + 2)) < V) :
 ((u0 * B * B + u1 * B + u2) * B ^ m <= val ((ud.drop i).take (m + 3)) /\ val ((ud.drop i).take (m + 3)) < (u0 * B * B + u1 * B + u2 + 1) * B ^ m) /\
 ((v1 * B + v2) * B ^ m <= V /\ V < (v1 * B + v2 + 1) * B ^ m) /\ val ((ud.drop i).take (m + 3)) < B * V /\ (u0 * B + u1) * B ^ m <= val ((ud.drop (i + 1)).take (m + 2)) := by
 have g2 : (ud.drop i)[m]? = some u2 := by rw [List.getElem?_drop]; exact h2
 have g1 : (ud.drop i)[m + 1]? = some u1 := by rw [List.getElem?_drop]; exact h1
 have g0 : (ud.drop i)[m + 2]? = some u0 := by rw [List.getElem?_drop]; exact h0
 have gx : (ud.drop i)[0]? = some x := by rw [List.getElem?_drop]; exact hx
 have f1 : (ud.drop (i + 1))[m]? = some u1 := by rw [List.getElem?_drop, <- h1]; congr 1; omega
 have f0 : (ud.drop (i + 1))[m + 1]? = some u0 := by rw [List.getElem?_drop, <- h0]; congr 1; omega
 have hb2 := bounds2 hvs hv2 hv1
 rw [List.take_of_length_le (by omega), hV] at hb2
 have hB2 := bounds2 (sm_drop hus (i + 1)) f1 f0
 refine ⟨bounds3 (sm_drop hus i) g2 g1 g0, hb2, ?_, hB2.1⟩
 have hc := val_take_cons gx (m + 2)
 rw [List.drop_drop] at hc
 have hxB : x < B := hus x (List.mem_of_getElem? hx)
 have h5 : B * (val ((ud.drop (i + 1)).take (m + 2)) + 1) <= B * V := Nat.mul_le_mul_left _ hH
 rw [Nat.mul_add, Nat.mul_one] at h5
 rw [show m + 3 = m + 2 + 1 from rfl, hc]; omega
theorem val_three {ud : List Nat} {i n : Nat} (h : i + n <= ud.length) : val ud = val (ud.take i) + B ^ i * (val ((ud.drop i).take n) + B ^ n * val (ud.drop (i + n))) := by
 have h1 := val_take_drop ud i (by omega)
 have h2 := val_take_drop (ud.drop i) n (by rw [List.length_drop]; omega)
 rw [List.drop_drop] at h2
 rw [<- h2]; exact h1
theorem val_new {ud lo r : List Nat} {i n : Nat} (hl : lo.length = n) (hi : i <= ud.length) : val (ud.take i ++ lo ++ r) = val (ud.take i) + B ^ i * (val lo + B ^ n * val r) := by
 rw [List.append_assoc, val_append, val_append, List.length_take, Nat.min_eq_left hi, hl]
structure RoundEnd (As V : Nat) (ud qs : List Nat) (i n lu q : Nat) (nd : List Nat) : Prop where
 len : nd.length = lu
 sm : Sm nd
 dig : q < B
 eq : As = val nd + V * (B ^ i * val (q :: qs))
 rest : val ((nd.drop i).take n) < V
 zero : val (nd.drop (i + n)) = 0
theorem round_end {As V : Nat} {ud qs lo : List Nat} {i n lu q : Nat} (hul : ud.length = lu) (hus : Sm ud) (hin : i + n < lu) (hlo : lo.length = n) (hls : Sm lo) (hA : As = val ud + V * (B ^ (i + 1) * val qs))
 (hz : val (ud.drop (i + 1 + n)) = 0) (hR : val lo < V) (hU : val lo + q * V = val ((ud.drop i).take (n + 1))) (hq : q < B) :
 RoundEnd As V ud qs i n lu q (ud.take i ++ lo ++ (0 :: ud.drop (i + n + 1))) := by
 have h1 := val_three (ud := ud) (i := i) (n := n + 1) (by omega)
 have e0 : i + (n + 1) = i + 1 + n := by omega
 rw [e0, hz, Nat.mul_zero, Nat.add_zero] at h1
 have h2 := val_new (ud := ud) (lo := lo) (r := 0 :: ud.drop (i + n + 1)) (i := i) (n := n) hlo (by omega)
 have e1 : val (0 :: ud.drop (i + n + 1)) = 0 := by
  rw [val_cons, show i + n + 1 = i + 1 + n from by omega, hz]; simp
 simp only [e1, Nat.mul_zero, Nat.add_zero] at h2
 have hlt : (ud.take i).length = i := by rw [List.length_take]; omega
 have hdrop : (ud.take i ++ lo ++ (0 :: ud.drop (i + n + 1))).drop i = lo ++ (0 :: ud.drop (i + n + 1)) := by
  rw [List.append_assoc, List.drop_append_of_le_length (by omega), List.drop_eq_nil_of_le (by omega), List.nil_append]
 refine ⟨?_, ?_, hq, ?_, ?_, ?_⟩
 · rw [List.length_append, List.length_append, hlt, hlo, List.length_cons, List.length_drop]; omega
 · exact sm_append (sm_append (sm_take hus i) hls) (by
    intro d hd
    rcases List.mem_cons.1 hd with h | h
    · rw [h]; exact B_pos
    · exact sm_drop hus _ d h)
 · have e2 : B ^ (i + 1) * val qs = B ^ i * (B * val qs) := by rw [Nat.pow_succ, Nat.mul_assoc]
   have e3 : V * (B ^ i * q) = B ^ i * (q * V) := by rw [Nat.mul_left_comm, Nat.mul_comm V q]
   have e4 : V * (B ^ i * val (q :: qs)) = B ^ i * (q * V) + V * (B ^ (i + 1) * val qs) := by
    rw [val_cons, Nat.mul_add, Nat.mul_add, e3, e2]
   have e5 : B ^ i * val ((ud.drop i).take (n + 1)) = B ^ i * val lo + B ^ i * (q * V) := by rw [<- hU, Nat.mul_add]
   rw [hA, e4, h2, h1, e5]; omega
 · rw [hdrop, List.take_append_of_le_length (by omega), List.take_of_length_le (by omega)]; exact hR
 · rw [List.append_assoc, <- List.append_assoc, List.drop_append_of_le_length (by rw [List.length_append]; omega), List.drop_eq_nil_of_le (by rw [List.length_append]; omega), List.nil_append]; exact e1
theorem sub_fits {U V q C u0 n low lo : Nat} (h : lo + q * V = low + C * B ^ n) (hU : U = low + B ^ n * u0) (hC : C <= u0) (h2 : U < (q + 1) * V) (hV : V < B ^ n) : u0 - C = 0 /\ lo < V /\ lo + q * V = U := by
 obtain ⟨k, rfl⟩ : ∃ k, u0 = C + k := ⟨u0 - C, by omega⟩
 rw [Nat.mul_add, Nat.mul_comm (B ^ n) C] at hU
 rw [Nat.add_mul, Nat.one_mul] at h2
 have hk : k = 0 := by
  rcases Nat.eq_zero_or_pos k with h0 | h0
  · exact h0
  · have := Nat.mul_le_mul_left (B ^ n) h0
    rw [Nat.mul_one] at this; omega
 subst hk
 rw [Nat.mul_zero] at hU
 omega
theorem sub_over {U V q C u0 n low lo : Nat} (h : lo + q * V = low + C * B ^ n) (hU : U = low + B ^ n * u0) (hC : u0 < C) (h1 : q * V < U + V) (hV : V < B ^ n) (hlo : lo < B ^ n) : C = u0 + 1 /\ lo + q * V = U + B ^ n := by
 obtain ⟨k, rfl⟩ : ∃ k, C = u0 + 1 + k := ⟨C - u0 - 1, by omega⟩
 rw [Nat.add_mul, Nat.add_mul, Nat.one_mul, Nat.mul_comm u0] at h
 have hk : k = 0 := by
  rcases Nat.eq_zero_or_pos k with h0 | h0
  · exact h0
  · have := Nat.mul_le_mul_right (B ^ n) h0
    rw [Nat.one_mul] at this; omega
 subst hk
 rw [Nat.zero_mul] at h
 omega
theorem add_fits {U V q n lo lo2 C2 : Nat} (h : lo + q * V = U + B ^ n) (ha : lo2 + C2 * B ^ n = lo + V) (hC2 : C2 <= 1) (hlo2 : lo2 < B ^ n) (hlo : lo < B ^ n) (h1 : q * V < U + V) : C2 = 1 /\ 1 <= q /\ lo2 < V /\ lo2 + (q - 1) * V = U := by
 have hq : 1 <= q := by
  rcases Nat.eq_zero_or_pos q with h0 | h0
  · subst h0; rw [Nat.zero_mul] at h; omega
  · exact h0
 obtain ⟨p, rfl⟩ : ∃ p, q = p + 1 := ⟨q - 1, by omega⟩
 rw [Nat.add_mul, Nat.one_mul] at h h1
 rw [Nat.add_sub_cancel]
 have hc : C2 = 1 := by
  rcases Nat.eq_zero_or_pos C2 with h0 | h0
  · subst h0; rw [Nat.zero_mul] at ha; omega
  · omega
 subst hc
 rw [Nat.one_mul] at ha
 omega
end Go.Proofs.YtdpjdifoonfcdaaGreatDoor

namespace Go.Proofs.YtdpjdifoonfcdaaGreatDoor
theorem dig_len_lt {n k : Nat} (h : n < B ^ k) : (dig n).length <= k := by
 apply Nat.le_of_not_lt
 intro hc
 have hn : n ≠ 0 := by rintro rfl; simp [dig_zero] at hc
 have h1 := pow_len_le hn
 have h2 : B ^ k <= B ^ ((dig n).length - 1) := Nat.pow_le_pow_right B_pos (by omega)
 omega
theorem top_digit {n m t : Nat} (hl : (dig n).length = m + 1) (ht : (dig n)[m]? = some t) : 1 <= t /\ t < B /\ B ^ m * t <= n /\ n < B ^ m * (t + 1) := by
 have h1 := val_take_succ ht
 rw [List.take_of_length_le (by omega), val_dig] at h1
 have h2 := take_lt (sm_dig n) m (by omega)
 have h3 : t < B := sm_dig n t (List.mem_of_getElem? ht)
 have h4 : t ≠ 0 := by
  rintro rfl
  apply last_dig n
  rw [List.getLast?_eq_getElem?, hl, Nat.add_sub_cancel]; exact ht
 rw [Nat.mul_add, Nat.mul_one]
 exact ⟨by omega, h3, by omega, by omega⟩
theorem scale_bd {t : Nat} (h1 : 1 <= t) (h2 : t < B) : 1 <= B / (t + 1) /\ B / (t + 1) < B /\ B / (t + 1) * (t + 1) <= B := by
 refine ⟨?_, ?_, Nat.div_mul_le_self _ _⟩
 · rw [Nat.le_div_iff_mul_le (by omega)]; omega
 · exact Nat.div_lt_self B_pos (by omega)
theorem scaled_len {b m t : Nat} (hl : (dig b).length = m + 1) (ht : (dig b)[m]? = some t) : (dig (b * (B / (t + 1)))).length = m + 1 := by
 obtain ⟨h1, h2, h3, h4⟩ := top_digit hl ht
 obtain ⟨s1, s2, s3⟩ := scale_bd h1 h2
 generalize B / (t + 1) = s at *
 apply Nat.le_antisymm
 · apply dig_len_lt
   have h5 : b * s < B ^ m * (t + 1) * s := Nat.mul_lt_mul_of_pos_right h4 s1
   have h6 : B ^ m * (t + 1) * s <= B ^ m * B := by
    rw [Nat.mul_assoc, Nat.mul_comm (t + 1)]; exact Nat.mul_le_mul_left _ s3
   rw [Nat.pow_succ]; omega
 · rw [<- hl]; exact dig_len_mono (Nat.le_mul_of_pos_right b s1)
theorem scaled_top {b m t v : Nat} (hl : (dig b).length = m + 1) (ht : (dig b)[m]? = some t) (hv : (dig (b * (B / (t + 1))))[m]? = some v) : 500000000 <= v := by
 obtain ⟨h1, h2, h3, h4⟩ := top_digit hl ht
 obtain ⟨_, _, _, h8⟩ := top_digit (scaled_len hl ht) hv
 have h5 := scale_half h1 h2
 generalize B / (t + 1) = s at *
 apply Classical.byContradiction
 intro hc
 have h6 : B ^ m * (v + 1) <= B ^ m * (s * t) := Nat.mul_le_mul_left _ (by omega)
 have h7 : B ^ m * t * s <= b * s := Nat.mul_le_mul_right s h3
 rw [Nat.mul_assoc, Nat.mul_comm t s] at h7
 omega
theorem scaled_up {a s k : Nat} (hl : (dig a).length = k) (hs : s <= B) : (dig (a * s)).length <= k + 1 := by
 apply dig_len_lt
 have h1 := lt_pow_len a
 rw [hl] at h1
 rcases Nat.eq_zero_or_pos s with h0 | h0
 · subst h0; rw [Nat.mul_zero]; exact Nat.pow_pos B_pos
 · have h2 : a * s < B ^ k * s := Nat.mul_lt_mul_of_pos_right h1 h0
   have h3 : B ^ k * s <= B ^ k * B := Nat.mul_le_mul_left _ hs
   rw [Nat.pow_succ]; omega
theorem start_rest {a b s j m : Nat} {ud : List Nat} (hb : (dig b).length = m + 1) (ha : (dig a).length = j + m) (hs : 1 <= s) (hu : val ud = a * s) (hul : ud.length = j + (m + 1)) : val ((ud.drop j).take (m + 1)) < b * s := by
 rw [List.take_of_length_le (by rw [List.length_drop]; omega)]
 have h1 := val_take_drop ud j (by omega)
 have h2 := lt_pow_len a
 rw [ha, Nat.pow_add] at h2
 have hb0 : b ≠ 0 := by rintro rfl; simp [dig_zero] at hb
 have h3 := pow_len_le hb0
 rw [hb, Nat.add_sub_cancel] at h3
 have h4 : B ^ j * B ^ m <= B ^ j * b := Nat.mul_le_mul_left _ h3
 have h5 : a * s < B ^ j * b * s := Nat.mul_lt_mul_of_pos_right (by omega) hs
 have h6 : B ^ j * val (ud.drop j) < B ^ j * (b * s) := by rw [<- Nat.mul_assoc]; omega
 exact Nat.lt_of_mul_lt_mul_left h6
theorem end_all {a b s r q : Nat} (h : a * s = r + b * s * q) (hr : r < b * s) (hs : 1 <= s) : q = a / b /\ r / s = a % b := by
 have hb : 0 < b := by
  rcases Nat.eq_zero_or_pos b with h0 | h0
  · subst h0; rw [Nat.zero_mul] at hr; omega
  · exact h0
 have h1 : (a * s) / (b * s) = a / b := Nat.mul_div_mul_right a b hs
 have h2 : (a * s) % (b * s) = a % b * s := Nat.mul_mod_mul_right s a b
 rw [h, Nat.add_mul_div_left _ _ (by omega), Nat.div_eq_of_lt hr, Nat.zero_add] at h1
 rw [h, Nat.add_mul_mod_self_left, Nat.mod_eq_of_lt hr] at h2
 exact ⟨h1, by rw [h2, Nat.mul_div_cancel _ hs]⟩
end Go.Proofs.YtdpjdifoonfcdaaGreatDoor
