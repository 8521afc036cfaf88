/- Parts of a proof, in build order: Z5, Zh, Z6, Zi, So, Z7. -/
import Derived.Test.YtahnadhlagabgaaGreatDoorKt11

namespace Go.Proofs.YtahnadhlagabgaaGreatDoor.Z4
open Go.RowKit
theorem val_zeros (n : Nat) : val (List.replicate n 0) = 0 := by
 rw [val_eq_zero]; intro d hd; exact (List.mem_replicate.1 hd).2
theorem sm_zeros (n : Nat) : Sm (List.replicate n 0) := by intro d hd; rw [(List.mem_replicate.1 hd).2]; exact B_pos
theorem val_set : ∀ (l : List Nat) (j o d : Nat), l[j]? = some o -> val (l.set j d) + B ^ j * o = val l + B ^ j * d
 | [], j, o, d, h => by simp at h
 | x :: l, 0, o, d, h => by
   simp at h; subst h
   simp only [List.set_cons_zero, val, Nat.pow_zero, Nat.one_mul]; omega
 | x :: l, j + 1, o, d, h => by
   have := val_set l j o d (by simpa using h)
   simp only [List.set_cons_succ, val, Nat.pow_succ]
   have h2 : B * (val (l.set j d) + B ^ j * o) = B * (val l + B ^ j * d) := by rw [this]
   rw [Nat.mul_add, Nat.mul_add] at h2
   rw [Nat.mul_comm (B ^ j) B, Nat.mul_assoc, Nat.mul_assoc]
   omega
theorem sm_set {l : List Nat} (h : Sm l) (j : Nat) {d : Nat} (hd : d < B) : Sm (l.set j d) := by
 intro x hx
 rcases List.mem_or_eq_of_mem_set hx with h1 | h1
 · exact h x h1
 · rw [h1]; exact hd
theorem zs_set (l : List Nat) (j d : Nat) : (zs l).set j (.int .i64 (d : Nat)) = zs (l.set j d) := by
 unfold zs; rw [List.map_set]
theorem zs_zeros (n : Nat) : (madeCells (Value.int .i64 0).cells (n * 1)).toList = zs (List.replicate n 0) := by
 rw [show (Value.int .i64 0).cells = #[Value.int .i64 0] from rfl, toList_madeCells_one]; simp [zs]
theorem mul_step {lo l2 : List Nat} {i q C o x y P : Nat} (ho : lo[i + q]? = some o) (hy : l2.getD q 0 = y) (h : val lo + C * B ^ (i + q) = P + B ^ i * (x * val (l2.take q))) :
 val (lo.set (i + q) ((C + o + x * y) % B)) + (C + o + x * y) / B * B ^ (i + (q + 1)) = P + B ^ i * (x * val (l2.take (q + 1))) := by
 have h1 := val_set lo (i + q) o ((C + o + x * y) % B) ho
 rw [val_take_succ, hy, Nat.mul_add x, Nat.mul_add, <- Nat.add_assoc i q 1, Nat.pow_succ]
 have h2 : B ^ i * (x * (B ^ q * y)) = B ^ (i + q) * (x * y) := by
  rw [Nat.pow_add, Nat.mul_assoc, Nat.mul_left_comm x]
 have h3 : (C + o + x * y) / B * (B ^ (i + q) * B) = B ^ (i + q) * (B * ((C + o + x * y) / B)) := by
  rw [Nat.mul_comm ((C + o + x * y) / B), Nat.mul_assoc]
 have h4 : B ^ (i + q) * (B * ((C + o + x * y) / B)) + B ^ (i + q) * ((C + o + x * y) % B) = B ^ (i + q) * C + B ^ (i + q) * o + B ^ (i + q) * (x * y) := by
  rw [<- Nat.mul_add, Nat.div_add_mod, Nat.mul_add, Nat.mul_add]
 rw [Nat.mul_comm C] at h
 omega
theorem mul_room {lo l1 l2 : List Nat} {i q C x L : Nat} (h1 : Sm l1) (h2 : Sm l2) (hx : l1[i]? = some x) (hL : L = l1.length + l2.length) (h : val lo + C * B ^ (i + q) = val (l1.take i) * val l2 + B ^ i * (x * val (l2.take q))) (hq : l2.length <= q) (hiq : L <= i + q) : C = 0 := by
 rcases Nat.eq_zero_or_pos C with h0 | h0
 · exact h0
 · exfalso
   rw [List.take_of_length_le hq] at h
   have hi := (List.getElem?_eq_some_iff.1 hx).1
   have e1 : val (l1.take i) * val l2 + B ^ i * (x * val l2) = val (l1.take (i + 1)) * val l2 := by
    rw [take_get hx, val_snoc, List.length_take, Nat.min_eq_left (by omega), Nat.add_mul, Nat.mul_assoc]
   rw [e1] at h
   have e2 : val (l1.take (i + 1)) < B ^ (i + 1) := by
    have := val_lt (xs := l1.take (i + 1)) (fun d hd => h1 d (List.mem_of_mem_take hd))
    rwa [List.length_take, Nat.min_eq_left (by omega)] at this
   have e3 := val_lt h2
   have e4 : val (l1.take (i + 1)) * val l2 <= B ^ (i + 1) * val l2 := Nat.mul_le_mul_right _ (by omega)
   have hp : 0 < B ^ (i + 1) := Nat.pow_pos B_pos
   have e5 : B ^ (i + 1) * val l2 < B ^ (i + 1) * B ^ l2.length := Nat.mul_lt_mul_of_pos_left e3 hp
   have e6 : B ^ (i + 1) * B ^ l2.length <= B ^ (i + q) := by rw [<- Nat.pow_add]; exact Nat.pow_le_pow_right B_pos (by omega)
   have e7 : 1 * B ^ (i + q) <= C * B ^ (i + q) := Nat.mul_le_mul_right _ h0
   omega
theorem mul_row {lo l1 l2 : List Nat} {i q x : Nat} (hx : l1[i]? = some x) (hq : l2.length <= q) (h : val lo + 0 * B ^ (i + q) = val (l1.take i) * val l2 + B ^ i * (x * val (l2.take q))) : val lo = val (l1.take (i + 1)) * val l2 := by
 have hi := (List.getElem?_eq_some_iff.1 hx).1
 rw [List.take_of_length_le hq] at h
 rw [take_get hx, val_snoc, List.length_take, Nat.min_eq_left (by omega), Nat.add_mul, Nat.mul_assoc]
 omega
theorem boxes3 {w w1 : World} {A1 A2 A3 : Array Value} {T1 T2 T3 : TypeId} {B : Nat} (hb : Below B (((w.alloc (.cells A1 T1)).alloc (.cells A2 T2)).alloc (.cells A3 T3)) w1) (hB : w.heap.size + 2 < B) :
 (∀ i, w1.cell? ⟨w.heap.size, i, none⟩ = A1[i]?) /\ (∀ i, w1.cell? ⟨w.heap.size + 1, i, none⟩ = A2[i]?) /\ (∀ i, w1.cell? ⟨w.heap.size + 2, i, none⟩ = A3[i]?) /\ (∀ i, w1.frozen? ⟨w.heap.size + 2, i, none⟩ = false) := by
 refine ⟨fun i => ?_, fun i => ?_, fun i => ?_, fun i => ?_⟩
 · rw [hb.cell (p := ⟨w.heap.size, i, none⟩) (show w.heap.size < B by omega), World.cell?_alloc_old _ _ _ (by simp; omega), World.cell?_alloc_old _ _ _ (by simp)]; simp
 · rw [hb.cell (p := ⟨w.heap.size + 1, i, none⟩) (show w.heap.size + 1 < B by omega)]
   have := box_keep (w := w.alloc (.cells A1 T1)) (B := w.heap.size + 3) (Below.refl _ ((((w.alloc (.cells A1 T1)).alloc (.cells A2 T2)))) ) (by simp) i
   rw [World.cell?_alloc_old _ _ _ (by simp)]
   rw [World.size_alloc] at this
   exact this
 · have := box_keep (w := (w.alloc (.cells A1 T1)).alloc (.cells A2 T2)) hb (by simp; omega) i
   simpa using this
 · have := box_free (w := (w.alloc (.cells A1 T1)).alloc (.cells A2 T2)) hb (by simp; omega) i
   simpa using this
theorem dig_take : ∀ (n : Nat) (l : List Nat), l.length = n -> Sm l -> dig (val l) = l.take (dig (val l)).length := by
 intro n
 induction n with
 | zero => intro l hl _; rw [List.length_eq_zero_iff.1 hl]; simp [val, dig_zero]
 | succ n ih =>
   intro l hl hs
   by_cases h : l.getLast? = some 0
   · obtain ⟨l', rfl⟩ : ∃ l', l = l' ++ [0] := by
      rcases List.eq_nil_or_concat l with rfl | ⟨l', b, rfl⟩
      · simp at hl
      · simp at h; exact ⟨l', by simp [h]⟩
     have hs' : Sm l' := fun d hd => hs d (by simp [hd])
     have hv : val (l' ++ [0]) = val l' := by rw [val_snoc]; simp
     have h1 := ih l' (by simpa using hl) hs'
     have h2 := dig_len_val hs'
     rw [hv, List.take_append_of_le_length h2]; exact h1
   · rw [dig_val hs h, List.take_length]
theorem strip_cells {w : World} {ao : Option Addr} (l : List Nat) (h : Cells w ao (zs l)) (hs : Sm l) : Cells w ao (zs (dig (val l))) := by
 have h1 := dig_take _ l rfl hs
 rw [h1, zs, List.map_take]
 exact h.take _
theorem mul_dig {x y : Nat} (hx : x <= 9999) (hy : y <= 9999) : x * y <= 99980001 := Nat.mul_le_mul hx hy
theorem carry_le {n : Nat} (h : n <= 99999999) : n / B <= 9999 := by simp only [B]; omega
set_option maxRecDepth 100000 in
set_option maxHeartbeats 4000000 in
theorem zMul_lists (s1 s2 : Bool) (aa ab : Option Addr) (l1 l2 : List Nat) (ca cb : Nat) (w : World) (ha : Cells w aa (zs l1)) (hb : Cells w ab (zs l2)) (h1 : Sm l1) (h2 : Sm l2) (hl : l1.length + l2.length <= 1099511627776) :
 Calls Tryz.prog 121 #[.agg #[.bool s1, .slice aa l1.length ca], .agg #[.bool s2, .slice ab l2.length cb]] w fun e w' => (∃ a c, e = .returned (.agg #[.bool ((s1 != s2) && decide (0 < (dig (val l1 * val l2)).length)), .slice a (dig (val l1 * val l2)).length c]) /\ Cells w' a (zs (dig (val l1 * val l2))) /\ (dig (val l1 * val l2)).length <= c /\ c <= 9223372036854775807) /\ Below w.heap.size w w' := by
 obtain ⟨i0, hi, hz0, hz1, hz2⟩ := info_parts Tryz.infoInt
 have HA := hG ha; have HB := hG hb; have H1 := hG h1; have H2 := hG h2
 clear ha hb h1 h2
 have hbw : Below w.heap.size w (((w.alloc (.cells #[.bool s1, .slice aa l1.length ca] 127)).alloc (.cells #[.bool s2, .slice ab l2.length cb] 127)).alloc (.cells #[.bool false, .slice none 0 0] 127)) := (((Below.refl w.heap.size w).alloc lc _).alloc (by simp) _).alloc (by simp; omega) _
 have HBW := hG hbw; clear hbw
 go_enter Tryz.func121, Tryz.ntmps121
 go_wp2_with (at_make; refine wpList_make_full _ rfl _ _ 43 rfl (w.heap.size + 3) 3 i0 (.int .i64 0) 1 Tryz.underlying43 hi hz0 hz1 .i64 .i64 _ _ (l1.length + l2.length) (by congr 1) (by congr 1) (by omega) (by omega) (by rw [hz2]; omega) (by unfold maxLen; omega) (by simp) ?_; intro w4 hown4 hgrow4)
 rw [zs_zeros] at hown4
 have hb4 : Below (w.heap.size + 3) (((w.alloc (.cells #[.bool s1, .slice aa l1.length ca] 127)).alloc (.cells #[.bool s2, .slice ab l2.length cb] 127)).alloc (.cells #[.bool false, .slice none 0 0] 127)) w4 := (Below.refl (w.heap.size + 3) (((w.alloc (.cells #[.bool s1, .slice aa l1.length ca] 127)).alloc (.cells #[.bool s2, .slice ab l2.length cb] 127)).alloc (.cells #[.bool false, .slice none 0 0] 127))).grown hgrow4 (by simp) (fun _ h => by cases h)
 rw [show (((w.alloc (.cells #[.bool s1, .slice aa l1.length ca] 127)).alloc (.cells #[.bool s2, .slice ab l2.length cb] 127)).alloc (.cells #[.bool false, .slice none 0 0] 127)).heap.size = w.heap.size + 3 from by simp] at hown4
 have HO4 := hG hown4; have HB4 := hG hb4
 clear hown4 hb4 hgrow4
 go_wp2
 go_loopw [6] (fun iv wr => ∃ (i : Nat) (lo : List Nat), i <= l1.length /\ iv = .int .i64 i /\ lo.length = l1.length + l2.length /\ Sm lo /\ val lo = val (l1.take i) * val l2 /\ wr.ownsRow (w.heap.size + 3) 3 1 (.slice (some ⟨w.heap.size + 3, 0, none⟩) (l1.length + l2.length) (l1.length + l2.length)) (l1.length + l2.length) (zs lo) /\ Below (w.heap.size + 3) (((w.alloc (.cells #[.bool s1, .slice aa l1.length ca] 127)).alloc (.cells #[.bool s2, .slice ab l2.length cb] 127)).alloc (.cells #[.bool false, .slice none 0 0] 127)) wr) (fun iv _ => l1.length - (intOf iv).toNat)
 case atStart => exact ⟨0, List.replicate (l1.length + l2.length) 0, Nat.zero_le _, rfl, by simp, sm_zeros _, by rw [val_zeros]; simp [val], HO4.out, HB4.out⟩
 case round =>
  clear HO4 HB4
  obtain ⟨i, lo, hi9, rfl, hlo, hsm, hval, hown, hbr⟩ := hrel
  have HLO := hG hlo; have HSM := hG hsm; have HVL := hG hval; have HO := hG hown
  clear hlo hsm hval hown
  obtain ⟨q0, q1, q2, f2⟩ := boxes3 hbr (by omega)
  have r0 := q0 0
  have r1 := q1 0
  have q0 := q0 1
  have q1 := q1 1
  simp only [List.getElem?_toArray, List.getElem?_cons_succ, List.getElem?_cons_zero] at q0 q1 r0 r1
  by_cases hlt : i < l1.length
  · obtain ⟨x, hx⟩ := get_of_lt hlt
    have hxB := sm_get H1.out hx
    obtain ⟨b1, o1, rfl⟩ := HA.out.addr (zs_ne (by omega))
    have i1 : (i : Int) < l1.length := by omega
    have HX := hG hx; clear hx q2 f2 r0 r1
    go_wp2
    clear q0 q1
    go_loopw [7, 8] (fun cv kv wi => ∃ (q C : Nat) (lo : List Nat), i + q <= l1.length + l2.length /\ kv = .int .i64 q /\ cv = .int .i64 C /\ C <= 9999 /\ lo.length = l1.length + l2.length /\ Sm lo /\ val lo + C * B ^ (i + q) = val (l1.take i) * val l2 + B ^ i * (x * val (l2.take q)) /\ wi.ownsRow (w.heap.size + 3) 3 1 (.slice (some ⟨w.heap.size + 3, 0, none⟩) (l1.length + l2.length) (l1.length + l2.length)) (l1.length + l2.length) (zs lo) /\ Below (w.heap.size + 3) (((w.alloc (.cells #[.bool s1, .slice (some ⟨b1, o1, none⟩) l1.length ca] 127)).alloc (.cells #[.bool s2, .slice ab l2.length cb] 127)).alloc (.cells #[.bool false, .slice none 0 0] 127)) wi) (fun _ kv _ => l1.length + l2.length - (intOf kv).toNat)
    case atStart => exact ⟨0, 0, lo, by omega, rfl, rfl, by omega, HLO.out, HSM.out, by rw [HVL.out]; simp [val], HO.out, hbr⟩
    case round =>
     clear hbr HO HLO HSM HVL
     obtain ⟨q, C, lo, hiq, rfl, rfl, hC, hlo, hsm, hval, hown, hbi⟩ := hrel
     have HLO := hG hlo; have HSM := hG hsm; have HVL := hG hval
     obtain ⟨q0, q1, -, -⟩ := boxes3 hbi (by omega)
     have q0 := q0 1
     have q1 := q1 1
     simp only [List.getElem?_toArray, List.getElem?_cons_succ, List.getElem?_cons_zero] at q0 q1
     have j2 : (0 : Int) <= (i : Int) + q := by omega
     have j4 : ((i : Int) + q).toNat = i + q := by omega
     have j5 : IntKind.i64.wrap ((i : Int) + q) = (i : Int) + q := IntWalk.i64_in _ (by omega)
     have j6 : IntKind.i64.wrap ((q : Int) + 1) = (q : Int) + 1 := IntWalk.i64_in _ (by omega)
     by_cases hlt2 : q < l2.length
     · obtain ⟨y, hy⟩ := get_of_lt hlt2
       have hyB := sm_get H2.out hy
       have hyd : l2.getD q 0 = y := by simp [List.getD, hy]
       obtain ⟨b2, o2, rfl⟩ := HB.out.addr (zs_ne (by omega))
       have hbwi := HBW.out.trans (hbi.mono (by omega))
       have c1 := zcell (HA.out.below hbwi lc) HX.out
       have c2 := zcell (HB.out.below hbwi lc) hy
       obtain ⟨o, ho⟩ := get_of_lt (show i + q < lo.length by omega)
       have hoB := sm_get hsm ho
       have hxy := mul_dig hxB hyB
       have p0 : (0 : Int) <= (x : Int) * y := Int.mul_nonneg (by omega) (by omega)
       have p1 : (x : Int) * y <= 99980001 := by
        have : ((x * y : Nat) : Int) <= 99980001 := by omega
        simpa using this
       have HVN := hG (mul_step (y := y) ho hyd hval)
       have j1 : (q : Int) < l2.length := by omega
       have j3 : (i : Int) + q < ((l1.length + l2.length : Nat) : Int) := by omega
       have c3 := hown.cellAt (i + q) (by omega)
       rw [zs_get ho] at c3
       have c4 := hown.frozenAt (i + q)
       have hsto := (hown.stored (i + q) (.int .i64 ((C + o + x * y) % B : Nat))).1
       rw [zs_set] at hsto
       have hb2 := hbi.setCell (p := ⟨w.heap.size + 3, i + q, none⟩) lc (.int .i64 ((C + o + x * y) % B : Nat))
       have hcl : (C + o + x * y) / B <= 9999 := carry_le (by omega)
       have E1 := hG (show (((C : Int) + (o : Int) + (x : Int) * y) % 10000) = (((C + o + x * y) % B : Nat) : Int) from by simp [B])
       have E2 := hG (show (((C : Int) + (o : Int) + (x : Int) * y) / 10000) = (((C + o + x * y) / B : Nat) : Int) from by simp [B])
       have HS2 := hG (sm_set hsm (i + q) (Nat.mod_lt (C + o + x * y) B_pos))
       have HST := hG hsto; have HB2 := hG hb2
       have HCL := hG hcl
       clear ho hyd hval hsm hown hsto hb2 hcl
       go_wp2_with fail
       go_quiet (fail)
       go_wp2
       go_roundw
       case rel => exact ⟨q + 1, (C + o + x * y) / B, lo.set (i + q) ((C + o + x * y) % B), by omega, by go_num, by rw [E2.out], HCL.out, by rw [List.length_set]; exact HLO.out, HS2.out, HVN.out, by rw [E1.out]; exact HST.out, by rw [E1.out]; exact (bel_drewN hbi _).setCell lc _⟩
       case measure => simp [intOf]; omega
     · have hyd : l2.getD q 0 = 0 := by simp [List.getD, List.getElem?_eq_none (show l2.length <= q by omega)]
       have j1 : ¬ (q : Int) < l2.length := by omega
       by_cases hC0 : C = 0
       · subst hC0
         have hrow := mul_row HX.out (by omega) hval
         have HRW := hG hrow; have HO := hG hown
         clear hown hrow hval hsm hlo hyd
         go_wp2
         go_roundw
         case rel => exact ⟨i + 1, lo, by omega, by go_num, HLO.out, HSM.out, HRW.out, HO.out, hbi⟩
         case measure => simp [intOf]; omega
       · have hiq2 : i + q < l1.length + l2.length := by
          rcases Nat.lt_or_ge (i + q) (l1.length + l2.length) with h | h
          · exact h
          · exact absurd (mul_room H1.out H2.out HX.out rfl hval (by omega) h) hC0
         have hCp : (0 : Int) < C := by omega
         obtain ⟨o, ho⟩ := get_of_lt (show i + q < lo.length by omega)
         have hoB := sm_get hsm ho
         have HVN := hG (mul_step (y := 0) ho hyd hval)
         rw [Nat.mul_zero, Nat.add_zero] at HVN
         have j3 : (i : Int) + q < ((l1.length + l2.length : Nat) : Int) := by omega
         have c3 := hown.cellAt (i + q) (by omega)
         rw [zs_get ho] at c3
         have c4 := hown.frozenAt (i + q)
         have hsto := (hown.stored (i + q) (.int .i64 ((C + o) % B : Nat))).1
         rw [zs_set] at hsto
         have hb2 := hbi.setCell (p := ⟨w.heap.size + 3, i + q, none⟩) lc (.int .i64 ((C + o) % B : Nat))
         have hcl : (C + o) / B <= 9999 := carry_le (by omega)
         have E1 := hG (show (((C : Int) + (o : Int)) % 10000) = (((C + o) % B : Nat) : Int) from by simp [B])
         have E2 := hG (show (((C : Int) + (o : Int)) / 10000) = (((C + o) / B : Nat) : Int) from by simp [B])
         have HS2 := hG (sm_set hsm (i + q) (Nat.mod_lt (C + o) B_pos))
         have HST := hG hsto; have HB2 := hG hb2
         have HCL := hG hcl
         clear ho hyd hval hsm hown hsto hb2 hcl
         go_wp2_with fail
         go_roundw
         case rel => exact ⟨q + 1, (C + o) / B, lo.set (i + q) ((C + o) % B), by omega, by go_num, by rw [E2.out], HCL.out, by rw [List.length_set]; exact HLO.out, HS2.out, HVN.out, by rw [E1.out]; exact HST.out, by rw [E1.out]; exact HB2.out⟩
         case measure => simp [intOf]; omega
  · obtain rfl : i = l1.length := by omega
    have hv := HVL.out
    rw [List.take_length] at hv
    obtain ⟨g, c, hge, hcs, hc1, hc2⟩ := own_cap HO.out
    simp only [Value.slice.injEq, true_and] at hge
    obtain ⟨rfl, rfl⟩ := hge
    have hll := HLO.out
    have hmd := made_any (!(s1 == s2)) (some ⟨w.heap.size + 3, 0, none⟩) lo (l1.length + l2.length) wr hcs HSM.out (by omega) (by omega) (by omega)
    have hst := fun W (h : Cells W (some ⟨w.heap.size + 3, 0, none⟩) (zs lo)) => strip_cells lo h HSM.out
    have hdl := dig_len_val HSM.out
    rw [hv] at hmd hst hdl
    rw [hll] at hmd hdl
    have HMD := hG hmd; have HST := hG hst; have HCS := hG hcs
    clear hmd hst hcs hv q2 f2
    go_wp2_with fail
    refine HMD.out.mono ?_
    rintro e w5 ⟨rfl, hb5⟩
    have hsz := hbr.size
    simp only [World.size_alloc] at hsz
    have hbx := hbr.trans (hb5.mono (by omega))
    obtain ⟨-, -, q2, f2⟩ := boxes3 hbx (by omega)
    have q20 := q2 0
    have q21 := q2 1
    simp only [List.getElem?_toArray, List.getElem?_cons_succ, List.getElem?_cons_zero] at q20 q21
    have f0 := f2 0
    have f1 := f2 1
    have HC5 := hG (HST.out w5 (HCS.out.below hb5 lc))
    have hbw := HBW.out.trans (hbx.mono (by omega))
    go_wp2
    refine bodyPost_ret (v := .agg #[.bool ((!(s1 == s2)) && decide (0 < (dig (val l1 * val l2)).length)), .slice (some ⟨w.heap.size + 3, 0, none⟩) (dig (val l1 * val l2)).length (l1.length + l2.length)]) (by simp [results, Tryz.results121, go_sem, q20, q21]) rfl ?_
    exact ⟨⟨_, _, rfl, zbox HC5.out q20 q21, by omega, by omega⟩, (hbw.setCell (by show w.heap.size <= w.heap.size + 1 + 1; omega) _).setCell (by show w.heap.size <= w.heap.size + 1 + 1; omega) _⟩
theorem MV.cases {w : World} {v : Value} {n : Nat} (h : MV w v n) : ∃ a c, v = .slice a (dig n).length c := by
 obtain ⟨a, c, h1, _⟩ := h; exact ⟨a, c, h1⟩
theorem zMul_any (va vb : Value) (m n : Int) (w : World) (ha : ZV w va m) (hb : ZV w vb n) (hl : (dig m.natAbs).length + (dig n.natAbs).length <= 1099511627776) :
 Calls Tryz.prog 121 #[va, vb] w fun e w' => (∃ v, e = .returned v /\ ZV w' v (m * n)) /\ Below w.heap.size w w' := by
 obtain ⟨aa, ca, rfl, ha, hac, hac2⟩ := ha
 obtain ⟨ab, cb, rfl, hb, hbc, hbc2⟩ := hb
 refine (zMul_lists _ _ aa ab _ _ ca cb w ha hb (sm_dig _) (sm_dig _) hl).mono ?_
 rintro e w1 ⟨⟨a, c, rfl, h1, h2, h3⟩, hb1⟩
 rw [val_dig, val_dig, <- Int.natAbs_mul] at h1 h2 ⊢
 refine ⟨⟨_, rfl, a, c, ?_, h1, h2, h3⟩, hb1⟩
 have hs : ((decide (m < 0) != decide (n < 0)) && decide (0 < (dig (m * n).natAbs).length)) = decide (m * n < 0) := by
  rcases (show m < 0 ∨ m = 0 ∨ 0 < m from by omega) with h4 | h4 | h4
  · rcases (show n < 0 ∨ n = 0 ∨ 0 < n from by omega) with h5 | h5 | h5
    · have := Int.mul_pos_of_neg_of_neg h4 h5
      rw [decide_eq_true h4, decide_eq_true h5, decide_eq_false (show ¬ m * n < 0 by omega)]; rfl
    · subst h5; simp [dig_zero]
    · have h6 := Int.mul_neg_of_neg_of_pos h4 h5
      have h7 : 0 < (dig (m * n).natAbs).length := by have := mt (dig_len_pos (n := (m * n).natAbs)).1 (by omega); omega
      rw [decide_eq_true h4, decide_eq_false (show ¬ n < 0 by omega), decide_eq_true h6, decide_eq_true h7]; rfl
  · subst h4; simp [dig_zero]
  · rcases (show n < 0 ∨ n = 0 ∨ 0 < n from by omega) with h5 | h5 | h5
    · have h6 := Int.mul_neg_of_pos_of_neg h4 h5
      have h7 : 0 < (dig (m * n).natAbs).length := by have := mt (dig_len_pos (n := (m * n).natAbs)).1 (by omega); omega
      rw [decide_eq_false (show ¬ m < 0 by omega), decide_eq_true h5, decide_eq_true h6, decide_eq_true h7]; rfl
    · subst h5; simp [dig_zero]
    · have := Int.mul_pos h4 h5
      rw [decide_eq_false (show ¬ m < 0 by omega), decide_eq_false (show ¬ n < 0 by omega), decide_eq_false (show ¬ m * n < 0 by omega)]; rfl
 rw [hs]
theorem field_D (W : World) (b : Bool) (a : Option Addr) (l c : Nat) : Sem.run Tryz.prog (Instr.field 127 (.agg #[.bool b, .slice a l c]) 1) W = .ok (.slice a l c) W := by
 unfold Instr.field
 simp [go_sem, asAgg, part]
set_option maxRecDepth 100000 in
theorem times_any (va : Value) (m n : Nat) (w : World) (ha : MV w va m) (hl : (dig m).length <= 1099511627770) (hn : n <= 9223372036854775807) :
 Calls Tryz.prog 214 #[va, .int .i64 (n : Nat)] w fun e w' => (∃ v, e = .returned v /\ MV w' v (m * n)) /\ Below w.heap.size w w' := by
 obtain ⟨aa, ca, rfl, ha, hac, hac2⟩ := ha
 have hz := zOf_any (n : Int) w (by omega) (by omega)
 have hl2 := dig_len_i64 (n := n) (by omega)
 have HZ := hG hz; have HA := hG ha
 clear hz ha
 go_enter Tryz.func214, Tryz.ntmps214
 go_wp2_with fail
 refine HZ.out.mono ?_
 rintro e w1 ⟨⟨v, rfl, ab, cb, rfl, h1, h2, h3⟩, hb1⟩
 rw [Int.natAbs_natCast] at h1 h2 ⊢
 rw [decide_eq_false (show ¬ (n : Int) < 0 by omega)]
 have hm := zMul_lists false false aa ab (dig m) (dig n) ca cb w1 (HA.out.below hb1 lc) h1 (sm_dig _) (sm_dig _) (by omega)
 rw [val_dig, val_dig] at hm
 have HM := hG hm
 clear hm h1
 go_wp2_with fail
 refine HM.out.mono ?_
 rintro e w2 ⟨⟨a, c, rfl, h4, h5, h6⟩, hb2⟩
 have H4 := hG h4
 clear h4
 have hfd := fun W => field_D W false a (dig (m * n)).length c
 go_wp2
 go_ret
 exact ⟨⟨_, rfl, a, c, rfl, H4.out, h5, h6⟩, hb1.trans (hb2.mono hb1.size)⟩
theorem more_step {la lb os : List Nat} {i x y o b b' : Nat} (hx : la.getD i 0 = x) (hy : lb.getD i 0 = y) (hl : os.length = i) (h : val (la.take i) + val (lb.take i) = val os + B ^ i * b) (he : b + x + y = o + B * b') :
 val (la.take (i + 1)) + val (lb.take (i + 1)) = val (os ++ [o]) + B ^ (i + 1) * b' := by
 rw [val_take_succ, val_take_succ, hx, hy, val_snoc, hl, Nat.pow_succ, Nat.mul_assoc]
 have h2 : B ^ i * b + B ^ i * x + B ^ i * y = B ^ i * o + B ^ i * (B * b') := by rw [<- Nat.mul_add, <- Nat.mul_add, he, Nat.mul_add]
 omega
set_option maxRecDepth 100000 in
set_option maxHeartbeats 2000000 in
theorem more_any (va vb : Value) (m n : Nat) (w : World) (ha : MV w va m) (hbv : MV w vb n) (hl : (dig m).length <= 1099511627776) (hl2 : (dig n).length <= 1099511627776) :
 Calls Tryz.prog 191 #[va, vb] w fun e w' => (∃ g os c, e = .returned (.slice g os.length c) /\ Cells w' g (zs os) /\ Sm os /\ val os = m + n /\ os.length <= c /\ c <= 9223372036854775807) /\ Below w.heap.size w w' := by
 obtain ⟨i0, hi, hz0, hz1, hz2⟩ := info_parts Tryz.infoInt
 obtain ⟨aa, ca, rfl, ha, hac, hac2⟩ := ha
 obtain ⟨ab, cb, rfl, hb0, hbc, hbc2⟩ := hbv
 have HA := hG ha; have HB := hG hb0
 clear ha hb0
 obtain ⟨M, hM⟩ : ∃ M, M = max (dig m).length (dig n).length := ⟨_, rfl⟩
 go_enter Tryz.func191, Tryz.ntmps191
 go_wp2
 go_loopw [5, 6, 7] (fun ov bv iv wr => ∃ (i : Nat) (os : List Nat) (b : Nat), i <= M + 1 /\ (i = M + 1 -> b = 0) /\ iv = .int .i64 i /\ bv = .int .i64 b /\ b <= 1 /\ Sm os /\ val ((dig m).take i) + val ((dig n).take i) = val os + B ^ i * b /\ os.length = i /\ wr.ownsRow w.heap.size 3 1 ov i (zs os) /\ Below w.heap.size w wr) (fun _ _ iv _ => M + 1 - (intOf iv).toNat)
 case atStart => exact ⟨0, [], 0, Nat.zero_le _, fun _ => rfl, rfl, rfl, by omega, fun d hd => by simp at hd, by simp [val], rfl, World.ownsRow_nil _ _ _ _, Below.refl _ _⟩
 case round =>
  obtain ⟨i, os, b, hi9, hbz, rfl, rfl, hb1, hsm, heq, hol, hown, hb⟩ := hrel
  have hsz := hb.size
  have HOB : Hid (∀ j, u5.ownBlock = some j -> w.heap.size <= j) := fun j e => (hown.lt j e).1
  have ein : IntKind.i64.wrap ((i : Int) + 1) = (i : Int) + 1 := IntWalk.i64_in _ (by omega)
  have HHEQ := hG heq; have HHSM := hG hsm; have HHOL := hG hol
  clear heq hsm hol
  have hB : B = 10000 := rfl
  by_cases hia : i < (dig m).length
  · obtain ⟨x, hx⟩ := get_of_lt hia
    obtain ⟨bia, offia, rfl⟩ := HA.out.addr (zs_ne (by omega))
    have cx := cell_keep (zcell HA.out hx) hb lc
    have hxb := sm_get (sm_dig m) hx
    have hxd : (dig m).getD i 0 = x := by simp [List.getD, hx]
    have jia : (i : Int) < (dig m).length := by omega
    clear hx
    by_cases hib : i < (dig n).length
    · obtain ⟨y, hy⟩ := get_of_lt hib
      obtain ⟨bib, offib, rfl⟩ := HB.out.addr (zs_ne (by omega))
      have cy := cell_keep (zcell HB.out hy) hb lc
      have hyb := sm_get (sm_dig n) hy
      have hyd : (dig n).getD i 0 = y := by simp [List.getD, hy]
      have jib : (i : Int) < (dig n).length := by omega
      clear hy
      obtain ⟨T1, hT1⟩ : ∃ T1, T1 = b + x := ⟨_, rfl⟩
      obtain ⟨T, hT⟩ : ∃ T, T = T1 + y := ⟨_, rfl⟩
      have e1 : IntKind.i64.wrap ((b : Int) + x) = (T1 : Int) := by rw [show (b : Int) + x = (T1 : Int) from by omega]; exact IntWalk.i64_in _ (by omega)
      have e2 : IntKind.i64.wrap ((T1 : Int) + y) = (T : Int) := by rw [show (T1 : Int) + y = (T : Int) from by omega]; exact IntWalk.i64_in _ (by omega)
      obtain ⟨o, ho⟩ : ∃ o, o = T % 10000 := ⟨_, rfl⟩
      obtain ⟨b', hb'⟩ : ∃ b', b' = T / 10000 := ⟨_, rfl⟩
      have e3 : (T : Int) % 10000 = (o : Int) := by omega
      have e4 : Int.tmod (T : Int) 10000 = (o : Int) := by rw [Int.tmod_eq_emod_of_nonneg (by omega)]; exact e3
      have e5 : (T : Int) / 10000 = (b' : Int) := by omega
      have e6 : Int.tdiv (T : Int) 10000 = (b' : Int) := by rw [Int.tdiv_eq_ediv_of_nonneg (by omega)]; exact e5
      have HEQ := hG (more_step (o := o) (b' := b') hxd hyd HHOL.out HHEQ.out (by rw [hB]; omega))
      have HSM := hG (sm_snoc (d := o) HHSM.out (by omega))
      have hob : o <= 9999 := by omega
      have hbb : b' <= 1 := by omega
      have hlast : i + 1 = M + 1 -> b' = 0 := by omega
      have hiM : i <= M := by omega
      clear hxd hyd ho hb' hB hbz
      clear hT1 hT
      go_wp2_with (at_builtin; refine wpList_append_own _ rfl _ _ 43 rfl w.heap.size 3 i0 (.int .i64 0) 1 8 Tryz.underlying43 hi hz0 hz1 hz2 rfl (by decide) _ _ _ rfl (hown.alloc _) ⟨wr.heap.size, 0, none⟩ 1 1 [.int .i64 (o : Nat)] rfl rfl (news1 _ _ _) (by simp [Value.oneCell']) (by unfold maxLen; omega) (by omega) (by simp; omega) ?_; intro v1 wz hown1 hgrow _)
      have hfin := hown1
      rw [show zs os ++ [.int .i64 (o : Nat)] = zs (os ++ [o]) from by rw [zs_append]; rfl] at hfin
      have hbz := (hb.alloc hsz (.cells #[.int .i64 (o : Nat)] 3)).grown hgrow (by simp; omega) HOB.out
      clear hown1 hgrow hown
      have HFIN := hG hfin; clear hfin
      go_wp2
      go_roundw
      case rel => exact ⟨i + 1, os ++ [o], b', by omega, by omega, rfl, rfl, by omega, HSM.out, HEQ.out, by simpa using HHOL.out, by simpa using HFIN.out, hbz⟩
      case measure => simp [intOf]; omega
    · have hyd : (dig n).getD i 0 = 0 := by simp [List.getD, List.getElem?_eq_none (show (dig n).length <= i by omega)]
      have jib : ¬ (i : Int) < (dig n).length := by omega
      obtain ⟨T, hT⟩ : ∃ T, T = b + x := ⟨_, rfl⟩
      have e1 : IntKind.i64.wrap ((b : Int) + x) = (T : Int) := by rw [show (b : Int) + x = (T : Int) from by omega]; exact IntWalk.i64_in _ (by omega)
      obtain ⟨o, ho⟩ : ∃ o, o = T % 10000 := ⟨_, rfl⟩
      obtain ⟨b', hb'⟩ : ∃ b', b' = T / 10000 := ⟨_, rfl⟩
      have e3 : (T : Int) % 10000 = (o : Int) := by omega
      have e4 : Int.tmod (T : Int) 10000 = (o : Int) := by rw [Int.tmod_eq_emod_of_nonneg (by omega)]; exact e3
      have e5 : (T : Int) / 10000 = (b' : Int) := by omega
      have e6 : Int.tdiv (T : Int) 10000 = (b' : Int) := by rw [Int.tdiv_eq_ediv_of_nonneg (by omega)]; exact e5
      have HEQ := hG (more_step (o := o) (b' := b') hxd hyd HHOL.out HHEQ.out (by rw [hB]; omega))
      have HSM := hG (sm_snoc (d := o) HHSM.out (by omega))
      have hob : o <= 9999 := by omega
      have hbb : b' <= 1 := by omega
      have hlast : i + 1 = M + 1 -> b' = 0 := by omega
      have hiM : i <= M := by omega
      clear hxd hyd ho hb' hB hbz
      clear hT
      go_wp2_with (at_builtin; refine wpList_append_own _ rfl _ _ 43 rfl w.heap.size 3 i0 (.int .i64 0) 1 8 Tryz.underlying43 hi hz0 hz1 hz2 rfl (by decide) _ _ _ rfl (hown.alloc _) ⟨wr.heap.size, 0, none⟩ 1 1 [.int .i64 (o : Nat)] rfl rfl (news1 _ _ _) (by simp [Value.oneCell']) (by unfold maxLen; omega) (by omega) (by simp; omega) ?_; intro v1 wz hown1 hgrow _)
      have hfin := hown1
      rw [show zs os ++ [.int .i64 (o : Nat)] = zs (os ++ [o]) from by rw [zs_append]; rfl] at hfin
      have hbz := (hb.alloc hsz (.cells #[.int .i64 (o : Nat)] 3)).grown hgrow (by simp; omega) HOB.out
      clear hown1 hgrow hown
      have HFIN := hG hfin; clear hfin
      go_wp2
      go_roundw
      case rel => exact ⟨i + 1, os ++ [o], b', by omega, by omega, rfl, rfl, by omega, HSM.out, HEQ.out, by simpa using HHOL.out, by simpa using HFIN.out, hbz⟩
      case measure => simp [intOf]; omega
  · have hxd : (dig m).getD i 0 = 0 := by simp [List.getD, List.getElem?_eq_none (show (dig m).length <= i by omega)]
    have jia : ¬ (i : Int) < (dig m).length := by omega
    by_cases hib : i < (dig n).length
    · obtain ⟨y, hy⟩ := get_of_lt hib
      obtain ⟨bib, offib, rfl⟩ := HB.out.addr (zs_ne (by omega))
      have cy := cell_keep (zcell HB.out hy) hb lc
      have hyb := sm_get (sm_dig n) hy
      have hyd : (dig n).getD i 0 = y := by simp [List.getD, hy]
      have jib : (i : Int) < (dig n).length := by omega
      clear hy
      obtain ⟨T, hT⟩ : ∃ T, T = b + y := ⟨_, rfl⟩
      have e1 : IntKind.i64.wrap ((b : Int) + y) = (T : Int) := by rw [show (b : Int) + y = (T : Int) from by omega]; exact IntWalk.i64_in _ (by omega)
      obtain ⟨o, ho⟩ : ∃ o, o = T % 10000 := ⟨_, rfl⟩
      obtain ⟨b', hb'⟩ : ∃ b', b' = T / 10000 := ⟨_, rfl⟩
      have e3 : (T : Int) % 10000 = (o : Int) := by omega
      have e4 : Int.tmod (T : Int) 10000 = (o : Int) := by rw [Int.tmod_eq_emod_of_nonneg (by omega)]; exact e3
      have e5 : (T : Int) / 10000 = (b' : Int) := by omega
      have e6 : Int.tdiv (T : Int) 10000 = (b' : Int) := by rw [Int.tdiv_eq_ediv_of_nonneg (by omega)]; exact e5
      have HEQ := hG (more_step (o := o) (b' := b') hxd hyd HHOL.out HHEQ.out (by rw [hB]; omega))
      have HSM := hG (sm_snoc (d := o) HHSM.out (by omega))
      have hob : o <= 9999 := by omega
      have hbb : b' <= 1 := by omega
      have hlast : i + 1 = M + 1 -> b' = 0 := by omega
      have hiM : i <= M := by omega
      clear hxd hyd ho hb' hB hbz
      clear hT
      go_wp2_with (at_builtin; refine wpList_append_own _ rfl _ _ 43 rfl w.heap.size 3 i0 (.int .i64 0) 1 8 Tryz.underlying43 hi hz0 hz1 hz2 rfl (by decide) _ _ _ rfl (hown.alloc _) ⟨wr.heap.size, 0, none⟩ 1 1 [.int .i64 (o : Nat)] rfl rfl (news1 _ _ _) (by simp [Value.oneCell']) (by unfold maxLen; omega) (by omega) (by simp; omega) ?_; intro v1 wz hown1 hgrow _)
      have hfin := hown1
      rw [show zs os ++ [.int .i64 (o : Nat)] = zs (os ++ [o]) from by rw [zs_append]; rfl] at hfin
      have hbz := (hb.alloc hsz (.cells #[.int .i64 (o : Nat)] 3)).grown hgrow (by simp; omega) HOB.out
      clear hown1 hgrow hown
      have HFIN := hG hfin; clear hfin
      go_wp2
      go_roundw
      case rel => exact ⟨i + 1, os ++ [o], b', by omega, by omega, rfl, rfl, by omega, HSM.out, HEQ.out, by simpa using HHOL.out, by simpa using HFIN.out, hbz⟩
      case measure => simp [intOf]; omega
    · have hyd : (dig n).getD i 0 = 0 := by simp [List.getD, List.getElem?_eq_none (show (dig n).length <= i by omega)]
      have jib : ¬ (i : Int) < (dig n).length := by omega
      by_cases h0 : b = 0
      · subst h0
        have hve : val os = m + n := by
         have := HHEQ.out
         rw [List.take_of_length_le (by omega), List.take_of_length_le (by omega), val_dig, val_dig] at this
         omega
        obtain ⟨g, c, rfl, hcs, hc1, hc2, hgn⟩ := own_cap2 hown
        unfold maxLen at hc2
        have hol := HHOL.out
        have HCS := hG hcs
        clear hcs hown hgn
        rw [show ((0 : Nat) : Int) = 0 from rfl]
        go_wp2
        go_ret
        refine ⟨⟨g, os, c, by rw [HHOL.out]; rfl, HCS.out, HHSM.out, hve, by omega, by omega⟩, hb⟩
      · have j0 : (0 : Int) < b := by omega
        obtain ⟨T, hT⟩ : ∃ T, T = b := ⟨_, rfl⟩
        obtain ⟨o, ho⟩ : ∃ o, o = T % 10000 := ⟨_, rfl⟩
        obtain ⟨b', hb'⟩ : ∃ b', b' = T / 10000 := ⟨_, rfl⟩
        have e3 : (T : Int) % 10000 = (o : Int) := by omega
        have e4 : Int.tmod (T : Int) 10000 = (o : Int) := by rw [Int.tmod_eq_emod_of_nonneg (by omega)]; exact e3
        have e5 : (T : Int) / 10000 = (b' : Int) := by omega
        have e6 : Int.tdiv (T : Int) 10000 = (b' : Int) := by rw [Int.tdiv_eq_ediv_of_nonneg (by omega)]; exact e5
        have HEQ := hG (more_step (o := o) (b' := b') hxd hyd HHOL.out HHEQ.out (by rw [hB]; omega))
        have HSM := hG (sm_snoc (d := o) HHSM.out (by omega))
        have hob : o <= 9999 := by omega
        have hbb : b' <= 1 := by omega
        have hlast : i + 1 = M + 1 -> b' = 0 := by omega
        have hiM : i <= M := by omega
        clear hxd hyd ho hb' hB hbz
        obtain rfl : b = T := by omega
        go_wp2_with (at_builtin; refine wpList_append_own _ rfl _ _ 43 rfl w.heap.size 3 i0 (.int .i64 0) 1 8 Tryz.underlying43 hi hz0 hz1 hz2 rfl (by decide) _ _ _ rfl (hown.alloc _) ⟨wr.heap.size, 0, none⟩ 1 1 [.int .i64 (o : Nat)] rfl rfl (news1 _ _ _) (by simp [Value.oneCell']) (by unfold maxLen; omega) (by omega) (by simp; omega) ?_; intro v1 wz hown1 hgrow _)
        have hfin := hown1
        rw [show zs os ++ [.int .i64 (o : Nat)] = zs (os ++ [o]) from by rw [zs_append]; rfl] at hfin
        have hbz := (hb.alloc hsz (.cells #[.int .i64 (o : Nat)] 3)).grown hgrow (by simp; omega) HOB.out
        clear hown1 hgrow hown
        have HFIN := hG hfin; clear hfin
        go_wp2
        go_roundw
        case rel => exact ⟨i + 1, os ++ [o], b', by omega, by omega, rfl, rfl, by omega, HSM.out, HEQ.out, by simpa using HHOL.out, by simpa using HFIN.out, hbz⟩
        case measure => simp [intOf]; omega
def topJ (l : List Nat) (k : Nat) : Nat -> Nat
 | 0 => 0
 | j + 1 => topJ l k j * B + (if j <= k then l.getD (k - j) 0 else 0)
theorem getD_lt {l : List Nat} (h : Sm l) (i : Nat) : l.getD i 0 < B := by
 rcases Nat.lt_or_ge i l.length with h1 | h1
 · obtain ⟨x, hx⟩ := get_of_lt h1
   simp only [List.getD, hx, Option.getD_some]
   exact h x (List.mem_of_getElem? hx)
 · simp only [List.getD, List.getElem?_eq_none h1, Option.getD_none]; exact B_pos
theorem topJ_bd {l : List Nat} (h : Sm l) (k : Nat) : ∀ j, topJ l k j + 1 <= B ^ j
 | 0 => Nat.le_refl _
 | j + 1 => by
   have h1 := topJ_bd h k j
   have h2 : (if j <= k then l.getD (k - j) 0 else 0) < B := by
    split
    · exact getD_lt h _
    · exact B_pos
   have h3 : (topJ l k j + 1) * B <= B ^ j * B := Nat.mul_le_mul_right _ h1
   rw [Nat.add_mul, Nat.one_mul] at h3
   rw [topJ, Nat.pow_succ]
   omega
set_option maxRecDepth 100000 in
theorem top_any (aa : Option Addr) (l : List Nat) (ca k : Nat) (w : World) (ha : Cells w aa (zs l)) (hs : Sm l) (hl : l.length <= 1099511627776) (hk : k <= 1099511627776) :
 Calls Tryz.prog 229 #[.slice aa l.length ca, .int .i64 (k : Nat)] w fun e w' => e = .returned (.int .i64 (topJ l k 3 : Nat)) /\ w = w' := by
 have HA := hG ha; have HS := hG hs
 clear ha hs
 have e3 : IntKind.i64.wrap ((k : Int) - 3) = (k : Int) - 3 := IntWalk.i64_in _ (by omega)
 go_enter Tryz.func229, Tryz.ntmps229
 go_wp2
 go_loop [5, 6] (fun nv iv => ∃ j : Nat, j <= 3 /\ iv = .int .i64 ((k : Int) - j) /\ nv = .int .i64 (topJ l k j : Nat)) (fun _ iv => (intOf iv - k + 3).toNat)
 case atStart => exact ⟨0, by omega, by simp, rfl⟩
 case round =>
  obtain ⟨j, hj, rfl, rfl⟩ := hrel
  have hB3 : B ^ 3 = 1000000000000 := by decide
  by_cases hj3 : j = 3
  · subst hj3
    have i1 : ¬ (k : Int) - 3 < (k : Int) - ((3 : Nat) : Int) := by omega
    go_wp2
    go_ret
    exact ⟨rfl, rfl⟩
  · have hjl : j < 3 := by omega
    have hb1 : B ^ (j + 1) <= B ^ 3 := Nat.pow_le_pow_right B_pos (by omega)
    have hbd : topJ l k j * 10000 + (if j <= k then l.getD (k - j) 0 else 0) + 1 <= 1000000000000 := Nat.le_trans (topJ_bd HS.out k (j + 1)) (Nat.le_trans hb1 (by decide))
    have hts : topJ l k (j + 1) = topJ l k j * B + (if j <= k then l.getD (k - j) 0 else 0) := rfl
    have HTS := hG hts
    generalize topJ l k j = t at *
    have hB : B = 10000 := rfl
    have i1 : (k : Int) - 3 < (k : Int) - (j : Int) := by omega
    have m1 : IntKind.i64.wrap ((t : Int) * 10000) = ((t * 10000 : Nat) : Int) := by rw [show (t : Int) * 10000 = ((t * 10000 : Nat) : Int) from by omega]; exact IntWalk.i64_in _ (by omega)
    have m2 : IntKind.i64.wrap ((k : Int) - j - 1) = (k : Int) - j - 1 := IntWalk.i64_in _ (by omega)
    clear hts
    by_cases hjk : j <= k
    · obtain ⟨p, hp⟩ : ∃ p, p = k - j := ⟨_, rfl⟩
      have hp2 : (k : Int) - j = (p : Int) := by omega
      have i2 : (0 : Int) <= p := by omega
      rw [if_pos hjk, <- hp] at HTS hbd
      rw [hp2] at i1 m2 ⊢
      by_cases hpl : p < l.length
      · obtain ⟨x, hx⟩ := get_of_lt hpl
        have hxd : l.getD p 0 = x := by simp [List.getD, hx]
        rw [hxd] at HTS hbd
        obtain ⟨b, off, rfl⟩ := HA.out.addr (zs_ne (by omega))
        have c1 := zcell HA.out hx
        have i3 : (p : Int) < l.length := by omega
        have ht2 : t * 10000 + x = topJ l k (j + 1) := by rw [HTS.out, hB]
        have HT2 := hG ht2
        have m3 : IntKind.i64.wrap ((t : Int) * 10000 + (x : Int)) = (t : Int) * 10000 + (x : Int) := IntWalk.i64_in _ (by omega)
        have hp4 : (p : Int) - 1 = (k : Int) - ((j + 1 : Nat) : Int) := by omega
        have HP4 := hG hp4
        clear hx hxd hp2 hp hB hB3 hb1 hp4 hbd ht2
        go_wp2
        go_round
        case rel => exact ⟨j + 1, by omega, by rw [HP4.out], by rw [<- HT2.out]; simp⟩
        case measure => simp [intOf]; omega
      · have i3 : ¬ (p : Int) < l.length := by omega
        have hxd : l.getD p 0 = 0 := by simp [List.getD, List.getElem?_eq_none (show l.length <= p by omega)]
        rw [hxd] at HTS hbd
        have hp4 : (p : Int) - 1 = (k : Int) - ((j + 1 : Nat) : Int) := by omega
        have HP4 := hG hp4
        have ht2 : t * 10000 = topJ l k (j + 1) := by rw [HTS.out, hB]; rfl
        have HT2 := hG ht2
        clear hxd hp2 hp hB hB3 hb1 hp4 hbd ht2
        go_wp2
        go_round
        case rel => exact ⟨j + 1, by omega, by rw [HP4.out], by rw [<- HT2.out]; simp⟩
        case measure => simp [intOf]; omega
    · rw [if_neg hjk] at HTS hbd
      have i2 : ¬ (0 : Int) <= (k : Int) - j := by omega
      have hp4 : (k : Int) - j - 1 = (k : Int) - ((j + 1 : Nat) : Int) := by omega
      have HP4 := hG hp4
      have ht2 : t * 10000 = topJ l k (j + 1) := by rw [HTS.out, hB]; rfl
      have HT2 := hG ht2
      clear hB hB3 hb1 hp4 hbd ht2
      go_wp2
      go_round
      case rel => exact ⟨j + 1, by omega, by rw [HP4.out], by rw [<- HT2.out]; simp⟩
      case measure => simp [intOf]; omega
theorem dig_len_lt {n k : Nat} (h : n < B ^ k) : (dig n).length <= k := by
 rcases Nat.lt_or_ge k (dig n).length with h1 | h1
 · exfalso
   have hn : n ≠ 0 := by rintro rfl; rw [dig_zero] at h1; simp at h1
   have h2 := pow_len_le hn
   have h3 : B ^ k <= B ^ ((dig n).length - 1) := Nat.pow_le_pow_right B_pos (by omega)
   omega
 · exact h1
theorem top_split (l : List Nat) (k : Nat) : ∀ j, j <= k + 1 -> val (l.take (k + 1)) = val (l.take (k + 1 - j)) + B ^ (k + 1 - j) * topJ l k j
 | 0, _ => by simp [topJ]
 | j + 1, h => by
   rw [top_split l k j (by omega), topJ, if_pos (by omega)]
   obtain ⟨q, hq⟩ : ∃ q, k - j = q := ⟨_, rfl⟩
   rw [show k + 1 - j = q + 1 from by omega, show k + 1 - (j + 1) = q from by omega, hq, val_take_succ, Nat.pow_succ, Nat.mul_add, Nat.mul_comm (topJ l k j) B, Nat.mul_assoc]
   omega
theorem digit_low {A b k : Nat} (hk : (dig b).length = k) (hk1 : 1 <= k) (hA : (dig A).length <= k + 1) : topJ (dig A) k 3 / (topJ (dig b) k 3 + 1) * b <= A := by
 have h1 : val ((dig A).take (k + 1)) = A := by rw [List.take_of_length_le hA, val_dig]
 have h2 : val ((dig b).take (k + 1)) = b := by rw [List.take_of_length_le (by omega), val_dig]
 rcases Nat.lt_or_ge k 2 with h | h
 · have e : k = 1 := by omega
   subst e
   have h3 := top_split (dig A) 1 2 (by omega)
   have h4 := top_split (dig b) 1 2 (by omega)
   rw [h1] at h3
   rw [h2] at h4
   simp only [Nat.sub_self, List.take_zero, val, Nat.pow_zero, Nat.one_mul, Nat.zero_add] at h3 h4
   have h5 : topJ (dig A) 1 3 = A * B := by
    show topJ (dig A) 1 2 * B + 0 = A * B
    rw [<- h3, Nat.add_zero]
   have h6 : topJ (dig b) 1 3 = b * B := by
    show topJ (dig b) 1 2 * B + 0 = b * B
    rw [<- h4, Nat.add_zero]
   rw [h5, h6]
   have h7 := Nat.div_mul_le_self (A * B) (b * B + 1)
   generalize A * B / (b * B + 1) = n at *
   rw [Nat.mul_add, Nat.mul_one, <- Nat.mul_assoc] at h7
   exact Nat.le_of_mul_le_mul_right (by omega) B_pos
 · have h3 := top_split (dig A) k 3 (by omega)
   have h4 := top_split (dig b) k 3 (by omega)
   rw [h1] at h3
   rw [h2] at h4
   have h5 : val ((dig b).take (k + 1 - 3)) < B ^ (k + 1 - 3) := by
    have := val_lt (xs := (dig b).take (k + 1 - 3)) (fun d hd => sm_dig _ d (List.mem_of_mem_take hd))
    rwa [List.length_take, Nat.min_eq_left (by omega)] at this
   generalize B ^ (k + 1 - 3) = P at *
   generalize topJ (dig A) k 3 = TA at *
   generalize topJ (dig b) k 3 = TB at *
   have h7 := Nat.div_mul_le_self TA (TB + 1)
   generalize TA / (TB + 1) = n at *
   have h8 : b <= P * (TB + 1) := by rw [Nat.mul_add, Nat.mul_one]; omega
   have h9 : n * b <= n * (P * (TB + 1)) := Nat.mul_le_mul_left _ h8
   have h10 : P * (n * (TB + 1)) <= P * TA := Nat.mul_le_mul_left _ h7
   rw [Nat.mul_left_comm] at h9
   omega
theorem compare_mv (va vb : Value) (m n : Nat) (w : World) (ha : MV w va m) (hb : MV w vb n) (hm : (dig m).length <= 4611686018427387904) (hn : (dig n).length <= 4611686018427387904) :
 Calls Tryz.prog 192 #[va, vb] w fun e w' => e = .returned (.int .i64 (cmpN m n)) /\ Below w.heap.size w w' := by
 obtain ⟨aa, ca, rfl, ha, -, -⟩ := ha
 obtain ⟨ab, cb, rfl, hb, -, -⟩ := hb
 exact compare_any aa ab m n ca cb w ha hb hm hn
set_option maxRecDepth 100000 in
theorem digit_any (va vb : Value) (A b : Nat) (w : World) (ha : MV w va A) (hb : MV w vb b) (h0 : b ≠ 0) (hA : A < B * b) (hl : (dig b).length <= 1099511627760) :
 Calls Tryz.prog 213 #[va, vb] w fun e w' => e = .returned (.int .i64 (A / b : Nat)) /\ Below w.heap.size w w' := by
 obtain ⟨k, hk⟩ : ∃ k, (dig b).length = k := ⟨_, rfl⟩
 have hk1 : 1 <= k := by have := mt dig_len_pos.1 h0; omega
 have hbk : b < B ^ k := by have := val_lt (sm_dig b); rwa [val_dig, hk] at this
 have hBb : B * b < B ^ (k + 1) := by rw [Nat.pow_succ, Nat.mul_comm]; exact Nat.mul_lt_mul_of_pos_right hbk B_pos
 have hAl : (dig A).length <= k + 1 := dig_len_lt (by omega)
 have hlow := digit_low hk hk1 hAl
 have hdv : A / b < B := Nat.div_lt_of_lt_mul (by rw [Nat.mul_comm]; exact hA)
 have htb := topJ_bd (sm_dig b) k 3
 have hta := topJ_bd (sm_dig A) k 3
 have hB3 : B ^ 3 = 1000000000000 := by decide
 have hB : B = 10000 := rfl
 obtain ⟨aa, ca, rfl, ha', hac, hac2⟩ := ha
 obtain ⟨ab, cb, rfl, hb', hbc, hbc2⟩ := hb
 have HTA := hG (top_any aa (dig A) ca k w ha' (sm_dig _) (by omega) (by omega))
 have HTB := hG (top_any ab (dig b) cb k w hb' (sm_dig _) (by omega) (by omega))
 have HMA : Hid (MV w (.slice aa (dig A).length ca) A) := ⟨aa, ca, rfl, ha', hac, hac2⟩
 have HMB : Hid (MV w (.slice ab (dig b).length cb) b) := ⟨ab, cb, rfl, hb', hbc, hbc2⟩
 have hrd : ∀ n, n * b <= A -> n <= A / b := fun n h => (Nat.le_div_iff_mul_le (by omega)).2 h
 have HRD := hG hrd
 have hln : ∀ n, n <= B -> (dig (b * n)).length <= k + 1 := fun n h => by
  refine dig_len_lt ?_
  have : b * n <= b * B := Nat.mul_le_mul_left _ h
  rw [Nat.mul_comm b B] at this
  omega
 have HLN := hG hln
 clear ha' hb' hrd hln hbk hBb
 rw [hk] at HTB HMB hbc ⊢
 generalize topJ (dig A) k 3 = TA at *
 generalize topJ (dig b) k 3 = TB at *
 have m1 : IntKind.i64.wrap ((TB : Int) + 1) = (TB : Int) + 1 := IntWalk.i64_in _ (by omega)
 have m2 : (((TB : Int) + 1) == 0) = false := by rw [beq_eq_false_iff_ne]; omega
 obtain ⟨n0, hn0⟩ : ∃ n0, n0 = TA / (TB + 1) := ⟨_, rfl⟩
 rw [<- hn0] at hlow
 have hn0b : n0 <= TA := by rw [hn0]; exact Nat.div_le_self _ _
 have m3 : (TA : Int) / ((TB : Int) + 1) = (n0 : Int) := by rw [hn0]; simp
 have m4 : (TA : Int).tdiv ((TB : Int) + 1) = (n0 : Int) := by rw [Int.tdiv_eq_ediv_of_nonneg (by omega)]; exact m3
 have m5 : IntKind.i64.wrap (n0 : Int) = n0 := IntWalk.i64_in _ (by omega)
 clear hn0
 have HLW := hG hlow
 clear hlow
 go_enter Tryz.func213, Tryz.ntmps213
 go_wp2_with fail
 refine HTA.out.mono ?_
 rintro e w1 ⟨rfl, rfl⟩
 go_wp2_with fail
 refine HTB.out.mono ?_
 rintro e w1 ⟨rfl, rfl⟩
 go_wp2
 go_loopw [5] (fun nv wr => ∃ n : Nat, n * b <= A /\ nv = .int .i64 n /\ Below w.heap.size w wr) (fun nv _ => A / b - (intOf nv).toNat)
 case atStart => exact ⟨n0, HLW.out, rfl, Below.refl _ _⟩
 case round =>
  clear m1 m2 m3 m4 m5 HLW hn0b hta htb
  obtain ⟨n, hnb, rfl, hbr⟩ := hrel
  have hnd := HRD.out n hnb
  have m6 : IntKind.i64.wrap ((n : Int) + 1) = ((n + 1 : Nat) : Int) := by rw [show (n : Int) + 1 = ((n + 1 : Nat) : Int) from by omega]; exact IntWalk.i64_in _ (by omega)
  have ht := times_any _ b (n + 1) wr (HMB.out.below hbr lc) (by omega) (by omega)
  have hlen := HLN.out (n + 1) (by omega)
  have hcmp := fun vt (W : World) (h1 : MV W vt (b * (n + 1))) (h2 : MV W (.slice aa (dig A).length ca) A) => compare_mv vt _ (b * (n + 1)) A W h1 h2 (by omega) (by omega)
  have hcN : (n + 1) * b <= A /\ cmpN (b * (n + 1)) A <= 0 ∨ A < (n + 1) * b /\ cmpN (b * (n + 1)) A = 1 := by
   rw [Nat.mul_comm (n + 1) b]
   rcases Nat.lt_or_ge A (b * (n + 1)) with h | h
   · exact .inr ⟨h, cmpN_gt h⟩
   · refine .inl ⟨h, ?_⟩
     unfold cmpN
     split
     · decide
     · split
       · omega
       · decide
  generalize cmpN (b * (n + 1)) A = cm at *
  have HT := hG ht; have HC := hG hcmp
  clear ht hcmp
  have hrz := hbr.size
  rcases hcN with ⟨h5, h6⟩ | ⟨h5, h6⟩
  · have HH5 := hG h5
    have hnd2 := HRD.out (n + 1) h5
    clear h5
    go_wp2_with fail
    refine HT.out.mono ?_
    rintro e w2 ⟨⟨v, rfl, hv⟩, hb2⟩
    have HV := hG hv
    have hbr2 := hbr.trans (hb2.mono hrz)
    have hcc := HC.out v w2 hv (HMA.out.below hbr2 lc)
    obtain ⟨va, vc, rfl⟩ := hv.cases
    clear hv
    have HCC := hG hcc; clear hcc
    go_wp2_with fail
    refine HCC.out.mono ?_
    rintro e w3 ⟨rfl, hb3⟩
    have hbr3 := hbr2.trans (hb3.mono hbr2.size)
    go_wp2
    go_roundw
    case rel => exact ⟨n + 1, HH5.out, by go_num, hbr3⟩
    case measure => simp [intOf]; omega
  · subst h6
    have hfin : A / b = n := by
     have h7 : A / b < n + 1 := (Nat.div_lt_iff_lt_mul (by omega)).2 h5
     omega
    have HF := hG hfin
    clear h5 hfin
    go_wp2_with fail
    refine HT.out.mono ?_
    rintro e w2 ⟨⟨v, rfl, hv⟩, hb2⟩
    have HV := hG hv
    have hbr2 := hbr.trans (hb2.mono hrz)
    have hcc := HC.out v w2 hv (HMA.out.below hbr2 lc)
    obtain ⟨va, vc, rfl⟩ := hv.cases
    clear hv
    have HCC := hG hcc; clear hcc
    go_wp2_with fail
    refine HCC.out.mono ?_
    rintro e w3 ⟨rfl, hb3⟩
    have hbr3 := hbr2.trans (hb3.mono hbr2.size)
    go_wp2
    go_ret
    exact ⟨by rw [HF.out]; rfl, hbr3⟩
theorem dig_val_le {l : List Nat} (h : Sm l) : (dig (val l)).length <= l.length := by
 have := congrArg List.length (dig_take _ l rfl h)
 rw [List.length_take] at this; omega
theorem len_ne (n : Int) : (0 < (dig n.natAbs).length) ↔ n ≠ 0 := by
 have := dig_len_pos (n := n.natAbs)
 omega
set_option maxRecDepth 100000 in
set_option maxHeartbeats 1000000 in
theorem zNeg_any (va : Value) (n : Int) (w : World) (ha : ZV w va n) :
 Calls Tryz.prog 158 #[va] w fun e w' => (∃ v, e = .returned v /\ ZV w' v (-n)) /\ Below w.heap.size w w' := by
 obtain ⟨aa, ca, rfl, ha, hac, hac2⟩ := ha
 have hsg : ((!decide (n < 0)) && decide (0 < (dig n.natAbs).length)) = decide (-n < 0) := by
  rw [Bool.eq_iff_iff]
  simp only [Bool.and_eq_true, Bool.not_eq_true', decide_eq_true_eq, decide_eq_false_iff_not, len_ne]
  omega
 have hmd := fun W h => made_any (!decide (n < 0)) aa (dig n.natAbs) ca W h (sm_dig _) (by omega) hac hac2
 rw [val_dig, hsg] at hmd
 have hbw := ((Below.refl w.heap.size w).alloc lc (.cells #[.bool (decide (n < 0)), .slice aa (dig n.natAbs).length ca] 127)).alloc (by simp) (.cells #[.bool false, .slice none 0 0] 127)
 have HBW := hG hbw; have HMD := hG hmd; have HA := hG (ha.below hbw lc)
 have hx0 : ((w.alloc (.cells #[.bool (decide (n < 0)), .slice aa (dig n.natAbs).length ca] 127)).alloc (.cells #[.bool false, .slice none 0 0] 127)).cell? ⟨w.heap.size, 0, none⟩ = some (.bool (decide (n < 0))) := by simp
 clear hbw hmd ha hsg
 rw [<- Int.natAbs_neg n] at *
 generalize -n = m at *
 generalize decide (n < 0) = s at *
 go_enter Tryz.func158, Tryz.ntmps158
 go_wp2_with fail
 refine (HMD.out _ HA.out).mono ?_
 rintro e w1 ⟨rfl, hb1⟩
 have HC1 := hG (HA.out.below hb1 lc)
 have q0 := box_keep1 hb1 (by simp) 0
 have q1 := box_keep1 hb1 (by simp) 1
 simp only [List.getElem?_toArray, List.getElem?_cons_succ, List.getElem?_cons_zero] at q0 q1
 have f0 := box_free1 hb1 (by simp) 0
 have f1 := box_free1 hb1 (by simp) 1
 have hb := HBW.out.trans (hb1.mono (by simp; omega))
 clear hb1 hx0
 go_wp2
 refine bodyPost_ret (v := .agg #[.bool (decide (m < 0)), .slice aa (dig m.natAbs).length ca]) (by simp [results, Tryz.results158, go_sem, q0, q1]) rfl ?_
 exact ⟨⟨_, rfl, aa, ca, rfl, zbox HC1.out q0 q1, hac, hac2⟩, (hb.setCell (by show w.heap.size <= w.heap.size + 1; omega) _).setCell (by show w.heap.size <= w.heap.size + 1; omega) _⟩
set_option maxRecDepth 100000 in
set_option maxHeartbeats 4000000 in
theorem zAdd_any (va vb : Value) (m n : Int) (w : World) (ha : ZV w va m) (hb : ZV w vb n) (hl : (dig m.natAbs).length <= 1099511627776) (hl2 : (dig n.natAbs).length <= 1099511627776) :
 Calls Tryz.prog 157 #[va, vb] w fun e w' => (∃ v, e = .returned v /\ ZV w' v (m + n)) /\ Below w.heap.size w w' := by
 obtain ⟨aa, ca, rfl, ha, hac, hac2⟩ := ha
 obtain ⟨ab, cb, rfl, hb, hbc, hbc2⟩ := hb
 have hMA : MV w (.slice aa (dig m.natAbs).length ca) m.natAbs := ⟨aa, ca, rfl, ha, hac, hac2⟩
 have hMB : MV w (.slice ab (dig n.natAbs).length cb) n.natAbs := ⟨ab, cb, rfl, hb, hbc, hbc2⟩
 obtain ⟨R, hR⟩ : ∃ R, R = m + n := ⟨_, rfl⟩
 obtain ⟨s1, hs1⟩ : ∃ s1, s1 = decide (m < 0) := ⟨_, rfl⟩
 obtain ⟨s2, hs2⟩ : ∃ s2, s2 = decide (n < 0) := ⟨_, rfl⟩
 rw [<- hR, <- hs1, <- hs2]
 have hcp := fun W h => compare_mv (.slice aa (dig m.natAbs).length ca) (.slice ab (dig n.natAbs).length cb) m.natAbs n.natAbs W (hMA.below h lc) (hMB.below h lc) (by omega) (by omega)
 have hmo : s1 = s2 -> (∀ W, Below w.heap.size w W -> Calls Tryz.prog 191 #[.slice aa (dig m.natAbs).length ca, .slice ab (dig n.natAbs).length cb] W fun e w' => (∃ g os c, e = .returned (.slice g os.length c) /\ Cells w' g (zs os) /\ Sm os /\ val os = R.natAbs /\ os.length <= c /\ c <= 9223372036854775807) /\ Below W.heap.size W w') /\ (s1 && decide (0 < (dig R.natAbs).length)) = decide (R < 0) := by
  intro h
  have h4 : decide (m < 0) = decide (n < 0) := by rw [<- hs1, <- hs2]; exact h
  have h5 : (m < 0) ↔ (n < 0) := by simpa using h4
  refine ⟨fun W hW => ?_, ?_⟩
  · have := more_any _ _ _ _ W (hMA.below hW lc) (hMB.below hW lc) hl hl2
    rwa [show m.natAbs + n.natAbs = R.natAbs by omega] at this
  · rw [hs1, Bool.eq_iff_iff]; simp only [Bool.and_eq_true, decide_eq_true_eq, len_ne]; omega
 have hle1 : s1 ≠ s2 -> n.natAbs <= m.natAbs -> (∀ W, Below w.heap.size w W -> Calls Tryz.prog 193 #[.slice aa (dig m.natAbs).length ca, .slice ab (dig n.natAbs).length cb] W fun e w' => (∃ g os c, e = .returned (.slice g os.length c) /\ Cells w' g (zs os) /\ Sm os /\ val os = R.natAbs /\ os.length <= c /\ c <= 9223372036854775807) /\ Below W.heap.size W w') /\ (s1 && decide (0 < (dig R.natAbs).length)) = decide (R < 0) := by
  intro h h2
  have h4 : ¬ decide (m < 0) = decide (n < 0) := by rw [<- hs1, <- hs2]; exact h
  have h5 : ¬ ((m < 0) ↔ (n < 0)) := by simpa using h4
  refine ⟨fun W hW => ?_, ?_⟩
  · refine (less_any _ _ _ _ W (hMA.below hW lc) (hMB.below hW lc) h2 hl).mono ?_
    rintro e w1 ⟨⟨v, rfl, hv⟩, hb1⟩
    obtain ⟨g, c, rfl, h6, h7, h8⟩ := hv.mv
    exact ⟨⟨g, _, c, rfl, h6, sm_dig _, by rw [val_dig]; omega, h7, h8⟩, hb1⟩
  · rw [hs1, Bool.eq_iff_iff]; simp only [Bool.and_eq_true, decide_eq_true_eq, len_ne]; omega
 have hle2 : s1 ≠ s2 -> ¬ n.natAbs <= m.natAbs -> (∀ W, Below w.heap.size w W -> Calls Tryz.prog 193 #[.slice ab (dig n.natAbs).length cb, .slice aa (dig m.natAbs).length ca] W fun e w' => (∃ g os c, e = .returned (.slice g os.length c) /\ Cells w' g (zs os) /\ Sm os /\ val os = R.natAbs /\ os.length <= c /\ c <= 9223372036854775807) /\ Below W.heap.size W w') /\ (s2 && decide (0 < (dig R.natAbs).length)) = decide (R < 0) := by
  intro h h2
  have h4 : ¬ decide (m < 0) = decide (n < 0) := by rw [<- hs1, <- hs2]; exact h
  have h5 : ¬ ((m < 0) ↔ (n < 0)) := by simpa using h4
  refine ⟨fun W hW => ?_, ?_⟩
  · refine (less_any _ _ _ _ W (hMB.below hW lc) (hMA.below hW lc) (by omega) hl2).mono ?_
    rintro e w1 ⟨⟨v, rfl, hv⟩, hb1⟩
    obtain ⟨g, c, rfl, h6, h7, h8⟩ := hv.mv
    exact ⟨⟨g, _, c, rfl, h6, sm_dig _, by rw [val_dig]; omega, h7, h8⟩, hb1⟩
  · rw [hs2, Bool.eq_iff_iff]; simp only [Bool.and_eq_true, decide_eq_true_eq, len_ne]; omega
 have hcv : (n.natAbs <= m.natAbs -> 0 <= cmpN m.natAbs n.natAbs) /\ (¬ n.natAbs <= m.natAbs -> cmpN m.natAbs n.natAbs = -1) := by
  refine ⟨fun h => ?_, fun h => cmpN_lt (by omega)⟩
  unfold cmpN
  rw [if_neg (by omega)]
  split <;> omega
 obtain ⟨W0, hW0⟩ : ∃ W0, W0 = (((w.alloc (.cells #[.bool s1, .slice aa (dig m.natAbs).length ca] 127)).alloc (.cells #[.bool s2, .slice ab (dig n.natAbs).length cb] 127)).alloc (.cells #[.bool false, .slice none 0 0] 127)) := ⟨_, rfl⟩
 have hbx := fun (B : Nat) (w1 : World) (h1 : Below B W0 w1) (h2 : w.heap.size + 2 < B) => boxes3 (w := w) (by rw [hW0] at h1; exact h1) h2
 have hB0 : Below w.heap.size w W0 := by rw [hW0]; exact ((((Below.refl w.heap.size w).alloc lc _).alloc (by simp) _).alloc (by simp; omega) _)
 have hz0 : W0.heap.size = w.heap.size + 3 := by rw [hW0]; simp
 obtain ⟨k0, k1, -, -⟩ := hbx (w.heap.size + 3) W0 (Below.refl _ W0) (by omega)
 have x0 : W0.cell? ⟨w.heap.size, 0, none⟩ = some (.bool s1) := k0 0
 have x1 : W0.cell? ⟨w.heap.size, 1, none⟩ = some (.slice aa (dig m.natAbs).length ca) := k0 1
 have y0 : W0.cell? ⟨w.heap.size + 1, 0, none⟩ = some (.bool s2) := k1 0
 have y1 : W0.cell? ⟨w.heap.size + 1, 1, none⟩ = some (.slice ab (dig n.natAbs).length cb) := k1 1
 have xd0 : W0.drew.cell? ⟨w.heap.size, 0, none⟩ = some (.bool s1) := x0
 have xd1 : W0.drew.cell? ⟨w.heap.size, 1, none⟩ = some (.slice aa (dig m.natAbs).length ca) := x1
 have yd0 : W0.drew.cell? ⟨w.heap.size + 1, 0, none⟩ = some (.bool s2) := y0
 have yd1 : W0.drew.cell? ⟨w.heap.size + 1, 1, none⟩ = some (.slice ab (dig n.natAbs).length cb) := y1
 have HCP := hG hcp; have HMO := hG hmo; have HLE1 := hG hle1; have HLE2 := hG hle2; have HCV := hG hcv
 have HBX := hG hbx; have HB0 := hG hB0
 clear ha hb hMA hMB hR hs1 hs2 hcp hmo hle1 hle2 hcv hbx k0 k1
 generalize (dig m.natAbs).length = lm at *
 generalize (dig n.natAbs).length = ln at *
 generalize cmpN m.natAbs n.natAbs = C at *
 go_enter Tryz.func157, Tryz.ntmps157
 by_cases hs : s1 = s2
 · obtain ⟨hc, hsg⟩ := HMO.out hs
   have HC := hG hc; have HSG := hG hsg
   have d1 : (s1 == s2) = true := by simpa using hs
   clear hc hsg HCP HMO HLE1 HLE2 HCV hs
   go_wp2_with fail
   rw [<- hW0]
   clear hW0
   go_region_held3 (fun w' => w'.cell? ⟨w.heap.size, 0, none⟩ = some (.bool s1) /\ w'.cell? ⟨w.heap.size, 1, none⟩ = some (.slice aa lm ca) /\ w'.cell? ⟨w.heap.size + 1, 0, none⟩ = some (.bool s2) /\ w'.cell? ⟨w.heap.size + 1, 1, none⟩ = some (.slice ab ln cb))
    (first | with_reducible exact ⟨x0, x1, y0, y1⟩ | with_reducible exact ⟨xd0, xd1, yd0, yd1⟩ | with_reducible exact ⟨rx0, rx1, ry0, ry1⟩ | with_reducible exact ⟨px0, px1, py0, py1⟩ | (refine ⟨?_, ?_, ?_, ?_⟩ <;> (repeat rw [World.cell?_setCell_other _ _ _ _ (by simp)]) <;> assumption) | go_keep)
    (first
     | (go_at_call 191; (with_reducible refine Calls.mono (HC.out W0.drew HB0.out.drew) ?_); rintro e w4 ⟨⟨g, os, c, rfl, hcs, hsm, hval, hcp, hcm⟩, hb4⟩; have hbz : Below W0.heap.size W0 w4 := ((Below.refl W0.heap.size W0).drew).trans hb4; have HB4 := hG hbz; have HCS := hG hcs; have HSM := hG hsm; have HVAL := hG hval; have px0 := cell_keep x0 hbz lc; have px1 := cell_keep x1 hbz lc; have py0 := cell_keep y0 hbz lc; have py1 := cell_keep y1 hbz lc; clear hcs hsm hval hb4 hbz)
     | (have hmd := made_any s1 g os c w4 HCS.out HSM.out (by omega) hcp hcm; rw [HVAL.out, HSG.out] at hmd; go_at_call 155; (with_reducible refine Calls.mono hmd ?_); clear hmd; rintro e w5 ⟨rfl, hb5⟩; have hbz : Below W0.heap.size W0 w5 := HB4.out.trans (hb5.mono HB4.out.size); have HB5 := hG hbz; have rx0 := cell_keep x0 hbz lc; have rx1 := cell_keep x1 hbz lc; have ry0 := cell_keep y0 hbz lc; have ry1 := cell_keep y1 hbz lc; have hc5 := strip_cells os (HCS.out.below hb5 lc) HSM.out; rw [HVAL.out] at hc5; have HC5 := hG hc5; obtain ⟨-, -, q2, f2⟩ := HBX.out _ _ hbz (by omega); have q20 := q2 0; have q21 := q2 1; simp only [List.getElem?_toArray, List.getElem?_cons_succ, List.getElem?_cons_zero] at q20 q21; have f0 := f2 0; have f1 := f2 1; clear hb5 hbz q2 f2 hc5))
   all_goals
    have hdl := dig_val_le HSM.out
    rw [HVAL.out] at hdl
    have hbw := HB0.out.trans (HB5.out.mono (by omega))
    go_wp2
    refine bodyPost_ret (v := .agg #[.bool (decide (R < 0)), .slice g (dig R.natAbs).length c]) (by simp [results, Tryz.results157, go_sem, q20, q21]) rfl ?_
    exact ⟨⟨_, rfl, g, c, rfl, zbox HC5.out q20 q21, by omega, hcm⟩, (hbw.setCell (by show w.heap.size <= w.heap.size + 2; omega) _).setCell (by show w.heap.size <= w.heap.size + 2; omega) _⟩
 · have d1 : (s1 == s2) = false := by simpa using hs
   go_wp2_with fail
   rw [<- hW0]
   clear hW0
   refine (HCP.out W0 HB0.out).mono ?_
   rintro e w2 ⟨rfl, hb2⟩
   have hb02 := HB0.out.trans (hb2.mono HB0.out.size)
   have HB02 := hG hb02; have HB2 := hG hb2
   have x0' := cell_keep x0 hb2 lc
   have x1' := cell_keep x1 hb2 lc
   have y0' := cell_keep y0 hb2 lc
   have y1' := cell_keep y1 hb2 lc
   have xw0 : w2.drew.cell? ⟨w.heap.size, 0, none⟩ = some (.bool s1) := x0'
   have xw1 : w2.drew.cell? ⟨w.heap.size, 1, none⟩ = some (.slice aa lm ca) := x1'
   have yw0 : w2.drew.cell? ⟨w.heap.size + 1, 0, none⟩ = some (.bool s2) := y0'
   have yw1 : w2.drew.cell? ⟨w.heap.size + 1, 1, none⟩ = some (.slice ab ln cb) := y1'
   clear hb2 hb02
   by_cases hc : n.natAbs <= m.natAbs
   · have hc0 := HCV.out.1 hc
     obtain ⟨hq, hsg⟩ := HLE1.out hs hc
     have HC := hG hq; have HSG := hG hsg
     clear hq hsg HCP HMO HLE1 HLE2 HCV hs hc
     go_wp2_with fail
     go_region_held3 (fun w' => w'.cell? ⟨w.heap.size, 0, none⟩ = some (.bool s1) /\ w'.cell? ⟨w.heap.size, 1, none⟩ = some (.slice aa lm ca) /\ w'.cell? ⟨w.heap.size + 1, 0, none⟩ = some (.bool s2) /\ w'.cell? ⟨w.heap.size + 1, 1, none⟩ = some (.slice ab ln cb))
      (first | with_reducible exact ⟨x0', x1', y0', y1'⟩ | with_reducible exact ⟨xw0, xw1, yw0, yw1⟩ | with_reducible exact ⟨xd0, xd1, yd0, yd1⟩ | with_reducible exact ⟨rx0, rx1, ry0, ry1⟩ | with_reducible exact ⟨px0, px1, py0, py1⟩ | (refine ⟨?_, ?_, ?_, ?_⟩ <;> (repeat rw [World.cell?_setCell_other _ _ _ _ (by simp)]) <;> assumption) | go_keep)
      (first
       | (go_at_call 193; (with_reducible refine Calls.mono (HC.out w2.drew HB02.out.drew) ?_); rintro e w4 ⟨⟨g, os, c, rfl, hcs, hsm, hval, hcp, hcm⟩, hb4⟩; have hbz : Below W0.heap.size W0 w4 := HB2.out.trans ((((Below.refl w2.heap.size w2).drew).trans hb4).mono HB2.out.size); have HB4 := hG hbz; have HCS := hG hcs; have HSM := hG hsm; have HVAL := hG hval; have px0 := cell_keep x0 hbz lc; have px1 := cell_keep x1 hbz lc; have py0 := cell_keep y0 hbz lc; have py1 := cell_keep y1 hbz lc; clear hcs hsm hval hb4 hbz)
       | (have hmd := made_any s1 g os c w4 HCS.out HSM.out (by omega) hcp hcm; rw [HVAL.out, HSG.out] at hmd; go_at_call 155; (with_reducible refine Calls.mono hmd ?_); clear hmd; rintro e w5 ⟨rfl, hb5⟩; have hbz : Below W0.heap.size W0 w5 := HB4.out.trans (hb5.mono HB4.out.size); have HB5 := hG hbz; have rx0 := cell_keep x0 hbz lc; have rx1 := cell_keep x1 hbz lc; have ry0 := cell_keep y0 hbz lc; have ry1 := cell_keep y1 hbz lc; have hc5 := strip_cells os (HCS.out.below hb5 lc) HSM.out; rw [HVAL.out] at hc5; have HC5 := hG hc5; obtain ⟨-, -, q2, f2⟩ := HBX.out _ _ hbz (by omega); have q20 := q2 0; have q21 := q2 1; simp only [List.getElem?_toArray, List.getElem?_cons_succ, List.getElem?_cons_zero] at q20 q21; have f0 := f2 0; have f1 := f2 1; clear hb5 hbz q2 f2 hc5))
     all_goals
      have hdl := dig_val_le HSM.out
      rw [HVAL.out] at hdl
      have hbw := HB0.out.trans (HB5.out.mono (by omega))
      go_wp2
      refine bodyPost_ret (v := .agg #[.bool (decide (R < 0)), .slice g (dig R.natAbs).length c]) (by simp [results, Tryz.results157, go_sem, q20, q21]) rfl ?_
      exact ⟨⟨_, rfl, g, c, rfl, zbox HC5.out q20 q21, by omega, hcm⟩, (hbw.setCell (by show w.heap.size <= w.heap.size + 2; omega) _).setCell (by show w.heap.size <= w.heap.size + 2; omega) _⟩
   · have hc0 := HCV.out.2 hc
     have hc1 : ¬ (0 <= C) := by omega
     obtain ⟨hq, hsg⟩ := HLE2.out hs hc
     have HC := hG hq; have HSG := hG hsg
     clear hq hsg HCP HMO HLE1 HLE2 HCV hs hc
     go_wp2_with fail
     go_region_held3 (fun w' => w'.cell? ⟨w.heap.size, 0, none⟩ = some (.bool s1) /\ w'.cell? ⟨w.heap.size, 1, none⟩ = some (.slice aa lm ca) /\ w'.cell? ⟨w.heap.size + 1, 0, none⟩ = some (.bool s2) /\ w'.cell? ⟨w.heap.size + 1, 1, none⟩ = some (.slice ab ln cb))
      (first | with_reducible exact ⟨x0', x1', y0', y1'⟩ | with_reducible exact ⟨xw0, xw1, yw0, yw1⟩ | with_reducible exact ⟨xd0, xd1, yd0, yd1⟩ | with_reducible exact ⟨rx0, rx1, ry0, ry1⟩ | with_reducible exact ⟨px0, px1, py0, py1⟩ | (refine ⟨?_, ?_, ?_, ?_⟩ <;> (repeat rw [World.cell?_setCell_other _ _ _ _ (by simp)]) <;> assumption) | go_keep)
      (first
       | (go_at_call 193; (with_reducible refine Calls.mono (HC.out w2.drew HB02.out.drew) ?_); rintro e w4 ⟨⟨g, os, c, rfl, hcs, hsm, hval, hcp, hcm⟩, hb4⟩; have hbz : Below W0.heap.size W0 w4 := HB2.out.trans ((((Below.refl w2.heap.size w2).drew).trans hb4).mono HB2.out.size); have HB4 := hG hbz; have HCS := hG hcs; have HSM := hG hsm; have HVAL := hG hval; have px0 := cell_keep x0 hbz lc; have px1 := cell_keep x1 hbz lc; have py0 := cell_keep y0 hbz lc; have py1 := cell_keep y1 hbz lc; clear hcs hsm hval hb4 hbz)
       | (have hmd := made_any s2 g os c w4 HCS.out HSM.out (by omega) hcp hcm; rw [HVAL.out, HSG.out] at hmd; go_at_call 155; (with_reducible refine Calls.mono hmd ?_); clear hmd; rintro e w5 ⟨rfl, hb5⟩; have hbz : Below W0.heap.size W0 w5 := HB4.out.trans (hb5.mono HB4.out.size); have HB5 := hG hbz; have rx0 := cell_keep x0 hbz lc; have rx1 := cell_keep x1 hbz lc; have ry0 := cell_keep y0 hbz lc; have ry1 := cell_keep y1 hbz lc; have hc5 := strip_cells os (HCS.out.below hb5 lc) HSM.out; rw [HVAL.out] at hc5; have HC5 := hG hc5; obtain ⟨-, -, q2, f2⟩ := HBX.out _ _ hbz (by omega); have q20 := q2 0; have q21 := q2 1; simp only [List.getElem?_toArray, List.getElem?_cons_succ, List.getElem?_cons_zero] at q20 q21; have f0 := f2 0; have f1 := f2 1; clear hb5 hbz q2 f2 hc5))
     all_goals
      have hdl := dig_val_le HSM.out
      rw [HVAL.out] at hdl
      have hbw := HB0.out.trans (HB5.out.mono (by omega))
      go_wp2
      refine bodyPost_ret (v := .agg #[.bool (decide (R < 0)), .slice g (dig R.natAbs).length c]) (by simp [results, Tryz.results157, go_sem, q20, q21]) rfl ?_
      exact ⟨⟨_, rfl, g, c, rfl, zbox HC5.out q20 q21, by omega, hcm⟩, (hbw.setCell (by show w.heap.size <= w.heap.size + 2; omega) _).setCell (by show w.heap.size <= w.heap.size + 2; omega) _⟩
theorem wpList_append_src {P : Program} {w : World} {ops : Array Oper} {rest : List Oper} {o : Oper} {a : Act} {Q : Exit -> Act -> World -> Prop} (hgd : o.guard = none) (s x : Operand) (t : TypeId)
 (ho : o.op = .call { callee := .builtin .append, args := #[s, x], argTypes := #[t, t] })
 (base : Nat) (e : TypeId) (i : TypeInfo) (z : Value) (size bytes : Nat) (ht : P.underlying t = some (.slice e)) (hi : P.info? e = some i) (hz : i.zero = some z)
 (hsize : i.size = size) (hby : i.bytes = bytes) (hzs : z.cells.size = size) (hsz : 0 < size)
 (v : Value) (n : Nat) (xs : List Value) (hs : a.eval s = v) (hown : w.ownsRow base e size v n xs)
 (vx : Value) (m : Nat) (news : List Value) (hx : a.eval x = vx) (hsrc : (∃ ad c, vx = .slice (some ad) m c /\ ∀ j u, news[j]? = some u -> w.cell? (ad.add j) = some u) ∨ (vx = .slice none 0 0 /\ m = 0 /\ news = [])) (hl : news.length = m * size) (h1 : ∀ u ∈ news, u.oneCell' = true)
 (h63 : n + m <= maxLen) (hbytes : (n + m) * bytes <= 140737488355328) (hbase : base <= w.heap.size)
 (h : ∀ v' w', w'.ownsRow base e size v' (n + m) (xs ++ news) -> w.grownBy w' v.ownBlock -> wpList P ops Q rest (a.put o.dst v') w') : wpList P ops Q (o :: rest) a w := by
 rcases hsrc with ⟨ad, c, hv, hc⟩ | ⟨hv, hm, hn⟩
 · exact wpList_append_own w hgd s x t ho base e i z size bytes ht hi hz hsize hby hzs hsz v n xs hs hown ad m c news (by rw [hx, hv]) hl hc h1 h63 hbytes hbase fun v' w' h2 h3 _ => h v' w' h2 h3
 · subst hm; subst hn; subst hv
   exact wpList_append_two hgd s x t ho base e i z size bytes ht hi hz hsize hby hzs hsz v n xs hs hown base _ 0 [] hx (World.ownsRow_nil _ _ _ _) (by simp) h63 hbytes hbase fun v' w' h2 h3 _ => h v' w' h2 h3
end Go.Proofs.YtahnadhlagabgaaGreatDoor.Z4
namespace Go.Proofs.YtahnadhlagabgaaGreatDoor
open Go.RowKit
end Go.Proofs.YtahnadhlagabgaaGreatDoor

namespace Go.Proofs.YtahnadhlagabgaaGreatDoor.Z4
open Go.RowKit
theorem zs_one (l : List Nat) : ∀ u ∈ zs l, u.oneCell' = true := by
 intro u hu; simp only [zs, List.mem_map] at hu; obtain ⟨d, _, rfl⟩ := hu; rfl
theorem div_step {A b j x r : Nat} {hs : List Nat} (hx : (dig A)[j]? = some x) (h : val ((dig A).drop (j + 1)) = b * val hs + r) :
 val ((dig A).drop j) = b * val ((x + B * r) / b :: hs) + (x + B * r) % b := by
 have hj := (List.getElem?_eq_some_iff.1 hx).1
 have h1 : (dig A).drop j = x :: (dig A).drop (j + 1) := by
  rw [List.drop_eq_getElem_cons hj, (List.getElem?_eq_some_iff.1 hx).2]
 rw [h1, val, h, val]
 have h2 := Nat.div_add_mod (x + B * r) b
 rw [Nat.mul_add, Nat.mul_add, Nat.mul_left_comm b B]
 omega
theorem div_start {A b lb : Nat} (hlb : (dig b).length = lb) (h1 : 1 <= lb) (hab : lb <= (dig A).length) : val ((dig A).drop ((dig A).length - lb + 1)) < b := by
 have h2 := pow_len_le (n := b) (by rintro rfl; rw [dig_zero] at hlb; simp at hlb; omega)
 rw [hlb] at h2
 have h3 := val_lt (xs := (dig A).drop ((dig A).length - lb + 1)) (fun d hd => sm_dig _ d (List.mem_of_mem_drop hd))
 rw [List.length_drop, show (dig A).length - ((dig A).length - lb + 1) = lb - 1 from by omega] at h3
 omega
theorem set_zeros (k q : Nat) (qs : List Nat) : (zs (List.replicate (k + 1) 0 ++ qs)).set k (.int .i64 (q : Nat)) = zs (List.replicate k 0 ++ (q :: qs)) := by
 rw [zs_set]
 congr 1
 rw [List.replicate_succ', List.append_assoc, List.set_append_right _ _ (by simp)]
 simp
theorem own_belowZ {w w' : World} {b B0 : Nat} {T : TypeId} {s n : Nat} {v : Value} {xs : List Value} (h : w.ownsRow b T s v n xs) (hb : Below B0 w w') (hB : w.heap.size <= B0) : w'.ownsRow b T s v n xs :=
 h.kept (row := none) ⟨hb.os, hb.tape, hb.output, hb.size, fun k hk _ => hb.block k (by omega)⟩ (by cases hv : v.ownBlock <;> simp)
theorem tail_cells {W : World} {ba offa k : Nat} {l : List Nat} (h : Cells W (some ⟨ba, offa, none⟩) (zs l)) {j : Nat} {u : Value} (hu : (zs (l.drop k))[j]? = some u) : W.cell? ((⟨ba, offa + k, none⟩ : Addr).add j) = some u := by
 rw [Addr.add_lit]
 have h5 : (zs l)[k + j]? = some u := by
  simp only [zs, List.map_drop, List.getElem?_drop] at hu
  exact hu
 have := h.at h5
 rwa [<- Nat.add_assoc] at this
set_option maxRecDepth 100000 in
set_option maxHeartbeats 4000000 in
theorem divide_any (va vb : Value) (A b : Nat) (w : World) (ha : MV w va A) (hb : MV w vb b) (h0 : b ≠ 0) (hl : (dig A).length <= 549755813888) (hl2 : (dig b).length <= 549755813888) :
 Calls Tryz.prog 190 #[va, vb] w fun e w' => (∃ q r, e = .returned (.tuple #[q, r]) /\ MV w' q (A / b) /\ MV w' r (A % b)) /\ Below w.heap.size w w' := by
 obtain ⟨i0, hi, hz0, hz1, hz2⟩ := info_parts Tryz.infoInt
 have hcmp := compare_mv va vb A b w ha hb (by omega) (by omega)
 have HMA := hG ha; have HMB := hG hb
 obtain ⟨aa, ca, rfl, ha', hac, hac2⟩ := ha
 obtain ⟨ab, cb, rfl, hb', hbc, hbc2⟩ := hb
 clear hb'
 rcases Nat.lt_or_ge A b with hlt | hge
 · rw [cmpN_lt hlt] at hcmp
   have hq : A / b = 0 := Nat.div_eq_of_lt hlt
   have hr : A % b = A := Nat.mod_eq_of_lt hlt
   have HC := hG hcmp; have HQ := hG hq; have HR := hG hr
   clear hcmp hq hr ha'
   go_enter Tryz.func190, Tryz.ntmps190
   go_wp2_with fail
   refine HC.out.mono ?_
   rintro e w1 ⟨rfl, hb1⟩
   go_wp2
   go_ret2
   exact ⟨⟨_, _, rfl, by rw [HQ.out]; exact RV.mv (.inr ⟨rfl, rfl⟩), by rw [HR.out]; exact HMA.out.below hb1 lc⟩, hb1⟩
 · have hcm : ¬ cmpN A b < 0 := by unfold cmpN; rw [if_neg (by omega)]; split <;> omega
   generalize cmpN A b = cm at *
   obtain ⟨lb, hlb⟩ : ∃ lb, (dig b).length = lb := ⟨_, rfl⟩
   obtain ⟨la, hla⟩ : ∃ la, (dig A).length = la := ⟨_, rfl⟩
   have hlb1 : 1 <= lb := by have := mt dig_len_pos.1 h0; omega
   have hll : lb <= la := by rw [<- hlb, <- hla]; exact dig_len_mono hge
   have hst := div_start (A := A) hlb hlb1 (by omega)
   obtain ⟨ba, offa, rfl⟩ := ha'.addr (zs_ne (l := dig A) (by omega))
   have HA := hG ha'; have HC := hG hcmp
   obtain ⟨f, hf⟩ : ∃ f, f = la - lb := ⟨_, rfl⟩
   rw [hla, <- hf] at hst
   rw [hla] at hl hac HMA HC ⊢
   rw [hlb] at hl2 hbc HMB HC ⊢
   have HST := hG hst; have HLA := hG hla; have HLB := hG hlb
   have hf2 : f + lb = la := by omega
   clear ha' hcmp hst hla hlb hf
   have e1 : IntKind.i64.wrap ((la : Int) - lb) = (f : Int) := by rw [show (la : Int) - lb = (f : Int) from by omega]; exact IntWalk.i64_in _ (by omega)
   have e2 : IntKind.i64.wrap ((f : Int) + 1) = ((f + 1 : Nat) : Int) := by rw [show (f : Int) + 1 = ((f + 1 : Nat) : Int) from by omega]; exact IntWalk.i64_in _ (by omega)
   have e3 : (0 : Int) <= ((f + 1 : Nat) : Int) := by omega
   have e4 : ((f + 1 : Nat) : Int) <= (la : Int) := by omega
   have e5 : (((f + 1 : Nat) : Int)).toNat = f + 1 := by omega
   go_enter Tryz.func190, Tryz.ntmps190
   go_wp2_with fail
   refine HC.out.mono ?_
   rintro e w1 ⟨rfl, hb1⟩
   have HB1 := hG hb1
   have hz1' := hb1.size
   obtain ⟨tl, htl⟩ : ∃ tl, tl = (dig A).drop (f + 1) := ⟨_, rfl⟩
   have htll : tl.length = la - (f + 1) := by rw [htl, List.length_drop, HLA.out]
   have htls : Sm tl := by rw [htl]; exact fun d hd => sm_dig _ d (List.mem_of_mem_drop hd)
   have hnw : ∀ W, Cells W (some ⟨ba, offa, none⟩) (zs (dig A)) -> (∃ ad c, ((.slice (if ca = f + 1 then some ⟨ba, offa, none⟩ else some ⟨ba, offa + (f + 1), none⟩) (la - (f + 1)) (ca - (f + 1))) : Value) = .slice (some ad) (la - (f + 1)) c /\ ∀ j u, (zs tl)[j]? = some u -> W.cell? (ad.add j) = some u) ∨ (((.slice (if ca = f + 1 then some ⟨ba, offa, none⟩ else some ⟨ba, offa + (f + 1), none⟩) (la - (f + 1)) (ca - (f + 1))) : Value) = .slice none 0 0 /\ la - (f + 1) = 0 /\ zs tl = []) := fun W h => by
    left
    by_cases hc : ca = f + 1
    · have h8 : tl = [] := List.eq_nil_of_length_eq_zero (by omega)
      rw [if_pos hc]
      exact ⟨_, _, rfl, fun j u hu => by rw [h8] at hu; simp [zs] at hu⟩
    · rw [if_neg hc]
      exact ⟨_, _, rfl, fun j u hu => tail_cells h (by rw [<- htl]; exact hu)⟩
   have HNW := hG hnw; have HTL := hG htl; have HTLL := hG htll; have HTLS := hG htls
   clear hnw htl htll htls
   go_wp2_with (first
    | (at_make; refine wpList_make_full _ rfl _ _ 43 rfl w.heap.size 3 i0 (.int .i64 0) 1 Tryz.underlying43 hi hz0 hz1 .i64 .i64 _ _ la rfl rfl (by omega) (by omega) (by rw [hz2]; omega) (by unfold maxLen; omega) hz1' ?_; intro w4 hown4 hgrow4; have hb4 : Below w1.heap.size w1 w4 := (Below.refl w1.heap.size w1).grown hgrow4 lc (fun _ h => by cases h); have hb14 := hb1.trans (hb4.mono hz1'); have HA4 := hG (HA.out.below hb14 lc))
    | (at_builtin; refine wpList_append_src rfl _ _ 43 rfl w4.heap.size 3 i0 (.int .i64 0) 1 8 Tryz.underlying43 hi hz0 hz1 hz2 rfl (by decide) _ _ _ rfl (World.ownsRow_nil _ _ _ _) (.slice (if ca = f + 1 then some ⟨ba, offa, none⟩ else some ⟨ba, offa + (f + 1), none⟩) (la - (f + 1)) (ca - (f + 1))) (la - (f + 1)) (zs tl) rfl (HNW.out _ HA4.out) (by rw [zs_length, HTLL.out, Nat.mul_one]) (zs_one _) (by unfold maxLen; omega) (by omega) lc ?_; intro v5 w5 hown5 hgrow5; refine Hid.out ?_))
   all_goals
    refine hG ?_
    clear h
    rw [zs_zeros] at hown4
    have HO4 := hG hown4
    have hz4 := hb4.size
    have hz5 := hgrow4.size
    clear hgrow4 hown4 hb4
    rw [List.nil_append, Nat.zero_add] at hown5
    have hb5 : Below w4.heap.size w4 w5 := (Below.refl w4.heap.size w4).grown hgrow5 lc (fun _ h => by cases h)
    have hb15 := hb14.trans (hb5.mono (Nat.le_trans hz1' hz4))
    have ho5 := HO4.out.kept hgrow5 (.inr (by intro h; cases h))
    obtain ⟨g5, c5, rfl, hc5, hl5, hm5, hn5⟩ := own_cap2 hown5
    unfold maxLen at hm5
    rw [<- HTLL.out] at hl5
    have hst5 := strip_any g5 tl c5 w5 hc5 HTLS.out (by rw [HTLL.out]; omega) hl5 (by omega)
    have hrv : ∀ W, Cells W g5 (zs (dig (val tl))) -> RV W (.slice g5 (dig (val tl)).length c5) (val tl) := fun W h => rv_of h (Nat.le_trans (dig_len_val HTLS.out) hl5) (by omega) (fun h => ⟨(hn5 h).1, by
     have h6 := (hn5 h).2
     have h7 : tl = [] := List.eq_nil_of_length_eq_zero (by rw [HTLL.out]; exact h6)
     rw [h7]; rfl⟩)
    rw [HTLL.out] at hst5
    have HST5 := hG hst5; have HRV := hG hrv; have HO5 := hG ho5; have HB15 := hG hb15
    clear hst5 hrv hc5 hown5 hgrow5 hb5 hb14 hb15 ho5 hn5 hb1 HO4 HA4 HNW HB1
    go_wp2_with fail
    refine HST5.out.mono ?_
    rintro e w6 ⟨⟨rfl, hcl⟩, rfl⟩
    have HR0 := hG (HRV.out _ hcl)
    clear hcl
    generalize (Value.slice g5 (dig (val tl)).length c5) = rv0 at *
    go_wp2
    go_loopw [8, 9] (fun rv iv wr => ∃ (j : Nat) (hs : List Nat) (r : Nat), j <= f + 1 /\ iv = .int .i64 ((j : Int) - 1) /\ hs.length + j = la /\ Sm hs /\ r < b /\ val ((dig A).drop j) = b * val hs + r /\ RV wr rv r /\ wr.ownsRow w.heap.size 3 1 (.slice (some ⟨w1.heap.size, 0, none⟩) la la) la (zs (List.replicate j 0 ++ hs)) /\ w1.heap.size < wr.heap.size /\ Below w.heap.size w wr) (fun _ iv _ => (intOf iv + 1).toNat)
    case atStart =>
     refine ⟨f + 1, List.replicate (la - (f + 1)) 0, val tl, Nat.le_refl _, congrArg (Value.int .i64) (by omega), by rw [List.length_replicate]; omega, sm_zeros _, by rw [HTL.out]; exact HST.out, by rw [val_zeros, HTL.out]; simp, HR0.out, ?_, (HO5.out.lt w1.heap.size rfl).2, HB15.out⟩
     rw [List.replicate_append_replicate, show f + 1 + (la - (f + 1)) = la from by omega]
     exact HO5.out
    case round =>
     have HW1 := hG hz1'
     clear HR0 HO5 HB15 hz5 hz4 hz1'
     obtain ⟨j, hs, r, hj, rfl, hsl, hss, hrb, hval, hrv, hown, hsz, hbr⟩ := hrel
     have HSL := hG hsl; have HSS := hG hss; have HVL := hG hval; have HRW := hG hrv; have HO := hG hown
     have hbz := hbr.size
     clear hsl hss hval hrv hown
     rcases Nat.eq_zero_or_pos j with hj0 | hj0
     · subst hj0
       obtain ⟨a5, c5, h5, h6⟩ := own_cells HO.out
       simp only [Value.slice.injEq, true_and] at h5
       obtain ⟨rfl, rfl⟩ := h5
       have hsl := HSL.out
       rw [Nat.add_zero] at hsl
       rw [List.replicate_zero, List.nil_append] at h6
       have hst := strip_any _ hs la wr h6 HSS.out (by omega) (by omega) (by omega)
       have hvl := HVL.out
       rw [List.drop_zero, val_dig] at hvl
       have hq : A / b = val hs := by
        rw [hvl, Nat.mul_add_div (by omega), Nat.div_eq_of_lt hrb, Nat.add_zero]
       have hr : A % b = r := by
        rw [hvl, Nat.mul_add_mod, Nat.mod_eq_of_lt hrb]
       have hdl := dig_len_val HSS.out
       rw [hsl] at hst hdl
       have HSTR := hG hst; have HQ := hG hq; have HR := hG hr
       clear hst hq hr hvl h6 HVL
       go_wp2_with fail
       refine HSTR.out.mono ?_
       rintro e w7 ⟨⟨rfl, h7⟩, rfl⟩
       have H7 := hG h7; clear h7
       go_wp2
       go_ret2
       exact ⟨⟨_, _, rfl, by rw [HQ.out]; exact ⟨_, _, rfl, H7.out, hdl, by omega⟩, by rw [HR.out]; exact HRW.out.mv⟩, hbr⟩
     · obtain ⟨i, rfl⟩ : ∃ i, j = i + 1 := ⟨j - 1, by omega⟩
       obtain ⟨x, hx⟩ := get_of_lt (show i < (dig A).length by rw [HLA.out]; omega)
       have hxB := sm_get (sm_dig A) hx
       have hstep := div_step (b := b) hx HVL.out
       have c1 := zcell (HA.out.below hbr lc) hx
       have e1 : (((i + 1 : Nat) : Int) - 1) = (i : Int) := by omega
       have e2 : (0 : Int) <= (i : Int) := by omega
       have e3 : (i : Int) < (la : Int) := by omega
       have e4 : (i : Int).toNat = i := by omega
       have e6 : IntKind.i64.wrap ((i : Int) - 1) = (i : Int) - 1 := IntWalk.i64_in _ (by omega)
       rw [e1]
       have hB : B = 10000 := rfl
       have hRb : x + B * r < B * b := by
        have h5 : B * (r + 1) <= B * b := Nat.mul_le_mul_left _ hrb
        rw [Nat.mul_add] at h5
        omega
       have hrl : (dig r).length <= lb := by rw [<- HLB.out]; exact dig_len_mono (Nat.le_of_lt hrb)
       have hvR : val (x :: dig r) = x + B * r := by rw [val, val_dig]
       have hsR : Sm (x :: dig r) := by
        intro d hd
        rcases List.mem_cons.1 hd with h5 | h5
        · subst h5; rw [hB]; omega
        · exact sm_dig r d h5
       have HVR := hG hvR; have HSR := hG hsR; have HSTEP := hG hstep; have HRB := hG hRb
       have hal := (Below.refl wr.heap.size wr).alloc lc (.cells #[.int .i64 (x : Nat)] 3)
       have HSRC := hG (HRW.out.below hal lc).src
       have hlit := World.ownsRow_lit (base := wr.heap.size) (e := 3) (size := 1) wr #[.int .i64 (x : Nat)] 1 lc (by unfold maxLen; omega) (by rfl)
       have HLIT := hG hlit
       clear hvR hsR hstep hRb hlit hx e1
       go_wp2_with (at_builtin; refine wpList_append_src rfl _ _ 43 rfl wr.heap.size 3 i0 (.int .i64 0) 1 8 Tryz.underlying43 hi hz0 hz1 hz2 rfl (by decide) _ 1 [.int .i64 (x : Nat)] rfl HLIT.out _ (dig r).length (zs (dig r)) rfl HSRC.out (by rw [zs_length, Nat.mul_one]) (zs_one _) (by unfold maxLen; omega) (by omega) (by simp) ?_; intro v2 w2 hown2 hgrow2; refine Hid.out ?_)
       refine hG ?_
       have hb2 : Below wr.heap.size wr w2 := hal.grown hgrow2 (by simp) (fun k hk => by cases hk; exact Nat.le_refl _)
       have hoq := (HO.out.alloc (.cells #[.int .i64 (x : Nat)] 3)).kept hgrow2 (.inr (show some w1.heap.size ≠ some wr.heap.size from by intro h; have := Option.some.inj h; omega))
       have hor : w2.ownsRow wr.heap.size 3 1 v2 ((dig r).length + 1) (zs (x :: dig r)) := by rw [Nat.add_comm]; exact hown2
       obtain ⟨g2, c2, rfl, hc2, hl2, hm2, -⟩ := own_cap2 hor
       obtain ⟨g3, c3, h3, -, -⟩ := hor.form (by omega)
       simp only [Value.slice.injEq] at h3
       obtain ⟨rfl, -, -⟩ := h3
       unfold maxLen at hm2
       have hst := strip_any _ (x :: dig r) c2 w2 hc2 HSR.out (by simp only [List.length_cons]; omega) (by simp only [List.length_cons]; omega) (by omega)
       have hdl := dig_len_val HSR.out
       simp only [List.length_cons] at hst hdl
       rw [HVR.out] at hst hdl
       have hbw2 := hbr.trans (hb2.mono hbz)
       have hz2 := hb2.size
       have HSTR := hG hst; have HOR := hG hor; have HOQ := hG hoq; have HBW2 := hG hbw2
       clear hst hor hoq hc2 hown2 hgrow2 hal hb2 hbw2 HSRC HLIT HO HRW c1
       obtain ⟨R, hR⟩ : ∃ R, R = x + B * r := ⟨_, rfl⟩
       rw [<- hR] at HSTR HSTEP HRB HVR hdl
       have hmvR : ∀ W, Cells W (some ⟨g3, 0, none⟩) (zs (x :: dig r)) -> MV W (.slice (some ⟨g3, 0, none⟩) (dig R).length c2) R := fun W h => ⟨_, c2, rfl, by have := strip_cells _ h HSR.out; rwa [HVR.out] at this, by omega, by omega⟩
       have HMVR := hG hmvR
       have hcR : Cells w2 (some ⟨g3, 0, none⟩) (zs (x :: dig r)) := by
        obtain ⟨a5, c5, h5, h6⟩ := own_cells HOR.out
        simp only [Value.slice.injEq] at h5
        obtain ⟨rfl, -, -⟩ := h5
        exact h6
       have hcmp := compare_mv _ _ R b w2 (hmvR w2 hcR) (HMB.out.below HBW2.out lc) (by omega) (by rw [HLB.out]; omega)
       have HCMP := hG hcmp; have HCR := hG hcR
       clear hmvR hcmp hcR
       go_wp2_with fail
       refine HSTR.out.mono ?_
       rintro e w3 ⟨⟨rfl, -⟩, rfl⟩
       rcases Nat.lt_or_ge R b with hlt | hge2
       · rw [cmpN_lt hlt] at HCMP
         have hq0 : R / b = 0 := Nat.div_eq_of_lt hlt
         have hr0 : R % b = R := Nat.mod_eq_of_lt hlt
         rw [hq0, hr0] at HSTEP
         clear hR
         go_wp2_with fail
         refine HCMP.out.mono ?_
         rintro e w3 ⟨rfl, hb3⟩
         have HB3 := hG hb3
         have hz3 := hb3.size
         clear hb3
         go_wp2
         go_roundw
         case rel =>
          refine ⟨i, 0 :: hs, R, by omega, rfl, by rw [List.length_cons, <- HSL.out]; omega, fun d hd => ?_, hlt, HSTEP.out, ?_, ?_, by omega, HBW2.out.trans (HB3.out.mono HBW2.out.size)⟩
          · rcases List.mem_cons.1 hd with h5 | h5
            · subst h5; exact B_pos
            · exact HSS.out d h5
          · have h7 := (HMVR.out w3 (HCR.out.below HB3.out lc))
            obtain ⟨a5, c5, h5, h6, h8, h9⟩ := h7
            simp only [Value.slice.injEq, true_and] at h5
            obtain ⟨rfl, rfl⟩ := h5
            exact .inl ⟨_, _, rfl, h6, h8, h9⟩
          · have h7 := own_belowZ HOQ.out HB3.out lc
            rwa [show List.replicate (i + 1) 0 ++ hs = List.replicate i 0 ++ 0 :: hs from by rw [List.replicate_succ', List.append_assoc]; rfl] at h7
         case measure => simp [intOf]
       · have hcm2 : ¬ cmpN R b < 0 := by unfold cmpN; rw [if_neg (by omega)]; split <;> omega
         generalize cmpN R b = cm2 at *
         have i1 : (0 : Int) <= cm2 := by omega
         obtain ⟨n, hn⟩ : ∃ n, n = R / b := ⟨_, rfl⟩
         have hnB : n < B := by rw [hn]; exact Nat.div_lt_of_lt_mul (by rw [Nat.mul_comm]; exact HRB.out)
         have hle : b * n <= R := by rw [hn]; exact Nat.mul_div_le R b
         have hmod : R - b * n = R % b := by rw [hn]; have := Nat.div_add_mod R b; omega
         have hmb : R % b < b := Nat.mod_lt _ (by omega)
         rw [<- hn] at HSTEP
         rw [<- hmod] at HSTEP hmb
         have hdig := fun W (h1 : MV W (.slice (some ⟨g3, 0, none⟩) (dig R).length c2) R) (h2 : MV W (.slice ab lb cb) b) => digit_any _ _ R b W h1 h2 h0 HRB.out (by rw [HLB.out]; omega)
         rw [<- hn] at hdig
         have HDIG := hG hdig
         clear hdig hn hmod hR
         go_wp2_with fail
         refine HCMP.out.mono ?_
         rintro e w3 ⟨rfl, hb3⟩
         have hbw3 := HBW2.out.trans (hb3.mono HBW2.out.size)
         have hc3 := HCR.out.below hb3 lc
         have hdg := HDIG.out w3 (HMVR.out w3 hc3) (HMB.out.below hbw3 lc)
         have HDG := hG hdg; have HB3 := hG hb3
         have hz3 := hb3.size
         clear hdg hc3 hb3
         go_wp2_with fail
         refine HDG.out.mono ?_
         rintro e w4 ⟨rfl, hb4⟩
         have hz4 := hb4.size
         have hb24 := HB3.out.trans (hb4.mono hz3)
         have hoq4 := own_belowZ HOQ.out hb24 lc
         have hor4 := own_belowZ HOR.out hb24 lc
         have hc4 := hoq4.cellAt i (by omega)
         rw [zs_get (d := 0) (by rw [List.getElem?_append_left (by rw [List.length_replicate]; omega)]; simp)] at hc4
         have hf4 := hoq4.frozenAt i
         have hsto := (hoq4.stored i (.int .i64 (n : Nat))).1
         rw [set_zeros] at hsto
         have hors := ownsRow_setCell_below hor4 (a := ⟨w1.heap.size, i, none⟩) hsz (.int .i64 (n : Nat))
         have hbws := (hbw3.trans (hb4.mono hbw3.size)).setCell (p := ⟨w1.heap.size, i, none⟩) (by show w.heap.size <= w1.heap.size; exact HW1.out) (.int .i64 (n : Nat))
         have hcRs : Cells (w4.setCell ⟨w1.heap.size, i, none⟩ (.int .i64 (n : Nat))) (some ⟨g3, 0, none⟩) (zs (x :: dig r)) := by
          obtain ⟨a5, c5, h5, h6⟩ := own_cells hors
          simp only [Value.slice.injEq] at h5
          obtain ⟨rfl, -, -⟩ := h5
          exact h6
         have hti := times_any _ b n _ (HMB.out.below hbws lc) (by rw [HLB.out]; omega) (by rw [hB] at hnB; omega)
         have HSTO := hG hsto; have HBWS := hG hbws; have HTI := hG hti; have HMS := hG (HMVR.out _ hcRs)
         clear hsto hors hbws hcRs hti hoq4 hor4 hb24 hbw3 HOQ HOR HCR
         go_wp2_with fail
         refine HTI.out.mono ?_
         rintro e w6 ⟨⟨vt, rfl, hvt⟩, hb6⟩
         have hle2 := less_any _ vt R (b * n) w6 (HMS.out.below hb6 lc) hvt hle (by omega)
         have HLE := hG hle2; have HB6 := hG hb6
         have hz6 := hb6.size
         rw [World.size_setCell] at hz6
         clear hle2 hvt hb6
         go_wp2_with fail
         refine HLE.out.mono ?_
         rintro e w7 ⟨⟨vl, rfl, hvl⟩, hb7⟩
         have HVL2 := hG hvl; have HB7 := hG hb7
         have hz7 := hb7.size
         clear hvl hb7
         go_wp2
         go_roundw
         case rel =>
          refine ⟨i, n :: hs, R - b * n, by omega, rfl, by rw [List.length_cons, <- HSL.out]; omega, fun d hd => ?_, hmb, HSTEP.out, HVL2.out, ?_, by omega, ?_⟩
          · rcases List.mem_cons.1 hd with h5 | h5
            · subst h5; exact hnB
            · exact HSS.out d h5
          · exact own_belowZ (own_belowZ HSTO.out HB6.out lc) HB7.out lc
          · have h8 := HBWS.out.size
            have h9 := HB6.out.size
            exact (HBWS.out.trans (HB6.out.mono h8)).trans (HB7.out.mono (Nat.le_trans h8 h9))
         case measure => simp [intOf]
end Go.Proofs.YtahnadhlagabgaaGreatDoor.Z4
