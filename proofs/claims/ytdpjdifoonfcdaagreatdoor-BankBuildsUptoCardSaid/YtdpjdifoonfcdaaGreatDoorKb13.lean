/- Parts of a proof, in build order: Z5, Z6, Zi, So, Z7, Z8, Z9, Zl, O0. -/
import Derived.Test.YtdpjdifoonfcdaaGreatDoorKb12

namespace Go.Proofs.YtdpjdifoonfcdaaGreatDoor.Z4
open Go.RowKit
theorem val_zeros (n : Nat) : val (List.replicate n 0) = 0 := by
 rw [val_eq_zero]; intro d hd; exact (List.mem_replicate.1 hd).2
theorem sm_zeros (n : Nat) : Sm (List.replicate n 0) := by intro d hd; rw [(List.mem_replicate.1 hd).2]; exact B_pos
theorem val_set : ∀ (l : List Nat) (j o d : Nat), l[j]? = some o -> val (l.set j d) + B ^ j * o = val l + B ^ j * d
 | [], j, o, d, h => by simp at h
 | x :: l, 0, o, d, h => by
   simp at h; subst h
   simp only [List.set_cons_zero, val, Nat.pow_zero, Nat.one_mul]; omega
 | x :: l, j + 1, o, d, h => by
   have := val_set l j o d (by simpa using h)
   simp only [List.set_cons_succ, val, Nat.pow_succ]
   have h2 : B * (val (l.set j d) + B ^ j * o) = B * (val l + B ^ j * d) := by rw [this]
   rw [Nat.mul_add, Nat.mul_add] at h2
   rw [Nat.mul_comm (B ^ j) B, Nat.mul_assoc, Nat.mul_assoc]
   omega
theorem sm_set {l : List Nat} (h : Sm l) (j : Nat) {d : Nat} (hd : d < B) : Sm (l.set j d) := by
 intro x hx
 rcases List.mem_or_eq_of_mem_set hx with h1 | h1
 · exact h x h1
 · rw [h1]; exact hd
theorem zs_set (l : List Nat) (j d : Nat) : (zs l).set j (.int .i64 (d : Nat)) = zs (l.set j d) := by
 unfold zs; rw [List.map_set]
theorem zs_zeros (n : Nat) : (madeCells (Value.int .i64 0).cells (n * 1)).toList = zs (List.replicate n 0) := by
 rw [show (Value.int .i64 0).cells = #[Value.int .i64 0] from rfl, toList_madeCells_one]; simp [zs]
theorem mul_step {lo l2 : List Nat} {i q C o x y P : Nat} (ho : lo[i + q]? = some o) (hy : l2.getD q 0 = y) (h : val lo + C * B ^ (i + q) = P + B ^ i * (x * val (l2.take q))) :
 val (lo.set (i + q) ((C + o + x * y) % B)) + (C + o + x * y) / B * B ^ (i + (q + 1)) = P + B ^ i * (x * val (l2.take (q + 1))) := by
 have h1 := val_set lo (i + q) o ((C + o + x * y) % B) ho
 rw [val_take_succ, hy, Nat.mul_add x, Nat.mul_add, <- Nat.add_assoc i q 1, Nat.pow_succ]
 have h2 : B ^ i * (x * (B ^ q * y)) = B ^ (i + q) * (x * y) := by
  rw [Nat.pow_add, Nat.mul_assoc, Nat.mul_left_comm x]
 have h3 : (C + o + x * y) / B * (B ^ (i + q) * B) = B ^ (i + q) * (B * ((C + o + x * y) / B)) := by
  rw [Nat.mul_comm ((C + o + x * y) / B), Nat.mul_assoc]
 have h4 : B ^ (i + q) * (B * ((C + o + x * y) / B)) + B ^ (i + q) * ((C + o + x * y) % B) = B ^ (i + q) * C + B ^ (i + q) * o + B ^ (i + q) * (x * y) := by
  rw [<- Nat.mul_add, Nat.div_add_mod, Nat.mul_add, Nat.mul_add]
 rw [Nat.mul_comm C] at h
 omega
theorem mul_room {lo l1 l2 : List Nat} {i q C x L : Nat} (h1 : Sm l1) (h2 : Sm l2) (hx : l1[i]? = some x) (hL : L = l1.length + l2.length) (h : val lo + C * B ^ (i + q) = val (l1.take i) * val l2 + B ^ i * (x * val (l2.take q))) (hq : l2.length <= q) (hiq : L <= i + q) : C = 0 := by
 rcases Nat.eq_zero_or_pos C with h0 | h0
 · exact h0
 · exfalso
   rw [List.take_of_length_le hq] at h
   have hi := (List.getElem?_eq_some_iff.1 hx).1
   have e1 : val (l1.take i) * val l2 + B ^ i * (x * val l2) = val (l1.take (i + 1)) * val l2 := by
    rw [take_get hx, val_snoc, List.length_take, Nat.min_eq_left (by omega), Nat.add_mul, Nat.mul_assoc]
   rw [e1] at h
   have e2 : val (l1.take (i + 1)) < B ^ (i + 1) := by
    have := val_lt (xs := l1.take (i + 1)) (fun d hd => h1 d (List.mem_of_mem_take hd))
    rwa [List.length_take, Nat.min_eq_left (by omega)] at this
   have e3 := val_lt h2
   have e4 : val (l1.take (i + 1)) * val l2 <= B ^ (i + 1) * val l2 := Nat.mul_le_mul_right _ (by omega)
   have hp : 0 < B ^ (i + 1) := Nat.pow_pos B_pos
   have e5 : B ^ (i + 1) * val l2 < B ^ (i + 1) * B ^ l2.length := Nat.mul_lt_mul_of_pos_left e3 hp
   have e6 : B ^ (i + 1) * B ^ l2.length <= B ^ (i + q) := by rw [<- Nat.pow_add]; exact Nat.pow_le_pow_right B_pos (by omega)
   have e7 : 1 * B ^ (i + q) <= C * B ^ (i + q) := Nat.mul_le_mul_right _ h0
   omega
theorem mul_row {lo l1 l2 : List Nat} {i q x : Nat} (hx : l1[i]? = some x) (hq : l2.length <= q) (h : val lo + 0 * B ^ (i + q) = val (l1.take i) * val l2 + B ^ i * (x * val (l2.take q))) : val lo = val (l1.take (i + 1)) * val l2 := by
 have hi := (List.getElem?_eq_some_iff.1 hx).1
 rw [List.take_of_length_le hq] at h
 rw [take_get hx, val_snoc, List.length_take, Nat.min_eq_left (by omega), Nat.add_mul, Nat.mul_assoc]
 omega
theorem boxes3 {w w1 : World} {A1 A2 A3 : Array Value} {T1 T2 T3 : TypeId} {B : Nat} (hb : Below B (((w.alloc (.cells A1 T1)).alloc (.cells A2 T2)).alloc (.cells A3 T3)) w1) (hB : w.heap.size + 2 < B) :
 (∀ i, w1.cell? ⟨w.heap.size, i, none⟩ = A1[i]?) /\ (∀ i, w1.cell? ⟨w.heap.size + 1, i, none⟩ = A2[i]?) /\ (∀ i, w1.cell? ⟨w.heap.size + 2, i, none⟩ = A3[i]?) /\ (∀ i, w1.frozen? ⟨w.heap.size + 2, i, none⟩ = false) := by
 refine ⟨fun i => ?_, fun i => ?_, fun i => ?_, fun i => ?_⟩
 · rw [hb.cell (p := ⟨w.heap.size, i, none⟩) (show w.heap.size < B by omega), World.cell?_alloc_old _ _ _ (by simp; omega), World.cell?_alloc_old _ _ _ (by simp)]; simp
 · rw [hb.cell (p := ⟨w.heap.size + 1, i, none⟩) (show w.heap.size + 1 < B by omega)]
   have := box_keep (w := w.alloc (.cells A1 T1)) (B := w.heap.size + 3) (Below.refl _ ((((w.alloc (.cells A1 T1)).alloc (.cells A2 T2)))) ) (by simp) i
   rw [World.cell?_alloc_old _ _ _ (by simp)]
   rw [World.size_alloc] at this
   exact this
 · have := box_keep (w := (w.alloc (.cells A1 T1)).alloc (.cells A2 T2)) hb (by simp; omega) i
   simpa using this
 · have := box_free (w := (w.alloc (.cells A1 T1)).alloc (.cells A2 T2)) hb (by simp; omega) i
   simpa using this
theorem dig_take : ∀ (n : Nat) (l : List Nat), l.length = n -> Sm l -> dig (val l) = l.take (dig (val l)).length := by
 intro n
 induction n with
 | zero => intro l hl _; rw [List.length_eq_zero_iff.1 hl]; simp [val, dig_zero]
 | succ n ih =>
   intro l hl hs
   by_cases h : l.getLast? = some 0
   · obtain ⟨l', rfl⟩ : ∃ l', l = l' ++ [0] := by
      rcases List.eq_nil_or_concat l with rfl | ⟨l', b, rfl⟩
      · simp at hl
      · simp at h; exact ⟨l', by simp [h]⟩
     have hs' : Sm l' := fun d hd => hs d (by simp [hd])
     have hv : val (l' ++ [0]) = val l' := by rw [val_snoc]; simp
     have h1 := ih l' (by simpa using hl) hs'
     have h2 := dig_len_val hs'
     rw [hv, List.take_append_of_le_length h2]; exact h1
   · rw [dig_val hs h, List.take_length]
theorem strip_cells {w : World} {ao : Option Addr} (l : List Nat) (h : Cells w ao (zs l)) (hs : Sm l) : Cells w ao (zs (dig (val l))) := by
 have h1 := dig_take _ l rfl hs
 rw [h1, zs, List.map_take]
 exact h.take _
theorem mul_dig {x y : Nat} (hx : x <= 9999) (hy : y <= 9999) : x * y <= 99980001 := Nat.mul_le_mul hx hy
theorem carry_le {n : Nat} (h : n <= 99999999) : n / B <= 9999 := by simp only [B]; omega
set_option maxRecDepth 100000 in
set_option maxHeartbeats 4000000 in
theorem zMul_lists (s1 s2 : Bool) (aa ab : Option Addr) (l1 l2 : List Nat) (ca cb : Nat) (w : World) (ha : Cells w aa (zs l1)) (hb : Cells w ab (zs l2)) (h1 : Sm l1) (h2 : Sm l2) (hl : l1.length + l2.length <= 1099511627776) :
 Calls Tryz.prog 357 #[.agg #[.bool s1, .slice aa l1.length ca], .agg #[.bool s2, .slice ab l2.length cb]] w fun e w' => (∃ a c, e = .returned (.agg #[.bool ((s1 != s2) && decide (0 < (dig (val l1 * val l2)).length)), .slice a (dig (val l1 * val l2)).length c]) /\ Cells w' a (zs (dig (val l1 * val l2))) /\ (dig (val l1 * val l2)).length <= c /\ c <= 9223372036854775807) /\ Below w.heap.size w w' := by
 obtain ⟨i0, hi, hz0, hz1, hz2⟩ := info_parts Tryz.infoInt
 have HA := Lib.hid ha; have HB := Lib.hid hb; have H1 := Lib.hid h1; have H2 := Lib.hid h2
 clear ha hb h1 h2
 have hbw : Below w.heap.size w (((w.alloc (.cells #[.bool s1, .slice aa l1.length ca] 350)).alloc (.cells #[.bool s2, .slice ab l2.length cb] 350)).alloc (.cells #[.bool false, .slice none 0 0] 350)) := (((Below.refl w.heap.size w).alloc (Nat.le_refl _) _).alloc (by simp) _).alloc (by simp; omega) _
 have HBW := Lib.hid hbw; clear hbw
 go_enter Tryz.func357, Tryz.ntmps357
 go_wp2_with (at_make; refine wpList_make_full _ rfl _ _ 24 rfl (w.heap.size + 3) 3 i0 (.int .i64 0) 1 Tryz.underlying24 hi hz0 hz1 .i64 .i64 _ _ (l1.length + l2.length) (by congr 1) (by congr 1) (by omega) (by omega) (by rw [hz2]; omega) (by unfold maxLen; omega) (by simp) ?_; intro w4 hown4 hgrow4)
 rw [zs_zeros] at hown4
 have hb4 : Below (w.heap.size + 3) (((w.alloc (.cells #[.bool s1, .slice aa l1.length ca] 350)).alloc (.cells #[.bool s2, .slice ab l2.length cb] 350)).alloc (.cells #[.bool false, .slice none 0 0] 350)) w4 := (Below.refl (w.heap.size + 3) (((w.alloc (.cells #[.bool s1, .slice aa l1.length ca] 350)).alloc (.cells #[.bool s2, .slice ab l2.length cb] 350)).alloc (.cells #[.bool false, .slice none 0 0] 350))).grown hgrow4 (by simp) (fun _ h => by cases h)
 rw [show (((w.alloc (.cells #[.bool s1, .slice aa l1.length ca] 350)).alloc (.cells #[.bool s2, .slice ab l2.length cb] 350)).alloc (.cells #[.bool false, .slice none 0 0] 350)).heap.size = w.heap.size + 3 from by simp] at hown4
 have HO4 := Lib.hid hown4; have HB4 := Lib.hid hb4
 clear hown4 hb4 hgrow4
 go_wp2
 go_loopw [6] (fun iv wr => ∃ (i : Nat) (lo : List Nat), i <= l1.length /\ iv = .int .i64 i /\ lo.length = l1.length + l2.length /\ Sm lo /\ val lo = val (l1.take i) * val l2 /\ wr.ownsRow (w.heap.size + 3) 3 1 (.slice (some ⟨w.heap.size + 3, 0, none⟩) (l1.length + l2.length) (l1.length + l2.length)) (l1.length + l2.length) (zs lo) /\ Below (w.heap.size + 3) (((w.alloc (.cells #[.bool s1, .slice aa l1.length ca] 350)).alloc (.cells #[.bool s2, .slice ab l2.length cb] 350)).alloc (.cells #[.bool false, .slice none 0 0] 350)) wr) (fun iv _ => l1.length - (intOf iv).toNat)
 case atStart => exact ⟨0, List.replicate (l1.length + l2.length) 0, Nat.zero_le _, rfl, by simp, sm_zeros _, by rw [val_zeros]; simp [val], HO4.out, HB4.out⟩
 case round =>
  clear HO4 HB4
  obtain ⟨i, lo, hi9, rfl, hlo, hsm, hval, hown, hbr⟩ := hrel
  have HLO := Lib.hid hlo; have HSM := Lib.hid hsm; have HVL := Lib.hid hval; have HO := Lib.hid hown
  clear hlo hsm hval hown
  obtain ⟨q0, q1, q2, f2⟩ := boxes3 hbr (by omega)
  have r0 := q0 0
  have r1 := q1 0
  have q0 := q0 1
  have q1 := q1 1
  simp only [List.getElem?_toArray, List.getElem?_cons_succ, List.getElem?_cons_zero] at q0 q1 r0 r1
  by_cases hlt : i < l1.length
  · obtain ⟨x, hx⟩ := get_of_lt hlt
    have hxB := sm_get H1.out hx
    obtain ⟨b1, o1, rfl⟩ := HA.out.addr (zs_ne (by omega))
    have i1 : (i : Int) < l1.length := by omega
    have HX := Lib.hid hx; clear hx q2 f2 r0 r1
    go_wp2
    clear q0 q1
    go_loopw [7, 8] (fun cv kv wi => ∃ (q C : Nat) (lo : List Nat), i + q <= l1.length + l2.length /\ kv = .int .i64 q /\ cv = .int .i64 C /\ C <= 9999 /\ lo.length = l1.length + l2.length /\ Sm lo /\ val lo + C * B ^ (i + q) = val (l1.take i) * val l2 + B ^ i * (x * val (l2.take q)) /\ wi.ownsRow (w.heap.size + 3) 3 1 (.slice (some ⟨w.heap.size + 3, 0, none⟩) (l1.length + l2.length) (l1.length + l2.length)) (l1.length + l2.length) (zs lo) /\ Below (w.heap.size + 3) (((w.alloc (.cells #[.bool s1, .slice (some ⟨b1, o1, none⟩) l1.length ca] 350)).alloc (.cells #[.bool s2, .slice ab l2.length cb] 350)).alloc (.cells #[.bool false, .slice none 0 0] 350)) wi) (fun _ kv _ => l1.length + l2.length - (intOf kv).toNat)
    case atStart => exact ⟨0, 0, lo, by omega, rfl, rfl, by omega, HLO.out, HSM.out, by rw [HVL.out]; simp [val], HO.out, hbr⟩
    case round =>
     clear hbr HO HLO HSM HVL
     obtain ⟨q, C, lo, hiq, rfl, rfl, hC, hlo, hsm, hval, hown, hbi⟩ := hrel
     have HLO := Lib.hid hlo; have HSM := Lib.hid hsm; have HVL := Lib.hid hval
     obtain ⟨q0, q1, -, -⟩ := boxes3 hbi (by omega)
     have q0 := q0 1
     have q1 := q1 1
     simp only [List.getElem?_toArray, List.getElem?_cons_succ, List.getElem?_cons_zero] at q0 q1
     have j2 : (0 : Int) <= (i : Int) + q := by omega
     have j4 : ((i : Int) + q).toNat = i + q := by omega
     have j5 : IntKind.i64.wrap ((i : Int) + q) = (i : Int) + q := IntWalk.i64_in _ (by omega)
     have j6 : IntKind.i64.wrap ((q : Int) + 1) = (q : Int) + 1 := IntWalk.i64_in _ (by omega)
     by_cases hlt2 : q < l2.length
     · obtain ⟨y, hy⟩ := get_of_lt hlt2
       have hyB := sm_get H2.out hy
       have hyd : l2.getD q 0 = y := by simp [List.getD, hy]
       obtain ⟨b2, o2, rfl⟩ := HB.out.addr (zs_ne (by omega))
       have hbwi := HBW.out.trans (hbi.mono (by omega))
       have c1 := zcell (HA.out.below hbwi (Nat.le_refl _)) HX.out
       have c2 := zcell (HB.out.below hbwi (Nat.le_refl _)) hy
       obtain ⟨o, ho⟩ := get_of_lt (show i + q < lo.length by omega)
       have hoB := sm_get hsm ho
       have hxy := mul_dig hxB hyB
       have p0 : (0 : Int) <= (x : Int) * y := Int.mul_nonneg (by omega) (by omega)
       have p1 : (x : Int) * y <= 99980001 := by
        have : ((x * y : Nat) : Int) <= 99980001 := by omega
        simpa using this
       have HVN := Lib.hid (mul_step (y := y) ho hyd hval)
       have j1 : (q : Int) < l2.length := by omega
       have j3 : (i : Int) + q < ((l1.length + l2.length : Nat) : Int) := by omega
       have c3 := hown.cellAt (i + q) (by omega)
       rw [zs_get ho] at c3
       have c4 := hown.frozenAt (i + q)
       have hsto := (hown.stored (i + q) (.int .i64 ((C + o + x * y) % B : Nat))).1
       rw [zs_set] at hsto
       have hb2 := hbi.setCell (p := ⟨w.heap.size + 3, i + q, none⟩) (Nat.le_refl _) (.int .i64 ((C + o + x * y) % B : Nat))
       have hcl : (C + o + x * y) / B <= 9999 := carry_le (by omega)
       have E1 := Lib.hid (show (((C : Int) + (o : Int) + (x : Int) * y) % 10000) = (((C + o + x * y) % B : Nat) : Int) from by simp [B])
       have E2 := Lib.hid (show (((C : Int) + (o : Int) + (x : Int) * y) / 10000) = (((C + o + x * y) / B : Nat) : Int) from by simp [B])
       have HS2 := Lib.hid (sm_set hsm (i + q) (Nat.mod_lt (C + o + x * y) B_pos))
       have HST := Lib.hid hsto; have HB2 := Lib.hid hb2
       have HCL := Lib.hid hcl
       clear ho hyd hval hsm hown hsto hb2 hcl
       go_wp2_with fail
       go_quiet (fail)
       go_wp2
       go_roundw
       case rel => exact ⟨q + 1, (C + o + x * y) / B, lo.set (i + q) ((C + o + x * y) % B), by omega, by go_num, by rw [E2.out], HCL.out, by rw [List.length_set]; exact HLO.out, HS2.out, HVN.out, by rw [E1.out]; exact HST.out, by rw [E1.out]; exact (bel_drewN hbi _).setCell (Nat.le_refl _) _⟩
       case measure => simp [intOf]; omega
     · have hyd : l2.getD q 0 = 0 := by simp [List.getD, List.getElem?_eq_none (show l2.length <= q by omega)]
       have j1 : ¬ (q : Int) < l2.length := by omega
       by_cases hC0 : C = 0
       · subst hC0
         have hrow := mul_row HX.out (by omega) hval
         have HRW := Lib.hid hrow; have HO := Lib.hid hown
         clear hown hrow hval hsm hlo hyd
         go_wp2
         go_roundw
         case rel => exact ⟨i + 1, lo, by omega, by go_num, HLO.out, HSM.out, HRW.out, HO.out, hbi⟩
         case measure => simp [intOf]; omega
       · have hiq2 : i + q < l1.length + l2.length := by
          rcases Nat.lt_or_ge (i + q) (l1.length + l2.length) with h | h
          · exact h
          · exact absurd (mul_room H1.out H2.out HX.out rfl hval (by omega) h) hC0
         have hCp : (0 : Int) < C := by omega
         obtain ⟨o, ho⟩ := get_of_lt (show i + q < lo.length by omega)
         have hoB := sm_get hsm ho
         have HVN := Lib.hid (mul_step (y := 0) ho hyd hval)
         rw [Nat.mul_zero, Nat.add_zero] at HVN
         have j3 : (i : Int) + q < ((l1.length + l2.length : Nat) : Int) := by omega
         have c3 := hown.cellAt (i + q) (by omega)
         rw [zs_get ho] at c3
         have c4 := hown.frozenAt (i + q)
         have hsto := (hown.stored (i + q) (.int .i64 ((C + o) % B : Nat))).1
         rw [zs_set] at hsto
         have hb2 := hbi.setCell (p := ⟨w.heap.size + 3, i + q, none⟩) (Nat.le_refl _) (.int .i64 ((C + o) % B : Nat))
         have hcl : (C + o) / B <= 9999 := carry_le (by omega)
         have E1 := Lib.hid (show (((C : Int) + (o : Int)) % 10000) = (((C + o) % B : Nat) : Int) from by simp [B])
         have E2 := Lib.hid (show (((C : Int) + (o : Int)) / 10000) = (((C + o) / B : Nat) : Int) from by simp [B])
         have HS2 := Lib.hid (sm_set hsm (i + q) (Nat.mod_lt (C + o) B_pos))
         have HST := Lib.hid hsto; have HB2 := Lib.hid hb2
         have HCL := Lib.hid hcl
         clear ho hyd hval hsm hown hsto hb2 hcl
         go_wp2_with fail
         go_roundw
         case rel => exact ⟨q + 1, (C + o) / B, lo.set (i + q) ((C + o) % B), by omega, by go_num, by rw [E2.out], HCL.out, by rw [List.length_set]; exact HLO.out, HS2.out, HVN.out, by rw [E1.out]; exact HST.out, by rw [E1.out]; exact HB2.out⟩
         case measure => simp [intOf]; omega
  · obtain rfl : i = l1.length := by omega
    have hv := HVL.out
    rw [List.take_length] at hv
    obtain ⟨g, c, hge, hcs, hc1, hc2⟩ := own_cap HO.out
    simp only [Value.slice.injEq, true_and] at hge
    obtain ⟨rfl, rfl⟩ := hge
    have hll := HLO.out
    have hmd := made_any (!(s1 == s2)) (some ⟨w.heap.size + 3, 0, none⟩) lo (l1.length + l2.length) wr hcs HSM.out (by omega) (by omega) (by omega)
    have hst := fun W (h : Cells W (some ⟨w.heap.size + 3, 0, none⟩) (zs lo)) => strip_cells lo h HSM.out
    have hdl := dig_len_val HSM.out
    rw [hv] at hmd hst hdl
    rw [hll] at hmd hdl
    have HMD := Lib.hid hmd; have HST := Lib.hid hst; have HCS := Lib.hid hcs
    clear hmd hst hcs hv q2 f2
    go_wp2_with fail
    refine HMD.out.mono ?_
    rintro e w5 ⟨rfl, hb5⟩
    have hsz := hbr.size
    simp only [World.size_alloc] at hsz
    have hbx := hbr.trans (hb5.mono (by omega))
    obtain ⟨-, -, q2, f2⟩ := boxes3 hbx (by omega)
    have q20 := q2 0
    have q21 := q2 1
    simp only [List.getElem?_toArray, List.getElem?_cons_succ, List.getElem?_cons_zero] at q20 q21
    have f0 := f2 0
    have f1 := f2 1
    have HC5 := Lib.hid (HST.out w5 (HCS.out.below hb5 (Nat.le_refl _)))
    have hbw := HBW.out.trans (hbx.mono (by omega))
    go_wp2
    refine bodyPost_ret (v := .agg #[.bool ((!(s1 == s2)) && decide (0 < (dig (val l1 * val l2)).length)), .slice (some ⟨w.heap.size + 3, 0, none⟩) (dig (val l1 * val l2)).length (l1.length + l2.length)]) (by simp [results, Tryz.results357, go_sem, q20, q21]) rfl ?_
    exact ⟨⟨_, _, rfl, zbox HC5.out q20 q21, by omega, by omega⟩, (hbw.setCell (by show w.heap.size <= w.heap.size + 1 + 1; omega) _).setCell (by show w.heap.size <= w.heap.size + 1 + 1; omega) _⟩
theorem MV.cases {w : World} {v : Value} {n : Nat} (h : MV w v n) : ∃ a c, v = .slice a (dig n).length c := by
 obtain ⟨a, c, h1, _⟩ := h; exact ⟨a, c, h1⟩
theorem field_D (W : World) (b : Bool) (a : Option Addr) (l c : Nat) : Sem.run Tryz.prog (Instr.field 350 (.agg #[.bool b, .slice a l c]) 1) W = .ok (.slice a l c) W := by
 unfold Instr.field
 simp [go_sem, asAgg, part]
set_option maxRecDepth 100000 in
theorem times_any (va : Value) (m n : Nat) (w : World) (ha : MV w va m) (hl : (dig m).length <= 1099511627770) (hn : n <= 9223372036854775807) :
 Calls Tryz.prog 355 #[va, .int .i64 (n : Nat)] w fun e w' => (∃ v, e = .returned v /\ MV w' v (m * n)) /\ Below w.heap.size w w' := by
 obtain ⟨aa, ca, rfl, ha, hac, hac2⟩ := ha
 have hz := zOf_any (n : Int) w (by omega) (by omega)
 have hl2 := dig_len_i64 (n := n) (by omega)
 have HZ := Lib.hid hz; have HA := Lib.hid ha
 clear hz ha
 go_enter Tryz.func355, Tryz.ntmps355
 go_wp2_with fail
 refine HZ.out.mono ?_
 rintro e w1 ⟨⟨v, rfl, ab, cb, rfl, h1, h2, h3⟩, hb1⟩
 rw [Int.natAbs_natCast] at h1 h2 ⊢
 rw [decide_eq_false (show ¬ (n : Int) < 0 by omega)]
 have hm := zMul_lists false false aa ab (dig m) (dig n) ca cb w1 (HA.out.below hb1 (Nat.le_refl _)) h1 (sm_dig _) (sm_dig _) (by omega)
 rw [val_dig, val_dig] at hm
 have HM := Lib.hid hm
 clear hm h1
 go_wp2_with fail
 refine HM.out.mono ?_
 rintro e w2 ⟨⟨a, c, rfl, h4, h5, h6⟩, hb2⟩
 have H4 := Lib.hid h4
 clear h4
 have hfd := fun W => field_D W false a (dig (m * n)).length c
 go_wp2
 go_ret
 exact ⟨⟨_, rfl, a, c, rfl, H4.out, h5, h6⟩, hb1.trans (hb2.mono hb1.size)⟩
end Go.Proofs.YtdpjdifoonfcdaaGreatDoor.Z4

namespace Go.Proofs.YtdpjdifoonfcdaaGreatDoor.Z4
open Go.RowKit
def topJ (l : List Nat) (k : Nat) : Nat -> Nat
 | 0 => 0
 | j + 1 => topJ l k j * B + (if j <= k then l.getD (k - j) 0 else 0)
theorem getD_lt {l : List Nat} (h : Sm l) (i : Nat) : l.getD i 0 < B := by
 rcases Nat.lt_or_ge i l.length with h1 | h1
 · obtain ⟨x, hx⟩ := get_of_lt h1
   simp only [List.getD, hx, Option.getD_some]
   exact h x (List.mem_of_getElem? hx)
 · simp only [List.getD, List.getElem?_eq_none h1, Option.getD_none]; exact B_pos
theorem topJ_bd {l : List Nat} (h : Sm l) (k : Nat) : ∀ j, topJ l k j + 1 <= B ^ j
 | 0 => Nat.le_refl _
 | j + 1 => by
   have h1 := topJ_bd h k j
   have h2 : (if j <= k then l.getD (k - j) 0 else 0) < B := by
    split
    · exact getD_lt h _
    · exact B_pos
   have h3 : (topJ l k j + 1) * B <= B ^ j * B := Nat.mul_le_mul_right _ h1
   rw [Nat.add_mul, Nat.one_mul] at h3
   rw [topJ, Nat.pow_succ]
   omega
set_option maxRecDepth 100000 in
theorem top_any (aa : Option Addr) (l : List Nat) (ca k : Nat) (w : World) (ha : Cells w aa (zs l)) (hs : Sm l) (hl : l.length <= 1099511627776) (hk : k <= 1099511627776) :
 Calls Tryz.prog 356 #[.slice aa l.length ca, .int .i64 (k : Nat)] w fun e w' => e = .returned (.int .i64 (topJ l k 3 : Nat)) /\ w = w' := by
 have HA := Lib.hid ha; have HS := Lib.hid hs
 clear ha hs
 have e3 : IntKind.i64.wrap ((k : Int) - 3) = (k : Int) - 3 := IntWalk.i64_in _ (by omega)
 go_enter Tryz.func356, Tryz.ntmps356
 go_wp2
 go_loop [5, 6] (fun nv iv => ∃ j : Nat, j <= 3 /\ iv = .int .i64 ((k : Int) - j) /\ nv = .int .i64 (topJ l k j : Nat)) (fun _ iv => (intOf iv - k + 3).toNat)
 case atStart => exact ⟨0, by omega, by simp, rfl⟩
 case round =>
  obtain ⟨j, hj, rfl, rfl⟩ := hrel
  have hB3 : B ^ 3 = 1000000000000 := by decide
  by_cases hj3 : j = 3
  · subst hj3
    have i1 : ¬ (k : Int) - 3 < (k : Int) - ((3 : Nat) : Int) := by omega
    go_wp2
    go_ret
    exact ⟨rfl, rfl⟩
  · have hjl : j < 3 := by omega
    have hb1 : B ^ (j + 1) <= B ^ 3 := Nat.pow_le_pow_right B_pos (by omega)
    have hbd : topJ l k j * 10000 + (if j <= k then l.getD (k - j) 0 else 0) + 1 <= 1000000000000 := Nat.le_trans (topJ_bd HS.out k (j + 1)) (Nat.le_trans hb1 (by decide))
    have hts : topJ l k (j + 1) = topJ l k j * B + (if j <= k then l.getD (k - j) 0 else 0) := rfl
    have HTS := Lib.hid hts
    generalize topJ l k j = t at *
    have hB : B = 10000 := rfl
    have i1 : (k : Int) - 3 < (k : Int) - (j : Int) := by omega
    have m1 : IntKind.i64.wrap ((t : Int) * 10000) = ((t * 10000 : Nat) : Int) := by rw [show (t : Int) * 10000 = ((t * 10000 : Nat) : Int) from by omega]; exact IntWalk.i64_in _ (by omega)
    have m2 : IntKind.i64.wrap ((k : Int) - j - 1) = (k : Int) - j - 1 := IntWalk.i64_in _ (by omega)
    clear hts
    by_cases hjk : j <= k
    · obtain ⟨p, hp⟩ : ∃ p, p = k - j := ⟨_, rfl⟩
      have hp2 : (k : Int) - j = (p : Int) := by omega
      have i2 : (0 : Int) <= p := by omega
      rw [if_pos hjk, <- hp] at HTS hbd
      rw [hp2] at i1 m2 ⊢
      by_cases hpl : p < l.length
      · obtain ⟨x, hx⟩ := get_of_lt hpl
        have hxd : l.getD p 0 = x := by simp [List.getD, hx]
        rw [hxd] at HTS hbd
        obtain ⟨b, off, rfl⟩ := HA.out.addr (zs_ne (by omega))
        have c1 := zcell HA.out hx
        have i3 : (p : Int) < l.length := by omega
        have ht2 : t * 10000 + x = topJ l k (j + 1) := by rw [HTS.out, hB]
        have HT2 := Lib.hid ht2
        have m3 : IntKind.i64.wrap ((t : Int) * 10000 + (x : Int)) = (t : Int) * 10000 + (x : Int) := IntWalk.i64_in _ (by omega)
        have hp4 : (p : Int) - 1 = (k : Int) - ((j + 1 : Nat) : Int) := by omega
        have HP4 := Lib.hid hp4
        clear hx hxd hp2 hp hB hB3 hb1 hp4 hbd ht2
        go_wp2
        go_round
        case rel => exact ⟨j + 1, by omega, by rw [HP4.out], by rw [<- HT2.out]; simp⟩
        case measure => simp [intOf]; omega
      · have i3 : ¬ (p : Int) < l.length := by omega
        have hxd : l.getD p 0 = 0 := by simp [List.getD, List.getElem?_eq_none (show l.length <= p by omega)]
        rw [hxd] at HTS hbd
        have hp4 : (p : Int) - 1 = (k : Int) - ((j + 1 : Nat) : Int) := by omega
        have HP4 := Lib.hid hp4
        have ht2 : t * 10000 = topJ l k (j + 1) := by rw [HTS.out, hB]; rfl
        have HT2 := Lib.hid ht2
        clear hxd hp2 hp hB hB3 hb1 hp4 hbd ht2
        go_wp2
        go_round
        case rel => exact ⟨j + 1, by omega, by rw [HP4.out], by rw [<- HT2.out]; simp⟩
        case measure => simp [intOf]; omega
    · rw [if_neg hjk] at HTS hbd
      have i2 : ¬ (0 : Int) <= (k : Int) - j := by omega
      have hp4 : (k : Int) - j - 1 = (k : Int) - ((j + 1 : Nat) : Int) := by omega
      have HP4 := Lib.hid hp4
      have ht2 : t * 10000 = topJ l k (j + 1) := by rw [HTS.out, hB]; rfl
      have HT2 := Lib.hid ht2
      clear hB hB3 hb1 hp4 hbd ht2
      go_wp2
      go_round
      case rel => exact ⟨j + 1, by omega, by rw [HP4.out], by rw [<- HT2.out]; simp⟩
      case measure => simp [intOf]; omega
theorem dig_len_lt {n k : Nat} (h : n < B ^ k) : (dig n).length <= k := by
 rcases Nat.lt_or_ge k (dig n).length with h1 | h1
 · exfalso
   have hn : n ≠ 0 := by rintro rfl; rw [dig_zero] at h1; simp at h1
   have h2 := pow_len_le hn
   have h3 : B ^ k <= B ^ ((dig n).length - 1) := Nat.pow_le_pow_right B_pos (by omega)
   omega
 · exact h1
theorem top_split (l : List Nat) (k : Nat) : ∀ j, j <= k + 1 -> val (l.take (k + 1)) = val (l.take (k + 1 - j)) + B ^ (k + 1 - j) * topJ l k j
 | 0, _ => by simp [topJ]
 | j + 1, h => by
   rw [top_split l k j (by omega), topJ, if_pos (by omega)]
   obtain ⟨q, hq⟩ : ∃ q, k - j = q := ⟨_, rfl⟩
   rw [show k + 1 - j = q + 1 from by omega, show k + 1 - (j + 1) = q from by omega, hq, val_take_succ, Nat.pow_succ, Nat.mul_add, Nat.mul_comm (topJ l k j) B, Nat.mul_assoc]
   omega
theorem digit_low {A b k : Nat} (hk : (dig b).length = k) (hk1 : 1 <= k) (hA : (dig A).length <= k + 1) : topJ (dig A) k 3 / (topJ (dig b) k 3 + 1) * b <= A := by
 have h1 : val ((dig A).take (k + 1)) = A := by rw [List.take_of_length_le hA, val_dig]
 have h2 : val ((dig b).take (k + 1)) = b := by rw [List.take_of_length_le (by omega), val_dig]
 rcases Nat.lt_or_ge k 2 with h | h
 · have e : k = 1 := by omega
   subst e
   have h3 := top_split (dig A) 1 2 (by omega)
   have h4 := top_split (dig b) 1 2 (by omega)
   rw [h1] at h3
   rw [h2] at h4
   simp only [Nat.sub_self, List.take_zero, val, Nat.pow_zero, Nat.one_mul, Nat.zero_add] at h3 h4
   have h5 : topJ (dig A) 1 3 = A * B := by
    show topJ (dig A) 1 2 * B + 0 = A * B
    rw [<- h3, Nat.add_zero]
   have h6 : topJ (dig b) 1 3 = b * B := by
    show topJ (dig b) 1 2 * B + 0 = b * B
    rw [<- h4, Nat.add_zero]
   rw [h5, h6]
   have h7 := Nat.div_mul_le_self (A * B) (b * B + 1)
   generalize A * B / (b * B + 1) = n at *
   rw [Nat.mul_add, Nat.mul_one, <- Nat.mul_assoc] at h7
   exact Nat.le_of_mul_le_mul_right (by omega) B_pos
 · have h3 := top_split (dig A) k 3 (by omega)
   have h4 := top_split (dig b) k 3 (by omega)
   rw [h1] at h3
   rw [h2] at h4
   have h5 : val ((dig b).take (k + 1 - 3)) < B ^ (k + 1 - 3) := by
    have := val_lt (xs := (dig b).take (k + 1 - 3)) (fun d hd => sm_dig _ d (List.mem_of_mem_take hd))
    rwa [List.length_take, Nat.min_eq_left (by omega)] at this
   generalize B ^ (k + 1 - 3) = P at *
   generalize topJ (dig A) k 3 = TA at *
   generalize topJ (dig b) k 3 = TB at *
   have h7 := Nat.div_mul_le_self TA (TB + 1)
   generalize TA / (TB + 1) = n at *
   have h8 : b <= P * (TB + 1) := by rw [Nat.mul_add, Nat.mul_one]; omega
   have h9 : n * b <= n * (P * (TB + 1)) := Nat.mul_le_mul_left _ h8
   have h10 : P * (n * (TB + 1)) <= P * TA := Nat.mul_le_mul_left _ h7
   rw [Nat.mul_left_comm] at h9
   omega
theorem compare_mv (va vb : Value) (m n : Nat) (w : World) (ha : MV w va m) (hb : MV w vb n) (hm : (dig m).length <= 4611686018427387904) (hn : (dig n).length <= 4611686018427387904) :
 Calls Tryz.prog 352 #[va, vb] w fun e w' => e = .returned (.int .i64 (cmpN m n)) /\ Below w.heap.size w w' := by
 obtain ⟨aa, ca, rfl, ha, -, -⟩ := ha
 obtain ⟨ab, cb, rfl, hb, -, -⟩ := hb
 exact compare_any aa ab m n ca cb w ha hb hm hn
set_option maxRecDepth 100000 in
theorem digit_any (va vb : Value) (A b : Nat) (w : World) (ha : MV w va A) (hb : MV w vb b) (h0 : b ≠ 0) (hA : A < B * b) (hl : (dig b).length <= 1099511627760) :
 Calls Tryz.prog 353 #[va, vb] w fun e w' => e = .returned (.int .i64 (A / b : Nat)) /\ Below w.heap.size w w' := by
 obtain ⟨k, hk⟩ : ∃ k, (dig b).length = k := ⟨_, rfl⟩
 have hk1 : 1 <= k := by have := mt dig_len_pos.1 h0; omega
 have hbk : b < B ^ k := by have := val_lt (sm_dig b); rwa [val_dig, hk] at this
 have hBb : B * b < B ^ (k + 1) := by rw [Nat.pow_succ, Nat.mul_comm]; exact Nat.mul_lt_mul_of_pos_right hbk B_pos
 have hAl : (dig A).length <= k + 1 := dig_len_lt (by omega)
 have hlow := digit_low hk hk1 hAl
 have hdv : A / b < B := Nat.div_lt_of_lt_mul (by rw [Nat.mul_comm]; exact hA)
 have htb := topJ_bd (sm_dig b) k 3
 have hta := topJ_bd (sm_dig A) k 3
 have hB3 : B ^ 3 = 1000000000000 := by decide
 have hB : B = 10000 := rfl
 obtain ⟨aa, ca, rfl, ha', hac, hac2⟩ := ha
 obtain ⟨ab, cb, rfl, hb', hbc, hbc2⟩ := hb
 have HTA := Lib.hid (top_any aa (dig A) ca k w ha' (sm_dig _) (by omega) (by omega))
 have HTB := Lib.hid (top_any ab (dig b) cb k w hb' (sm_dig _) (by omega) (by omega))
 have HMA : Hid (MV w (.slice aa (dig A).length ca) A) := ⟨aa, ca, rfl, ha', hac, hac2⟩
 have HMB : Hid (MV w (.slice ab (dig b).length cb) b) := ⟨ab, cb, rfl, hb', hbc, hbc2⟩
 have hrd : ∀ n, n * b <= A -> n <= A / b := fun n h => (Nat.le_div_iff_mul_le (by omega)).2 h
 have HRD := Lib.hid hrd
 have hln : ∀ n, n <= B -> (dig (b * n)).length <= k + 1 := fun n h => by
  refine dig_len_lt ?_
  have : b * n <= b * B := Nat.mul_le_mul_left _ h
  rw [Nat.mul_comm b B] at this
  omega
 have HLN := Lib.hid hln
 clear ha' hb' hrd hln hbk hBb
 rw [hk] at HTB HMB hbc ⊢
 generalize topJ (dig A) k 3 = TA at *
 generalize topJ (dig b) k 3 = TB at *
 have m1 : IntKind.i64.wrap ((TB : Int) + 1) = (TB : Int) + 1 := IntWalk.i64_in _ (by omega)
 have m2 : (((TB : Int) + 1) == 0) = false := by rw [beq_eq_false_iff_ne]; omega
 obtain ⟨n0, hn0⟩ : ∃ n0, n0 = TA / (TB + 1) := ⟨_, rfl⟩
 rw [<- hn0] at hlow
 have hn0b : n0 <= TA := by rw [hn0]; exact Nat.div_le_self _ _
 have m3 : (TA : Int) / ((TB : Int) + 1) = (n0 : Int) := by rw [hn0]; simp
 have m4 : (TA : Int).tdiv ((TB : Int) + 1) = (n0 : Int) := by rw [Int.tdiv_eq_ediv_of_nonneg (by omega)]; exact m3
 have m5 : IntKind.i64.wrap (n0 : Int) = n0 := IntWalk.i64_in _ (by omega)
 clear hn0
 have HLW := Lib.hid hlow
 clear hlow
 go_enter Tryz.func353, Tryz.ntmps353
 go_wp2_with fail
 refine HTA.out.mono ?_
 rintro e w1 ⟨rfl, rfl⟩
 go_wp2_with fail
 refine HTB.out.mono ?_
 rintro e w1 ⟨rfl, rfl⟩
 go_wp2
 go_loopw [5] (fun nv wr => ∃ n : Nat, n * b <= A /\ nv = .int .i64 n /\ Below w.heap.size w wr) (fun nv _ => A / b - (intOf nv).toNat)
 case atStart => exact ⟨n0, HLW.out, rfl, Below.refl _ _⟩
 case round =>
  clear m1 m2 m3 m4 m5 HLW hn0b hta htb
  obtain ⟨n, hnb, rfl, hbr⟩ := hrel
  have hnd := HRD.out n hnb
  have m6 : IntKind.i64.wrap ((n : Int) + 1) = ((n + 1 : Nat) : Int) := by rw [show (n : Int) + 1 = ((n + 1 : Nat) : Int) from by omega]; exact IntWalk.i64_in _ (by omega)
  have ht := times_any _ b (n + 1) wr (HMB.out.below hbr (Nat.le_refl _)) (by omega) (by omega)
  have hlen := HLN.out (n + 1) (by omega)
  have hcmp := fun vt (W : World) (h1 : MV W vt (b * (n + 1))) (h2 : MV W (.slice aa (dig A).length ca) A) => compare_mv vt _ (b * (n + 1)) A W h1 h2 (by omega) (by omega)
  have hcN : (n + 1) * b <= A /\ cmpN (b * (n + 1)) A <= 0 ∨ A < (n + 1) * b /\ cmpN (b * (n + 1)) A = 1 := by
   rw [Nat.mul_comm (n + 1) b]
   rcases Nat.lt_or_ge A (b * (n + 1)) with h | h
   · exact .inr ⟨h, cmpN_gt h⟩
   · refine .inl ⟨h, ?_⟩
     unfold cmpN
     split
     · decide
     · split
       · omega
       · decide
  generalize cmpN (b * (n + 1)) A = cm at *
  have HT := Lib.hid ht; have HC := Lib.hid hcmp
  clear ht hcmp
  have hrz := hbr.size
  rcases hcN with ⟨h5, h6⟩ | ⟨h5, h6⟩
  · have HH5 := Lib.hid h5
    have hnd2 := HRD.out (n + 1) h5
    clear h5
    go_wp2_with fail
    refine HT.out.mono ?_
    rintro e w2 ⟨⟨v, rfl, hv⟩, hb2⟩
    have HV := Lib.hid hv
    have hbr2 := hbr.trans (hb2.mono hrz)
    have hcc := HC.out v w2 hv (HMA.out.below hbr2 (Nat.le_refl _))
    obtain ⟨va, vc, rfl⟩ := hv.cases
    clear hv
    have HCC := Lib.hid hcc; clear hcc
    go_wp2_with fail
    refine HCC.out.mono ?_
    rintro e w3 ⟨rfl, hb3⟩
    have hbr3 := hbr2.trans (hb3.mono hbr2.size)
    go_wp2
    go_roundw
    case rel => exact ⟨n + 1, HH5.out, by go_num, hbr3⟩
    case measure => simp [intOf]; omega
  · subst h6
    have hfin : A / b = n := by
     have h7 : A / b < n + 1 := (Nat.div_lt_iff_lt_mul (by omega)).2 h5
     omega
    have HF := Lib.hid hfin
    clear h5 hfin
    go_wp2_with fail
    refine HT.out.mono ?_
    rintro e w2 ⟨⟨v, rfl, hv⟩, hb2⟩
    have HV := Lib.hid hv
    have hbr2 := hbr.trans (hb2.mono hrz)
    have hcc := HC.out v w2 hv (HMA.out.below hbr2 (Nat.le_refl _))
    obtain ⟨va, vc, rfl⟩ := hv.cases
    clear hv
    have HCC := Lib.hid hcc; clear hcc
    go_wp2_with fail
    refine HCC.out.mono ?_
    rintro e w3 ⟨rfl, hb3⟩
    have hbr3 := hbr2.trans (hb3.mono hbr2.size)
    go_wp2
    go_ret
    exact ⟨by rw [HF.out]; rfl, hbr3⟩
end Go.Proofs.YtdpjdifoonfcdaaGreatDoor.Z4

namespace Go.Proofs.YtdpjdifoonfcdaaGreatDoor.Z4
open Go.RowKit
theorem len_ne (n : Int) : (0 < (dig n.natAbs).length) ↔ n ≠ 0 := by
 have := dig_len_pos (n := n.natAbs)
 omega
set_option maxRecDepth 100000 in
set_option maxHeartbeats 1000000 in
theorem zNeg_any (va : Value) (n : Int) (w : World) (ha : ZV w va n) :
 Calls Tryz.prog 326 #[va] w fun e w' => (∃ v, e = .returned v /\ ZV w' v (-n)) /\ Below w.heap.size w w' := by
 obtain ⟨aa, ca, rfl, ha, hac, hac2⟩ := ha
 have hsg : ((!decide (n < 0)) && decide (0 < (dig n.natAbs).length)) = decide (-n < 0) := by
  rw [Bool.eq_iff_iff]
  simp only [Bool.and_eq_true, Bool.not_eq_true', decide_eq_true_eq, decide_eq_false_iff_not, len_ne]
  omega
 have hmd := fun W h => made_any (!decide (n < 0)) aa (dig n.natAbs) ca W h (sm_dig _) (by omega) hac hac2
 rw [val_dig, hsg] at hmd
 have hbw := ((Below.refl w.heap.size w).alloc (Nat.le_refl _) (.cells #[.bool (decide (n < 0)), .slice aa (dig n.natAbs).length ca] 350)).alloc (by simp) (.cells #[.bool false, .slice none 0 0] 350)
 have HBW := Lib.hid hbw; have HMD := Lib.hid hmd; have HA := Lib.hid (ha.below hbw (Nat.le_refl _))
 have hx0 : ((w.alloc (.cells #[.bool (decide (n < 0)), .slice aa (dig n.natAbs).length ca] 350)).alloc (.cells #[.bool false, .slice none 0 0] 350)).cell? ⟨w.heap.size, 0, none⟩ = some (.bool (decide (n < 0))) := by simp
 clear hbw hmd ha hsg
 rw [<- Int.natAbs_neg n] at *
 generalize -n = m at *
 generalize decide (n < 0) = s at *
 go_enter Tryz.func326, Tryz.ntmps326
 go_wp2_with fail
 refine (HMD.out _ HA.out).mono ?_
 rintro e w1 ⟨rfl, hb1⟩
 have HC1 := Lib.hid (HA.out.below hb1 (Nat.le_refl _))
 have q0 := box_keep1 hb1 (by simp) 0
 have q1 := box_keep1 hb1 (by simp) 1
 simp only [List.getElem?_toArray, List.getElem?_cons_succ, List.getElem?_cons_zero] at q0 q1
 have f0 := box_free1 hb1 (by simp) 0
 have f1 := box_free1 hb1 (by simp) 1
 have hb := HBW.out.trans (hb1.mono (by simp; omega))
 clear hb1 hx0
 go_wp2
 refine bodyPost_ret (v := .agg #[.bool (decide (m < 0)), .slice aa (dig m.natAbs).length ca]) (by simp [results, Tryz.results326, go_sem, q0, q1]) rfl ?_
 exact ⟨⟨_, rfl, aa, ca, rfl, zbox HC1.out q0 q1, hac, hac2⟩, (hb.setCell (by show w.heap.size <= w.heap.size + 1; omega) _).setCell (by show w.heap.size <= w.heap.size + 1; omega) _⟩
end Go.Proofs.YtdpjdifoonfcdaaGreatDoor.Z4

namespace Go.Proofs.YtdpjdifoonfcdaaGreatDoor.Z4
open Go.RowKit
theorem wpList_append_src {P : Program} {w : World} {ops : Array Oper} {rest : List Oper} {o : Oper} {a : Act} {Q : Exit -> Act -> World -> Prop} (hgd : o.guard = none) (s x : Operand) (t : TypeId)
 (ho : o.op = .call { callee := .builtin .append, args := #[s, x], argTypes := #[t, t] })
 (base : Nat) (e : TypeId) (i : TypeInfo) (z : Value) (size bytes : Nat) (ht : P.underlying t = some (.slice e)) (hi : P.info? e = some i) (hz : i.zero = some z)
 (hsize : i.size = size) (hby : i.bytes = bytes) (hzs : z.cells.size = size) (hsz : 0 < size)
 (v : Value) (n : Nat) (xs : List Value) (hs : a.eval s = v) (hown : w.ownsRow base e size v n xs)
 (vx : Value) (m : Nat) (news : List Value) (hx : a.eval x = vx) (hsrc : (∃ ad c, vx = .slice (some ad) m c /\ ∀ j u, news[j]? = some u -> w.cell? (ad.add j) = some u) ∨ (vx = .slice none 0 0 /\ m = 0 /\ news = [])) (hl : news.length = m * size) (h1 : ∀ u ∈ news, u.oneCell' = true)
 (h63 : n + m <= maxLen) (hbytes : (n + m) * bytes <= 140737488355328) (hbase : base <= w.heap.size)
 (h : ∀ v' w', w'.ownsRow base e size v' (n + m) (xs ++ news) -> w.grownBy w' v.ownBlock -> wpList P ops Q rest (a.put o.dst v') w') : wpList P ops Q (o :: rest) a w := by
 rcases hsrc with ⟨ad, c, hv, hc⟩ | ⟨hv, hm, hn⟩
 · exact wpList_append_own w hgd s x t ho base e i z size bytes ht hi hz hsize hby hzs hsz v n xs hs hown ad m c news (by rw [hx, hv]) hl hc h1 h63 hbytes hbase fun v' w' h2 h3 _ => h v' w' h2 h3
 · subst hm; subst hn; subst hv
   exact wpList_append_two hgd s x t ho base e i z size bytes ht hi hz hsize hby hzs hsz v n xs hs hown base _ 0 [] hx (World.ownsRow_nil _ _ _ _) (by simp) h63 hbytes hbase fun v' w' h2 h3 _ => h v' w' h2 h3
end Go.Proofs.YtdpjdifoonfcdaaGreatDoor.Z4
namespace Go.Proofs.YtdpjdifoonfcdaaGreatDoor
open Go.RowKit
end Go.Proofs.YtdpjdifoonfcdaaGreatDoor

namespace Go.Proofs.YtdpjdifoonfcdaaGreatDoor.Z4
open Go.RowKit
theorem zs_one (l : List Nat) : ∀ u ∈ zs l, u.oneCell' = true := by
 intro u hu; simp only [zs, List.mem_map] at hu; obtain ⟨d, _, rfl⟩ := hu; rfl
theorem div_step {A b j x r : Nat} {hs : List Nat} (hx : (dig A)[j]? = some x) (h : val ((dig A).drop (j + 1)) = b * val hs + r) :
 val ((dig A).drop j) = b * val ((x + B * r) / b :: hs) + (x + B * r) % b := by
 have hj := (List.getElem?_eq_some_iff.1 hx).1
 have h1 : (dig A).drop j = x :: (dig A).drop (j + 1) := by
  rw [List.drop_eq_getElem_cons hj, (List.getElem?_eq_some_iff.1 hx).2]
 rw [h1, val, h, val]
 have h2 := Nat.div_add_mod (x + B * r) b
 rw [Nat.mul_add, Nat.mul_add, Nat.mul_left_comm b B]
 omega
theorem div_start {A b lb : Nat} (hlb : (dig b).length = lb) (h1 : 1 <= lb) (hab : lb <= (dig A).length) : val ((dig A).drop ((dig A).length - lb + 1)) < b := by
 have h2 := pow_len_le (n := b) (by rintro rfl; rw [dig_zero] at hlb; simp at hlb; omega)
 rw [hlb] at h2
 have h3 := val_lt (xs := (dig A).drop ((dig A).length - lb + 1)) (fun d hd => sm_dig _ d (List.mem_of_mem_drop hd))
 rw [List.length_drop, show (dig A).length - ((dig A).length - lb + 1) = lb - 1 from by omega] at h3
 omega
theorem set_zeros (k q : Nat) (qs : List Nat) : (zs (List.replicate (k + 1) 0 ++ qs)).set k (.int .i64 (q : Nat)) = zs (List.replicate k 0 ++ (q :: qs)) := by
 rw [zs_set]
 congr 1
 rw [List.replicate_succ', List.append_assoc, List.set_append_right _ _ (by simp)]
 simp
theorem own_belowZ {w w' : World} {b B0 : Nat} {T : TypeId} {s n : Nat} {v : Value} {xs : List Value} (h : w.ownsRow b T s v n xs) (hb : Below B0 w w') (hB : w.heap.size <= B0) : w'.ownsRow b T s v n xs :=
 h.kept (row := none) ⟨hb.os, hb.tape, hb.output, hb.size, fun k hk _ => hb.block k (by omega)⟩ (by cases hv : v.ownBlock <;> simp)
theorem tail_cells {W : World} {ba offa k : Nat} {l : List Nat} (h : Cells W (some ⟨ba, offa, none⟩) (zs l)) {j : Nat} {u : Value} (hu : (zs (l.drop k))[j]? = some u) : W.cell? ((⟨ba, offa + k, none⟩ : Addr).add j) = some u := by
 rw [Addr.add_lit]
 have h5 : (zs l)[k + j]? = some u := by
  simp only [zs, List.map_drop, List.getElem?_drop] at hu
  exact hu
 have := h.at h5
 rwa [<- Nat.add_assoc] at this
set_option maxRecDepth 100000 in
set_option maxHeartbeats 4000000 in
theorem divide_any (va vb : Value) (A b : Nat) (w : World) (ha : MV w va A) (hb : MV w vb b) (h0 : b ≠ 0) (hl : (dig A).length <= 549755813888) (hl2 : (dig b).length <= 549755813888) :
 Calls Tryz.prog 344 #[va, vb] w fun e w' => (∃ q r, e = .returned (.tuple #[q, r]) /\ MV w' q (A / b) /\ MV w' r (A % b)) /\ Below w.heap.size w w' := by
 obtain ⟨i0, hi, hz0, hz1, hz2⟩ := info_parts Tryz.infoInt
 have hcmp := compare_mv va vb A b w ha hb (by omega) (by omega)
 have HMA := Lib.hid ha; have HMB := Lib.hid hb
 obtain ⟨aa, ca, rfl, ha', hac, hac2⟩ := ha
 obtain ⟨ab, cb, rfl, hb', hbc, hbc2⟩ := hb
 clear hb'
 rcases Nat.lt_or_ge A b with hlt | hge
 · rw [cmpN_lt hlt] at hcmp
   have hq : A / b = 0 := Nat.div_eq_of_lt hlt
   have hr : A % b = A := Nat.mod_eq_of_lt hlt
   have HC := Lib.hid hcmp; have HQ := Lib.hid hq; have HR := Lib.hid hr
   clear hcmp hq hr ha'
   go_enter Tryz.func344, Tryz.ntmps344
   go_wp2_with fail
   refine HC.out.mono ?_
   rintro e w1 ⟨rfl, hb1⟩
   go_wp2
   go_ret2
   exact ⟨⟨_, _, rfl, by rw [HQ.out]; exact RV.mv (.inr ⟨rfl, rfl⟩), by rw [HR.out]; exact HMA.out.below hb1 (Nat.le_refl _)⟩, hb1⟩
 · have hcm : ¬ cmpN A b < 0 := by unfold cmpN; rw [if_neg (by omega)]; split <;> omega
   generalize cmpN A b = cm at *
   obtain ⟨lb, hlb⟩ : ∃ lb, (dig b).length = lb := ⟨_, rfl⟩
   obtain ⟨la, hla⟩ : ∃ la, (dig A).length = la := ⟨_, rfl⟩
   have hlb1 : 1 <= lb := by have := mt dig_len_pos.1 h0; omega
   have hll : lb <= la := by rw [<- hlb, <- hla]; exact dig_len_mono hge
   have hst := div_start (A := A) hlb hlb1 (by omega)
   obtain ⟨ba, offa, rfl⟩ := ha'.addr (zs_ne (l := dig A) (by omega))
   have HA := Lib.hid ha'; have HC := Lib.hid hcmp
   obtain ⟨f, hf⟩ : ∃ f, f = la - lb := ⟨_, rfl⟩
   rw [hla, <- hf] at hst
   rw [hla] at hl hac HMA HC ⊢
   rw [hlb] at hl2 hbc HMB HC ⊢
   have HST := Lib.hid hst; have HLA := Lib.hid hla; have HLB := Lib.hid hlb
   have hf2 : f + lb = la := by omega
   clear ha' hcmp hst hla hlb hf
   have e1 : IntKind.i64.wrap ((la : Int) - lb) = (f : Int) := by rw [show (la : Int) - lb = (f : Int) from by omega]; exact IntWalk.i64_in _ (by omega)
   have e2 : IntKind.i64.wrap ((f : Int) + 1) = ((f + 1 : Nat) : Int) := by rw [show (f : Int) + 1 = ((f + 1 : Nat) : Int) from by omega]; exact IntWalk.i64_in _ (by omega)
   have e3 : (0 : Int) <= ((f + 1 : Nat) : Int) := by omega
   have e4 : ((f + 1 : Nat) : Int) <= (la : Int) := by omega
   have e5 : (((f + 1 : Nat) : Int)).toNat = f + 1 := by omega
   go_enter Tryz.func344, Tryz.ntmps344
   go_wp2_with fail
   refine HC.out.mono ?_
   rintro e w1 ⟨rfl, hb1⟩
   have HB1 := Lib.hid hb1
   have hz1' := hb1.size
   obtain ⟨tl, htl⟩ : ∃ tl, tl = (dig A).drop (f + 1) := ⟨_, rfl⟩
   have htll : tl.length = la - (f + 1) := by rw [htl, List.length_drop, HLA.out]
   have htls : Sm tl := by rw [htl]; exact fun d hd => sm_dig _ d (List.mem_of_mem_drop hd)
   have hnw : ∀ W, Cells W (some ⟨ba, offa, none⟩) (zs (dig A)) -> (∃ ad c, ((.slice (if ca = f + 1 then some ⟨ba, offa, none⟩ else some ⟨ba, offa + (f + 1), none⟩) (la - (f + 1)) (ca - (f + 1))) : Value) = .slice (some ad) (la - (f + 1)) c /\ ∀ j u, (zs tl)[j]? = some u -> W.cell? (ad.add j) = some u) ∨ (((.slice (if ca = f + 1 then some ⟨ba, offa, none⟩ else some ⟨ba, offa + (f + 1), none⟩) (la - (f + 1)) (ca - (f + 1))) : Value) = .slice none 0 0 /\ la - (f + 1) = 0 /\ zs tl = []) := fun W h => by
    left
    by_cases hc : ca = f + 1
    · have h8 : tl = [] := List.eq_nil_of_length_eq_zero (by omega)
      rw [if_pos hc]
      exact ⟨_, _, rfl, fun j u hu => by rw [h8] at hu; simp [zs] at hu⟩
    · rw [if_neg hc]
      exact ⟨_, _, rfl, fun j u hu => tail_cells h (by rw [<- htl]; exact hu)⟩
   have HNW := Lib.hid hnw; have HTL := Lib.hid htl; have HTLL := Lib.hid htll; have HTLS := Lib.hid htls
   clear hnw htl htll htls
   go_wp2_with (first
    | (at_make; refine wpList_make_full _ rfl _ _ 24 rfl w.heap.size 3 i0 (.int .i64 0) 1 Tryz.underlying24 hi hz0 hz1 .i64 .i64 _ _ la rfl rfl (by omega) (by omega) (by rw [hz2]; omega) (by unfold maxLen; omega) hz1' ?_; intro w4 hown4 hgrow4; have hb4 : Below w1.heap.size w1 w4 := (Below.refl w1.heap.size w1).grown hgrow4 (Nat.le_refl _) (fun _ h => by cases h); have hb14 := hb1.trans (hb4.mono hz1'); have HA4 := Lib.hid (HA.out.below hb14 (Nat.le_refl _)))
    | (at_builtin; refine wpList_append_src rfl _ _ 24 rfl w4.heap.size 3 i0 (.int .i64 0) 1 8 Tryz.underlying24 hi hz0 hz1 hz2 rfl (by decide) _ _ _ rfl (World.ownsRow_nil _ _ _ _) (.slice (if ca = f + 1 then some ⟨ba, offa, none⟩ else some ⟨ba, offa + (f + 1), none⟩) (la - (f + 1)) (ca - (f + 1))) (la - (f + 1)) (zs tl) rfl (HNW.out _ HA4.out) (by rw [zs_length, HTLL.out, Nat.mul_one]) (zs_one _) (by unfold maxLen; omega) (by omega) (Nat.le_refl _) ?_; intro v5 w5 hown5 hgrow5; refine Hid.out ?_))
   all_goals
    refine Lib.hid ?_
    clear h
    rw [zs_zeros] at hown4
    have HO4 := Lib.hid hown4
    have hz4 := hb4.size
    have hz5 := hgrow4.size
    clear hgrow4 hown4 hb4
    rw [List.nil_append, Nat.zero_add] at hown5
    have hb5 : Below w4.heap.size w4 w5 := (Below.refl w4.heap.size w4).grown hgrow5 (Nat.le_refl _) (fun _ h => by cases h)
    have hb15 := hb14.trans (hb5.mono (Nat.le_trans hz1' hz4))
    have ho5 := HO4.out.kept hgrow5 (.inr (by intro h; cases h))
    obtain ⟨g5, c5, rfl, hc5, hl5, hm5, hn5⟩ := own_cap2 hown5
    unfold maxLen at hm5
    rw [<- HTLL.out] at hl5
    have hst5 := strip_any g5 tl c5 w5 hc5 HTLS.out (by rw [HTLL.out]; omega) hl5 (by omega)
    have hrv : ∀ W, Cells W g5 (zs (dig (val tl))) -> RV W (.slice g5 (dig (val tl)).length c5) (val tl) := fun W h => rv_of h (Nat.le_trans (dig_len_val HTLS.out) hl5) (by omega) (fun h => ⟨(hn5 h).1, by
     have h6 := (hn5 h).2
     have h7 : tl = [] := List.eq_nil_of_length_eq_zero (by rw [HTLL.out]; exact h6)
     rw [h7]; rfl⟩)
    rw [HTLL.out] at hst5
    have HST5 := Lib.hid hst5; have HRV := Lib.hid hrv; have HO5 := Lib.hid ho5; have HB15 := Lib.hid hb15
    clear hst5 hrv hc5 hown5 hgrow5 hb5 hb14 hb15 ho5 hn5 hb1 HO4 HA4 HNW HB1
    go_wp2_with fail
    refine HST5.out.mono ?_
    rintro e w6 ⟨⟨rfl, hcl⟩, rfl⟩
    have HR0 := Lib.hid (HRV.out _ hcl)
    clear hcl
    generalize (Value.slice g5 (dig (val tl)).length c5) = rv0 at *
    go_wp2
    go_loopw [8, 9] (fun rv iv wr => ∃ (j : Nat) (hs : List Nat) (r : Nat), j <= f + 1 /\ iv = .int .i64 ((j : Int) - 1) /\ hs.length + j = la /\ Sm hs /\ r < b /\ val ((dig A).drop j) = b * val hs + r /\ RV wr rv r /\ wr.ownsRow w.heap.size 3 1 (.slice (some ⟨w1.heap.size, 0, none⟩) la la) la (zs (List.replicate j 0 ++ hs)) /\ w1.heap.size < wr.heap.size /\ Below w.heap.size w wr) (fun _ iv _ => (intOf iv + 1).toNat)
    case atStart =>
     refine ⟨f + 1, List.replicate (la - (f + 1)) 0, val tl, Nat.le_refl _, congrArg (Value.int .i64) (by omega), by rw [List.length_replicate]; omega, sm_zeros _, by rw [HTL.out]; exact HST.out, by rw [val_zeros, HTL.out]; simp, HR0.out, ?_, (HO5.out.lt w1.heap.size rfl).2, HB15.out⟩
     rw [List.replicate_append_replicate, show f + 1 + (la - (f + 1)) = la from by omega]
     exact HO5.out
    case round =>
     have HW1 := Lib.hid hz1'
     clear HR0 HO5 HB15 hz5 hz4 hz1'
     obtain ⟨j, hs, r, hj, rfl, hsl, hss, hrb, hval, hrv, hown, hsz, hbr⟩ := hrel
     have HSL := Lib.hid hsl; have HSS := Lib.hid hss; have HVL := Lib.hid hval; have HRW := Lib.hid hrv; have HO := Lib.hid hown
     have hbz := hbr.size
     clear hsl hss hval hrv hown
     rcases Nat.eq_zero_or_pos j with hj0 | hj0
     · subst hj0
       obtain ⟨a5, c5, h5, h6⟩ := own_cells HO.out
       simp only [Value.slice.injEq, true_and] at h5
       obtain ⟨rfl, rfl⟩ := h5
       have hsl := HSL.out
       rw [Nat.add_zero] at hsl
       rw [List.replicate_zero, List.nil_append] at h6
       have hst := strip_any _ hs la wr h6 HSS.out (by omega) (by omega) (by omega)
       have hvl := HVL.out
       rw [List.drop_zero, val_dig] at hvl
       have hq : A / b = val hs := by
        rw [hvl, Nat.mul_add_div (by omega), Nat.div_eq_of_lt hrb, Nat.add_zero]
       have hr : A % b = r := by
        rw [hvl, Nat.mul_add_mod, Nat.mod_eq_of_lt hrb]
       have hdl := dig_len_val HSS.out
       rw [hsl] at hst hdl
       have HSTR := Lib.hid hst; have HQ := Lib.hid hq; have HR := Lib.hid hr
       clear hst hq hr hvl h6 HVL
       go_wp2_with fail
       refine HSTR.out.mono ?_
       rintro e w7 ⟨⟨rfl, h7⟩, rfl⟩
       have H7 := Lib.hid h7; clear h7
       go_wp2
       go_ret2
       exact ⟨⟨_, _, rfl, by rw [HQ.out]; exact ⟨_, _, rfl, H7.out, hdl, by omega⟩, by rw [HR.out]; exact HRW.out.mv⟩, hbr⟩
     · obtain ⟨i, rfl⟩ : ∃ i, j = i + 1 := ⟨j - 1, by omega⟩
       obtain ⟨x, hx⟩ := get_of_lt (show i < (dig A).length by rw [HLA.out]; omega)
       have hxB := sm_get (sm_dig A) hx
       have hstep := div_step (b := b) hx HVL.out
       have c1 := zcell (HA.out.below hbr (Nat.le_refl _)) hx
       have e1 : (((i + 1 : Nat) : Int) - 1) = (i : Int) := by omega
       have e2 : (0 : Int) <= (i : Int) := by omega
       have e3 : (i : Int) < (la : Int) := by omega
       have e4 : (i : Int).toNat = i := by omega
       have e6 : IntKind.i64.wrap ((i : Int) - 1) = (i : Int) - 1 := IntWalk.i64_in _ (by omega)
       rw [e1]
       have hB : B = 10000 := rfl
       have hRb : x + B * r < B * b := by
        have h5 : B * (r + 1) <= B * b := Nat.mul_le_mul_left _ hrb
        rw [Nat.mul_add] at h5
        omega
       have hrl : (dig r).length <= lb := by rw [<- HLB.out]; exact dig_len_mono (Nat.le_of_lt hrb)
       have hvR : val (x :: dig r) = x + B * r := by rw [val, val_dig]
       have hsR : Sm (x :: dig r) := by
        intro d hd
        rcases List.mem_cons.1 hd with h5 | h5
        · subst h5; rw [hB]; omega
        · exact sm_dig r d h5
       have HVR := Lib.hid hvR; have HSR := Lib.hid hsR; have HSTEP := Lib.hid hstep; have HRB := Lib.hid hRb
       have hal := (Below.refl wr.heap.size wr).alloc (Nat.le_refl _) (.cells #[.int .i64 (x : Nat)] 3)
       have HSRC := Lib.hid (HRW.out.below hal (Nat.le_refl _)).src
       have hlit := World.ownsRow_lit (base := wr.heap.size) (e := 3) (size := 1) wr #[.int .i64 (x : Nat)] 1 (Nat.le_refl _) (by unfold maxLen; omega) (by rfl)
       have HLIT := Lib.hid hlit
       clear hvR hsR hstep hRb hlit hx e1
       go_wp2_with (at_builtin; refine wpList_append_src rfl _ _ 24 rfl wr.heap.size 3 i0 (.int .i64 0) 1 8 Tryz.underlying24 hi hz0 hz1 hz2 rfl (by decide) _ 1 [.int .i64 (x : Nat)] rfl HLIT.out _ (dig r).length (zs (dig r)) rfl HSRC.out (by rw [zs_length, Nat.mul_one]) (zs_one _) (by unfold maxLen; omega) (by omega) (by simp) ?_; intro v2 w2 hown2 hgrow2; refine Hid.out ?_)
       refine Lib.hid ?_
       have hb2 : Below wr.heap.size wr w2 := hal.grown hgrow2 (by simp) (fun k hk => by cases hk; exact Nat.le_refl _)
       have hoq := (HO.out.alloc (.cells #[.int .i64 (x : Nat)] 3)).kept hgrow2 (.inr (show some w1.heap.size ≠ some wr.heap.size from by intro h; have := Option.some.inj h; omega))
       have hor : w2.ownsRow wr.heap.size 3 1 v2 ((dig r).length + 1) (zs (x :: dig r)) := by rw [Nat.add_comm]; exact hown2
       obtain ⟨g2, c2, rfl, hc2, hl2, hm2, -⟩ := own_cap2 hor
       obtain ⟨g3, c3, h3, -, -⟩ := hor.form (by omega)
       simp only [Value.slice.injEq] at h3
       obtain ⟨rfl, -, -⟩ := h3
       unfold maxLen at hm2
       have hst := strip_any _ (x :: dig r) c2 w2 hc2 HSR.out (by simp only [List.length_cons]; omega) (by simp only [List.length_cons]; omega) (by omega)
       have hdl := dig_len_val HSR.out
       simp only [List.length_cons] at hst hdl
       rw [HVR.out] at hst hdl
       have hbw2 := hbr.trans (hb2.mono hbz)
       have hz2 := hb2.size
       have HSTR := Lib.hid hst; have HOR := Lib.hid hor; have HOQ := Lib.hid hoq; have HBW2 := Lib.hid hbw2
       clear hst hor hoq hc2 hown2 hgrow2 hal hb2 hbw2 HSRC HLIT HO HRW c1
       obtain ⟨R, hR⟩ : ∃ R, R = x + B * r := ⟨_, rfl⟩
       rw [<- hR] at HSTR HSTEP HRB HVR hdl
       have hmvR : ∀ W, Cells W (some ⟨g3, 0, none⟩) (zs (x :: dig r)) -> MV W (.slice (some ⟨g3, 0, none⟩) (dig R).length c2) R := fun W h => ⟨_, c2, rfl, by have := strip_cells _ h HSR.out; rwa [HVR.out] at this, by omega, by omega⟩
       have HMVR := Lib.hid hmvR
       have hcR : Cells w2 (some ⟨g3, 0, none⟩) (zs (x :: dig r)) := by
        obtain ⟨a5, c5, h5, h6⟩ := own_cells HOR.out
        simp only [Value.slice.injEq] at h5
        obtain ⟨rfl, -, -⟩ := h5
        exact h6
       have hcmp := compare_mv _ _ R b w2 (hmvR w2 hcR) (HMB.out.below HBW2.out (Nat.le_refl _)) (by omega) (by rw [HLB.out]; omega)
       have HCMP := Lib.hid hcmp; have HCR := Lib.hid hcR
       clear hmvR hcmp hcR
       go_wp2_with fail
       refine HSTR.out.mono ?_
       rintro e w3 ⟨⟨rfl, -⟩, rfl⟩
       rcases Nat.lt_or_ge R b with hlt | hge2
       · rw [cmpN_lt hlt] at HCMP
         have hq0 : R / b = 0 := Nat.div_eq_of_lt hlt
         have hr0 : R % b = R := Nat.mod_eq_of_lt hlt
         rw [hq0, hr0] at HSTEP
         clear hR
         go_wp2_with fail
         refine HCMP.out.mono ?_
         rintro e w3 ⟨rfl, hb3⟩
         have HB3 := Lib.hid hb3
         have hz3 := hb3.size
         clear hb3
         go_wp2
         go_roundw
         case rel =>
          refine ⟨i, 0 :: hs, R, by omega, rfl, by rw [List.length_cons, <- HSL.out]; omega, fun d hd => ?_, hlt, HSTEP.out, ?_, ?_, by omega, HBW2.out.trans (HB3.out.mono HBW2.out.size)⟩
          · rcases List.mem_cons.1 hd with h5 | h5
            · subst h5; exact B_pos
            · exact HSS.out d h5
          · have h7 := (HMVR.out w3 (HCR.out.below HB3.out (Nat.le_refl _)))
            obtain ⟨a5, c5, h5, h6, h8, h9⟩ := h7
            simp only [Value.slice.injEq, true_and] at h5
            obtain ⟨rfl, rfl⟩ := h5
            exact .inl ⟨_, _, rfl, h6, h8, h9⟩
          · have h7 := own_belowZ HOQ.out HB3.out (Nat.le_refl _)
            rwa [show List.replicate (i + 1) 0 ++ hs = List.replicate i 0 ++ 0 :: hs from by rw [List.replicate_succ', List.append_assoc]; rfl] at h7
         case measure => simp [intOf]
       · have hcm2 : ¬ cmpN R b < 0 := by unfold cmpN; rw [if_neg (by omega)]; split <;> omega
         generalize cmpN R b = cm2 at *
         have i1 : (0 : Int) <= cm2 := by omega
         obtain ⟨n, hn⟩ : ∃ n, n = R / b := ⟨_, rfl⟩
         have hnB : n < B := by rw [hn]; exact Nat.div_lt_of_lt_mul (by rw [Nat.mul_comm]; exact HRB.out)
         have hle : b * n <= R := by rw [hn]; exact Nat.mul_div_le R b
         have hmod : R - b * n = R % b := by rw [hn]; have := Nat.div_add_mod R b; omega
         have hmb : R % b < b := Nat.mod_lt _ (by omega)
         rw [<- hn] at HSTEP
         rw [<- hmod] at HSTEP hmb
         have hdig := fun W (h1 : MV W (.slice (some ⟨g3, 0, none⟩) (dig R).length c2) R) (h2 : MV W (.slice ab lb cb) b) => digit_any _ _ R b W h1 h2 h0 HRB.out (by rw [HLB.out]; omega)
         rw [<- hn] at hdig
         have HDIG := Lib.hid hdig
         clear hdig hn hmod hR
         go_wp2_with fail
         refine HCMP.out.mono ?_
         rintro e w3 ⟨rfl, hb3⟩
         have hbw3 := HBW2.out.trans (hb3.mono HBW2.out.size)
         have hc3 := HCR.out.below hb3 (Nat.le_refl _)
         have hdg := HDIG.out w3 (HMVR.out w3 hc3) (HMB.out.below hbw3 (Nat.le_refl _))
         have HDG := Lib.hid hdg; have HB3 := Lib.hid hb3
         have hz3 := hb3.size
         clear hdg hc3 hb3
         go_wp2_with fail
         refine HDG.out.mono ?_
         rintro e w4 ⟨rfl, hb4⟩
         have hz4 := hb4.size
         have hb24 := HB3.out.trans (hb4.mono hz3)
         have hoq4 := own_belowZ HOQ.out hb24 (Nat.le_refl _)
         have hor4 := own_belowZ HOR.out hb24 (Nat.le_refl _)
         have hc4 := hoq4.cellAt i (by omega)
         rw [zs_get (d := 0) (by rw [List.getElem?_append_left (by rw [List.length_replicate]; omega)]; simp)] at hc4
         have hf4 := hoq4.frozenAt i
         have hsto := (hoq4.stored i (.int .i64 (n : Nat))).1
         rw [set_zeros] at hsto
         have hors := ownsRow_setCell_below hor4 (a := ⟨w1.heap.size, i, none⟩) hsz (.int .i64 (n : Nat))
         have hbws := (hbw3.trans (hb4.mono hbw3.size)).setCell (p := ⟨w1.heap.size, i, none⟩) (by show w.heap.size <= w1.heap.size; exact HW1.out) (.int .i64 (n : Nat))
         have hcRs : Cells (w4.setCell ⟨w1.heap.size, i, none⟩ (.int .i64 (n : Nat))) (some ⟨g3, 0, none⟩) (zs (x :: dig r)) := by
          obtain ⟨a5, c5, h5, h6⟩ := own_cells hors
          simp only [Value.slice.injEq] at h5
          obtain ⟨rfl, -, -⟩ := h5
          exact h6
         have hti := times_any _ b n _ (HMB.out.below hbws (Nat.le_refl _)) (by rw [HLB.out]; omega) (by rw [hB] at hnB; omega)
         have HSTO := Lib.hid hsto; have HBWS := Lib.hid hbws; have HTI := Lib.hid hti; have HMS := Lib.hid (HMVR.out _ hcRs)
         clear hsto hors hbws hcRs hti hoq4 hor4 hb24 hbw3 HOQ HOR HCR
         go_wp2_with fail
         refine HTI.out.mono ?_
         rintro e w6 ⟨⟨vt, rfl, hvt⟩, hb6⟩
         have hle2 := less_any _ vt R (b * n) w6 (HMS.out.below hb6 (Nat.le_refl _)) hvt hle (by omega)
         have HLE := Lib.hid hle2; have HB6 := Lib.hid hb6
         have hz6 := hb6.size
         rw [World.size_setCell] at hz6
         clear hle2 hvt hb6
         go_wp2_with fail
         refine HLE.out.mono ?_
         rintro e w7 ⟨⟨vl, rfl, hvl⟩, hb7⟩
         have HVL2 := Lib.hid hvl; have HB7 := Lib.hid hb7
         have hz7 := hb7.size
         clear hvl hb7
         go_wp2
         go_roundw
         case rel =>
          refine ⟨i, n :: hs, R - b * n, by omega, rfl, by rw [List.length_cons, <- HSL.out]; omega, fun d hd => ?_, hmb, HSTEP.out, HVL2.out, ?_, by omega, ?_⟩
          · rcases List.mem_cons.1 hd with h5 | h5
            · subst h5; exact hnB
            · exact HSS.out d h5
          · exact own_belowZ (own_belowZ HSTO.out HB6.out (Nat.le_refl _)) HB7.out (Nat.le_refl _)
          · have h8 := HBWS.out.size
            have h9 := HB6.out.size
            exact (HBWS.out.trans (HB6.out.mono h8)).trans (HB7.out.mono (Nat.le_trans h8 h9))
         case measure => simp [intOf]
end Go.Proofs.YtdpjdifoonfcdaaGreatDoor.Z4

namespace Go.Proofs.YtdpjdifoonfcdaaGreatDoor.Z4
open Go.RowKit
theorem MV.zbox {w : World} {v : Value} {n b : Nat} {x0 : Bool} {a1 : Option Addr} {n1 c1 : Nat} {u0 u1 : Value} (h : MV w v n) (q0 : w.cell? ⟨b, 0, none⟩ = some (.bool x0)) (q1 : w.cell? ⟨b, 1, none⟩ = some (.slice a1 n1 c1)) : MV ((w.setCell ⟨b, 0, none⟩ u0).setCell ⟨b, 1, none⟩ u1) v n := by
 obtain ⟨a, c, h1, h2, h3⟩ := h
 exact ⟨a, c, h1, Z4.zbox h2 q0 q1, h3⟩
theorem ZV.mv {w : World} {v : Value} {n : Int} (h : ZV w v n) : ∃ vd, v = .agg #[.bool (decide (n < 0)), vd] /\ MV w vd n.natAbs := by
 obtain ⟨a, c, h1, h2, h3⟩ := h
 exact ⟨_, h1, a, c, rfl, h2, h3⟩
theorem ZV.of {w : World} {vd : Value} {n : Int} (h : MV w vd n.natAbs) : ZV w (.agg #[.bool (decide (n < 0)), vd]) n := by
 obtain ⟨a, c, h1, h2, h3⟩ := h
 exact ⟨a, c, by rw [h1], h2, h3⟩
set_option maxRecDepth 100000 in
set_option maxHeartbeats 2000000 in
theorem zGcd_any (s1 s2 : Bool) (va vb : Value) (m n : Nat) (w : World) (ha : MV w va m) (hb : MV w vb n) (hl : (dig m).length <= 549755813888) (hl2 : (dig n).length <= 549755813888) :
 Calls Tryz.prog 343 #[.agg #[.bool s1, va], .agg #[.bool s2, vb]] w fun e w' => (∃ v, e = .returned (.agg #[.bool false, v]) /\ MV w' v (Nat.gcd m n)) /\ Below w.heap.size w w' := by
 obtain ⟨aa, ca, rfl⟩ := ha.cases
 obtain ⟨ab, cb, rfl⟩ := hb.cases
 have hbw : Below w.heap.size w (((w.alloc (.cells #[.bool s1, .slice aa (dig m).length ca] 350)).alloc (.cells #[.bool s2, .slice ab (dig n).length cb] 350)).alloc (.cells #[.bool false, .slice none 0 0] 350)) := (((Below.refl w.heap.size w).alloc (Nat.le_refl _) _).alloc (by simp) _).alloc (by simp; omega) _
 have HA := Lib.hid (ha.below hbw (Nat.le_refl _)); have HB := Lib.hid (hb.below hbw (Nat.le_refl _)); have HBW := Lib.hid hbw
 have HL := Lib.hid hl; have HL2 := Lib.hid hl2
 obtain ⟨q0, q1, q2, f2⟩ := boxes3 (B := w.heap.size + 3) (Below.refl _ (((w.alloc (.cells #[.bool s1, .slice aa (dig m).length ca] 350)).alloc (.cells #[.bool s2, .slice ab (dig n).length cb] 350)).alloc (.cells #[.bool false, .slice none 0 0] 350))) (by omega)
 have q01 := q0 1
 have q11 := q1 1
 simp only [List.getElem?_toArray, List.getElem?_cons_succ, List.getElem?_cons_zero] at q01 q11
 clear ha hb hbw hl hl2 q0 q1 q2 f2
 go_enter Tryz.func343, Tryz.ntmps343
 go_wp2
 go_quiet (fail)
 go_wp2
 go_loopg [5, 6] n (fun b x y wr => ∃ p q : Nat, q <= b /\ MV wr x p /\ MV wr y q /\ Nat.gcd p q = Nat.gcd m n /\ (dig p).length <= 549755813888 /\ (dig q).length <= 549755813888 /\ Below (w.heap.size + 3) (((w.alloc (.cells #[.bool s1, .slice aa (dig m).length ca] 350)).alloc (.cells #[.bool s2, .slice ab (dig n).length cb] 350)).alloc (.cells #[.bool false, .slice none 0 0] 350)) wr)
 case atStart => exact ⟨m, n, Nat.le_refl _, HA.out, HB.out, rfl, HL.out, HL2.out, bel_drewN (Below.refl _ _) _⟩
 case round =>
  clear HA HB q01 q11
  obtain ⟨p, q, hqb, hp, hq, hg, hpl, hql, hbe⟩ := hrel
  have HP := Lib.hid hp; have HQ := Lib.hid hq
  have hq2 := hq
  obtain ⟨aq, cq, rfl, hqc, hqc2⟩ := hq
  have hsz := hbe.size
  simp only [World.size_alloc] at hsz
  by_cases h0 : q = 0
  · subst h0
    have he : p = Nat.gcd m n := by rw [<- hg, Nat.gcd_zero_right]
    have hl0 : (dig 0).length = 0 := by rw [dig_zero]; rfl
    rw [hl0]
    obtain ⟨-, -, q2, f2⟩ := boxes3 hbe (by omega)
    have q20 := q2 0
    have q21 := q2 1
    simp only [List.getElem?_toArray, List.getElem?_cons_succ, List.getElem?_cons_zero] at q20 q21
    have f0 := f2 0
    have f1 := f2 1
    obtain ⟨ap, cp, rfl⟩ := hp.cases
    have HE := Lib.hid he; clear he hg hq2 hp hqc hqc2 hl0 q2 f2
    have hbw := HBW.out.trans (hbe.mono (by omega))
    go_wp2
    refine bodyPost_ret (v := .agg #[.bool false, .slice ap (dig p).length cp]) (by simp [results, Tryz.results343, go_sem, q20, q21]) rfl ?_
    exact ⟨⟨_, rfl, by rw [<- HE.out]; exact HP.out.zbox q20 q21⟩, (hbw.setCell (by show w.heap.size <= w.heap.size + 1 + 1; omega) _).setCell (by show w.heap.size <= w.heap.size + 1 + 1; omega) _⟩
  · have hlp : 0 < ((dig q).length : Int) := by
     have : (dig q).length ≠ 0 := by rw [Ne, dig_len_pos]; exact h0
     omega
    have hov := divide_any _ _ p q wr hp hq2 h0 hpl hql
    have hlt : p % q < q := Nat.mod_lt _ (by omega)
    have hg2 : Nat.gcd q (p % q) = Nat.gcd m n := by rw [<- hg, Nat.gcd_comm q, <- Nat.gcd_rec, Nat.gcd_comm]
    have hml : (dig (p % q)).length <= 549755813888 := Nat.le_trans (dig_len_mono (Nat.le_of_lt hlt)) hql
    have HO := Lib.hid hov; have HG := Lib.hid hg2
    clear hov hg hg2 hp hq2 hqc hqc2
    go_wp2_with fail
    refine HO.out.mono ?_
    rintro e w1 ⟨⟨vq, vr, rfl, _, hr⟩, hb1⟩
    have HR := Lib.hid hr; clear hr
    go_wp2
    go_roundg (p % q)
    case measure => omega
    case rel => exact ⟨q, p % q, Nat.le_refl _, HQ.out.below hb1 (Nat.le_refl _), HR.out, HG.out, hql, hml, hbe.trans (hb1.mono (by omega))⟩
end Go.Proofs.YtdpjdifoonfcdaaGreatDoor.Z4

namespace Go.Proofs.YtdpjdifoonfcdaaGreatDoor.Z4
open Go.RowKit
theorem made_mv (s : Bool) (vd : Value) (n : Nat) (w : World) (h : MV w vd n) :
 Calls Tryz.prog 327 #[.bool s, vd] w fun e w' => e = .returned (.agg #[.bool (s && decide (0 < (dig n).length)), vd]) /\ Below w.heap.size w w' := by
 obtain ⟨a, c, rfl, h1, h2, h3⟩ := h
 have := made_any s a (dig n) c w h1 (sm_dig _) (by omega) h2 h3
 rwa [val_dig] at this
theorem MV.box4 {w : World} {v : Value} {n b : Nat} {x0 x2 : Bool} {a1 a3 : Option Addr} {n1 c1 n3 c3 : Nat} {u0 u1 u2 u3 : Value} (h : MV w v n) (q0 : w.cell? ⟨b, 0, none⟩ = some (.bool x0)) (q1 : w.cell? ⟨b, 1, none⟩ = some (.slice a1 n1 c1)) (q2 : w.cell? ⟨b, 2, none⟩ = some (.bool x2)) (q3 : w.cell? ⟨b, 3, none⟩ = some (.slice a3 n3 c3)) :
 MV ((((w.setCell ⟨b, 0, none⟩ u0).setCell ⟨b, 1, none⟩ u1).setCell ⟨b, 2, none⟩ u2).setCell ⟨b, 3, none⟩ u3) v n := by
 obtain ⟨a, c, h1, h2, h3⟩ := h
 refine ⟨a, c, h1, ?_, h3⟩
 have hn : ∀ (y : Value), (∀ z, y ≠ .int .i64 z) -> ∀ x ∈ zs (dig n), x ≠ y := fun y hy x hx e => by
  simp only [zs, List.mem_map] at hx; obtain ⟨d, _, rfl⟩ := hx; exact hy _ e.symm
 refine (((h2.set q0 (hn _ (fun z e => by cases e))).set (v0 := .slice a1 n1 c1) ?_ (hn _ (fun z e => by cases e))).set (v0 := .bool x2) ?_ (hn _ (fun z e => by cases e))).set (v0 := .slice a3 n3 c3) ?_ (hn _ (fun z e => by cases e))
 · rw [World.cell?_setCell_other _ _ _ _ (by simp)]; exact q1
 · rw [World.cell?_setCell_other _ _ _ _ (by simp), World.cell?_setCell_other _ _ _ _ (by simp)]; exact q2
 · rw [World.cell?_setCell_other _ _ _ _ (by simp), World.cell?_setCell_other _ _ _ _ (by simp), World.cell?_setCell_other _ _ _ _ (by simp)]; exact q3
def QV (w : World) (v : Value) (s : Bool) (n d : Nat) : Prop := ∃ vn vd, v = .agg #[.bool s, vn, .bool false, vd] /\ MV w vn n /\ MV w vd d
theorem QV.below {w w' : World} {B : Nat} {v : Value} {s : Bool} {n d : Nat} (h : QV w v s n d) (hb : Below B w w') (hB : w.heap.size <= B) : QV w' v s n d := by
 obtain ⟨a, c, h1, h2, h3⟩ := h
 exact ⟨a, c, h1, h2.below hb hB, h3.below hb hB⟩
set_option maxRecDepth 100000 in
set_option maxHeartbeats 2000000 in
theorem qOf_pos (va vb : Value) (n : Int) (d : Nat) (w : World) (ha : ZV w va n) (hb : ZV w vb d) (hd : d ≠ 0) (hl : (dig n.natAbs).length <= 549755813888) (hl2 : (dig d).length <= 549755813888) :
 Calls Tryz.prog 325 #[va, vb] w fun e w' => (∃ v, e = .returned v /\ QV w' v (decide (n < 0)) (n.natAbs / Nat.gcd n.natAbs d) (d / Nat.gcd n.natAbs d)) /\ Below w.heap.size w w' := by
 have hma := ha.mv
 have hmb := hb.mv
 clear ha hb
 obtain ⟨xa, rfl, ha⟩ := hma
 obtain ⟨xb, rfl, hb⟩ := hmb
 rw [Int.natAbs_natCast] at hb
 rw [decide_eq_false (show ¬ (d : Int) < 0 by omega)]
 obtain ⟨s, hs⟩ : ∃ s, s = decide (n < 0) := ⟨_, rfl⟩
 obtain ⟨N, hN⟩ : ∃ N, N = n.natAbs := ⟨_, rfl⟩
 have hs0 : s = true -> N ≠ 0 := fun h => by rw [hs] at h; have := of_decide_eq_true h; omega
 rw [<- hs, <- hN]
 rw [<- hN] at ha hl
 clear hs hN
 obtain ⟨g, hg⟩ : ∃ g, g = Nat.gcd N d := ⟨_, rfl⟩
 have hg0 : g ≠ 0 := by rw [hg]; have := Nat.gcd_pos_of_pos_right N (show 0 < d by omega); omega
 have hgd : g ∣ N := by rw [hg]; exact Nat.gcd_dvd_left _ _
 have hgl : (dig g).length <= 549755813888 := Nat.le_trans (dig_len_mono (by rw [hg]; exact Nat.le_of_dvd (by omega) (Nat.gcd_dvd_right N d))) hl2
 have hsn : (s && decide (0 < (dig (N / g)).length)) = s := by
  cases hsv : s with
  | false => rfl
  | true =>
    have h1 : N / g ≠ 0 := by
     have := hs0 hsv
     have h2 := Nat.div_pos (Nat.le_of_dvd (by omega) hgd) (by omega)
     omega
    have h3 := mt dig_len_pos.1 h1
    rw [decide_eq_true (by omega)]; rfl
 obtain ⟨aa, ca, rfl⟩ := ha.cases
 obtain ⟨ab, cb, rfl⟩ := hb.cases
 have hbw : Below w.heap.size w (((w.alloc (.cells #[.bool s, .slice aa (dig N).length ca] 350)).alloc (.cells #[.bool false, .slice ab (dig d).length cb] 350)).alloc (.cells #[.bool false, .slice none 0 0, .bool false, .slice none 0 0] 352)) := (((Below.refl w.heap.size w).alloc (Nat.le_refl _) _).alloc (by simp) _).alloc (by simp; omega) _
 obtain ⟨W3, hW3⟩ : ∃ W3, W3 = (((w.alloc (.cells #[.bool s, .slice aa (dig N).length ca] 350)).alloc (.cells #[.bool false, .slice ab (dig d).length cb] 350)).alloc (.cells #[.bool false, .slice none 0 0, .bool false, .slice none 0 0] 352)) := ⟨_, rfl⟩
 have hz3 : W3.heap.size = w.heap.size + 3 := by rw [hW3]; simp
 have HBX : Hid (∀ {B : Nat} {w1 : World}, Below B W3 w1 -> w.heap.size + 2 < B -> (∀ i, w1.cell? ⟨w.heap.size, i, none⟩ = #[Value.bool s, .slice aa (dig N).length ca][i]?) /\ (∀ i, w1.cell? ⟨w.heap.size + 1, i, none⟩ = #[Value.bool false, .slice ab (dig d).length cb][i]?) /\ (∀ i, w1.cell? ⟨w.heap.size + 2, i, none⟩ = #[Value.bool false, .slice none 0 0, .bool false, .slice none 0 0][i]?) /\ (∀ i, w1.frozen? ⟨w.heap.size + 2, i, none⟩ = false)) := fun hb hB => by rw [hW3] at hb; exact boxes3 hb hB
 rw [<- hW3] at hbw
 have hgc := zGcd_any s false _ _ N d W3 (ha.below hbw (Nat.le_refl _)) (hb.below hbw (Nat.le_refl _)) hl hl2
 rw [<- hg] at hgc ⊢
 have hda := fun W x (h1 : MV W (.slice aa (dig N).length ca) N) (h2 : MV W x g) => divide_any _ x N g W h1 h2 hg0 hl hgl
 have hdb := fun W x (h1 : MV W (.slice ab (dig d).length cb) d) (h2 : MV W x g) => divide_any _ x d g W h1 h2 hg0 hl2 hgl
 have HGC := Lib.hid hgc; have HDA := Lib.hid hda; have HDB := Lib.hid hdb; have HA := Lib.hid (ha.below hbw (Nat.le_refl _)); have HB := Lib.hid (hb.below hbw (Nat.le_refl _)); have HBW := Lib.hid hbw; have HSN := Lib.hid hsn
 obtain ⟨q0, q1, -, -⟩ := HBX.out (Below.refl (w.heap.size + 3) W3) (by omega)
 have q00 := q0 0
 have q01 := q0 1
 have q10 := q1 0
 have q11 := q1 1
 simp only [List.getElem?_toArray, List.getElem?_cons_succ, List.getElem?_cons_zero] at q00 q01 q10 q11
 clear hgc hda hdb ha hb hbw hsn q0 q1 hg hgd hs0
 rw [hW3] at q00 q01 q10 q11 HGC
 go_enter Tryz.func325, Tryz.ntmps325
 go_wp2_with fail
 refine HGC.out.mono ?_
 rintro e w1 ⟨⟨vg, rfl, hvg⟩, hb1⟩
 rw [<- hW3] at hb1
 obtain ⟨ag, cg, rfl⟩ := hvg.cases
 have hbx1 : Below (w.heap.size + 3) W3 w1 := (Below.refl _ W3).trans (hb1.mono (by omega))
 have hz1 := hbx1.size
 have hal := (Below.refl w1.heap.size w1).alloc (Nat.le_refl _) (.cells #[.bool false, .slice ag (dig g).length cg] 350)
 have hbx4 := hbx1.trans (hal.mono (by omega))
 have hg4 := hvg.below hal (Nat.le_refl _)
 have ha4 := HA.out.below (hbx4.mono (by omega : W3.heap.size <= w.heap.size + 3) |> fun h => hb1.trans (hal.mono hb1.size)) (Nat.le_refl _)
 have hdv := HDA.out _ _ ha4 hg4
 obtain ⟨q0, q1, -, -⟩ := HBX.out hbx4 (by omega)
 have q41 := q0 1
 simp only [List.getElem?_toArray, List.getElem?_cons_succ, List.getElem?_cons_zero] at q41
 have r41 : (w1.alloc (.cells #[.bool false, .slice ag (dig g).length cg] 350)).cell? ⟨w1.heap.size, 1, none⟩ = some (.slice ag (dig g).length cg) := by simp
 have HDV := Lib.hid hdv; have HG4 := Lib.hid hg4; have HX4 := Lib.hid hbx4; have HB14 := Lib.hid (hb1.trans (hal.mono hb1.size))
 clear q00 q01 q10 q11 hdv hg4 ha4 hbx1 hbx4 q0 q1 hvg hb1 hal HGC
 clear hW3
 go_wp2_with fail
 refine HDV.out.mono ?_
 rintro e w5 ⟨⟨vq, vr, rfl, hvq, -⟩, hb5⟩
 have hz5 := hb5.size
 simp only [World.size_alloc] at hz5
 have hb5' : Below (w1.heap.size + 1) (w1.alloc (.cells #[.bool false, .slice ag (dig g).length cg] 350)) w5 := hb5.mono (by simp)
 have hbx5 := HX4.out.trans (hb5'.mono (by omega))
 obtain ⟨q0, q1, -, -⟩ := HBX.out hbx5 (by omega)
 have q51 := q1 1
 have q50 := q0 0
 simp only [List.getElem?_toArray, List.getElem?_cons_succ, List.getElem?_cons_zero] at q51 q50
 have r51 : w5.cell? ⟨w1.heap.size, 1, none⟩ = some (.slice ag (dig g).length cg) := box_keep hb5' (by omega) 1
 have hw35 := HB14.out.trans (hb5.mono (by simp; omega))
 have hdv := HDB.out w5 _ (HB.out.below hw35 (Nat.le_refl _)) (HG4.out.below hb5 (Nat.le_refl _))
 have HDV2 := Lib.hid hdv; have HVQ := Lib.hid hvq; have HX5 := Lib.hid hbx5; have HW35 := Lib.hid hw35
 obtain ⟨aq, cq, rfl⟩ := hvq.cases
 clear q41 r41 hdv hvq hbx5 q0 q1 hb5 hb5' hw35 q50
 go_wp2_with fail
 refine HDV2.out.mono ?_
 rintro e w6 ⟨⟨vp, vr2, rfl, hvp, -⟩, hb6⟩
 have hz6 := hb6.size
 have hbx6 := HX5.out.trans (hb6.mono (by omega))
 obtain ⟨q0, -, -, -⟩ := HBX.out hbx6 (by omega)
 have q60 := q0 0
 simp only [List.getElem?_toArray, List.getElem?_cons_zero] at q60
 obtain ⟨ap, cp, rfl⟩ := hvp.cases
 have HVQ6 := Lib.hid (HVQ.out.below hb6 (Nat.le_refl _)); have HVP := Lib.hid hvp; have HX6 := Lib.hid hbx6
 have HM1 := Lib.hid (made_mv s _ _ w6 HVQ6.out)
 clear q51 r51 hvp hbx6 q0 hb6
 go_wp2_with fail
 refine HM1.out.mono ?_
 rw [HSN.out]
 rintro e w7 ⟨rfl, hb7⟩
 have hz7 := hb7.size
 have HVP7 := Lib.hid (HVP.out.below hb7 (Nat.le_refl _)); have HVQ7 := Lib.hid (HVQ6.out.below hb7 (Nat.le_refl _))
 have HM2 := Lib.hid (made_mv false _ _ w7 HVP7.out)
 have HX7 := Lib.hid (HX6.out.trans (hb7.mono (by omega)))
 clear q60 hb7
 go_wp2_with fail
 refine HM2.out.mono ?_
 rintro e w8 ⟨rfl, hb8⟩
 have hbx8 := HX7.out.trans (hb8.mono (by omega))
 have HVP8 := Lib.hid (HVP7.out.below hb8 (Nat.le_refl _)); have HVQ8 := Lib.hid (HVQ7.out.below hb8 (Nat.le_refl _))
 obtain ⟨-, -, q2, f2⟩ := HBX.out hbx8 (by omega)
 have q20 := q2 0
 have q21 := q2 1
 have q22 := q2 2
 have q23 := q2 3
 simp only [List.getElem?_toArray, List.getElem?_cons_succ, List.getElem?_cons_zero] at q20 q21 q22 q23
 have f0 := f2 0
 have f1 := f2 1
 have f3 := f2 2
 have f4 := f2 3
 have hbw8 := HBW.out.trans (hbx8.mono (by omega))
 clear hb8
 go_wp2
 refine bodyPost_ret (v := .agg #[.bool s, .slice aq (dig (N / g)).length cq, .bool false, .slice ap (dig (d / g)).length cp]) (by simp [results, Tryz.results325, go_sem, q20, q21, q22, q23]) rfl ?_
 have hle : w.heap.size <= w.heap.size + 1 + 1 := by omega
 exact ⟨⟨_, rfl, _, _, rfl, HVQ8.out.box4 q20 q21 q22 q23, HVP8.out.box4 q20 q21 q22 q23⟩, (((hbw8.setCell hle _).setCell hle _).setCell hle _).setCell hle _⟩
end Go.Proofs.YtdpjdifoonfcdaaGreatDoor.Z4

namespace Go.Proofs.YtdpjdifoonfcdaaGreatDoor.Z4
open Go.RowKit
set_option maxRecDepth 100000 in
set_option maxHeartbeats 4000000 in
theorem qNeg_any (va : Value) (N : Int) (d : Nat) (w : World) (ha : QV w va (decide (N < 0)) N.natAbs d) :
 Calls Tryz.prog 300 #[va] w fun e w' => (∃ v, e = .returned v /\ QV w' v (decide (-N < 0)) (-N).natAbs d) /\ Below w.heap.size w w' := by
 obtain ⟨vn, vd, rfl, ⟨a1, c1, rfl, h1, h2, h3⟩, ⟨b1, e1, rfl, h4, h5, h6⟩⟩ := ha
 have za : ZV w (.agg #[.bool (decide (N < 0)), .slice a1 (dig N.natAbs).length c1]) N := ⟨a1, c1, rfl, h1, h2, h3⟩
 have hmd : MV w (.slice b1 (dig d).length e1) d := ⟨b1, e1, rfl, h4, h5, h6⟩
 have hng := fun W (h : Below w.heap.size w W) => zNeg_any _ N W (za.below h (Nat.le_refl _))
 have HNG := Lib.hid hng; have HMD := Lib.hid hmd
 clear za hmd hng h1 h2 h3 h4 h5 h6
 generalize -N = M at *
 generalize (dig N.natAbs).length = n1 at *
 generalize decide (N < 0) = s1 at *
 obtain ⟨m1, hm1⟩ : ∃ m1, (dig d).length = m1 := ⟨_, rfl⟩
 rw [hm1] at HMD ⊢
 obtain ⟨W0, hW0⟩ : ∃ W0, W0 = ((w.alloc (.cells #[.bool s1, .slice a1 n1 c1, .bool false, .slice b1 m1 e1] 352)).alloc (.cells #[.bool false, .slice none 0 0, .bool false, .slice none 0 0] 352)) := ⟨_, rfl⟩
 have hB0 : Below w.heap.size w W0 := by rw [hW0]; exact ((Below.refl _ _).alloc (Nat.le_refl _) _).alloc (by simp) _
 have hs2 : W0.heap.size = w.heap.size + 2 := by rw [hW0]; simp
 have x0 : W0.cell? ⟨w.heap.size, 0, none⟩ = some (.bool s1) := by rw [hW0]; exact (cell_of_row _ _ 0 _ _ _ (heap_alloc2_old w _ _)).trans rfl
 have x1 : W0.cell? ⟨w.heap.size, 1, none⟩ = some (.slice a1 n1 c1) := by rw [hW0]; exact (cell_of_row _ _ 1 _ _ _ (heap_alloc2_old w _ _)).trans rfl
 have x2 : W0.cell? ⟨w.heap.size, 2, none⟩ = some (.bool false) := by rw [hW0]; exact (cell_of_row _ _ 2 _ _ _ (heap_alloc2_old w _ _)).trans rfl
 have x3 : W0.cell? ⟨w.heap.size, 3, none⟩ = some (.slice b1 m1 e1) := by rw [hW0]; exact (cell_of_row _ _ 3 _ _ _ (heap_alloc2_old w _ _)).trans rfl
 have xd0 : W0.drew.cell? ⟨w.heap.size, 0, none⟩ = some (.bool s1) := x0
 have xd1 : W0.drew.cell? ⟨w.heap.size, 1, none⟩ = some (.slice a1 n1 c1) := x1
 have xd2 : W0.drew.cell? ⟨w.heap.size, 2, none⟩ = some (.bool false) := x2
 have xd3 : W0.drew.cell? ⟨w.heap.size, 3, none⟩ = some (.slice b1 m1 e1) := x3
 have hq := fun (B : Nat) (w1 : World) (h : Below B W0 w1) (h2 : w.heap.size + 1 < B) (i : Nat) => box_keep1 (w := w) (by rw [hW0] at h; exact h) h2 i
 have hf := fun (B : Nat) (w1 : World) (h : Below B W0 w1) (h2 : w.heap.size + 1 < B) (i : Nat) => box_free1 (w := w) (by rw [hW0] at h; exact h) h2 i
 have HQ := Lib.hid hq; have HF := Lib.hid hf; have HB0 := Lib.hid hB0
 have HBC := Lib.hid ((Below.refl W0.heap.size W0).drew)
 obtain ⟨wc, hwc⟩ : ∃ wc, wc = W0.drew := ⟨_, rfl⟩
 rw [<- hwc] at HBC
 clear hq hf hB0
 go_enter Tryz.func300, Tryz.ntmps300
 go_wp2_with fail
 rw [<- hW0]
 clear hW0
 go_region_held3 (fun w' => w'.cell? ⟨w.heap.size, 0, none⟩ = some (.bool s1) /\ w'.cell? ⟨w.heap.size, 1, none⟩ = some (.slice a1 n1 c1) /\ w'.cell? ⟨w.heap.size, 2, none⟩ = some (.bool false) /\ w'.cell? ⟨w.heap.size, 3, none⟩ = some (.slice b1 m1 e1))
  (first | with_reducible exact ⟨px0, px1, px2, px3⟩ | with_reducible exact ⟨x0, x1, x2, x3⟩ | with_reducible exact ⟨xd0, xd1, xd2, xd3⟩ | (refine ⟨?_, ?_, ?_, ?_⟩ <;> (repeat rw [World.cell?_setCell_other _ _ _ _ (by simp)]) <;> assumption) | go_keep)
  (first
   | (go_at_call 326; (try rw [<- hwc]); (with_reducible refine Calls.mono (HNG.out wc (HB0.out.trans (HBC.out.mono HB0.out.size))) ?_); rintro e wc ⟨⟨v5, rfl, hv5⟩, hbc⟩; obtain ⟨g, cg, rfl, hg1, hg2, hg3⟩ := hv5; have HG1 := Lib.hid hg1; have HBC := Lib.hid (HBC.out.trans (hbc.mono HBC.out.size)); have px0 := cell_keep x0 HBC.out (Nat.le_refl _); have px1 := cell_keep x1 HBC.out (Nat.le_refl _); have px2 := cell_keep x2 HBC.out (Nat.le_refl _); have px3 := cell_keep x3 HBC.out (Nat.le_refl _); have q20 := HQ.out _ _ HBC.out (by omega) 0; have q21 := HQ.out _ _ HBC.out (by omega) 1; have q22 := HQ.out _ _ HBC.out (by omega) 2; have q23 := HQ.out _ _ HBC.out (by omega) 3; simp only [List.getElem?_toArray, List.getElem?_cons_succ, List.getElem?_cons_zero] at q20 q21 q22 q23; have f0 := HF.out _ _ HBC.out (by omega) 0; have f1 := HF.out _ _ HBC.out (by omega) 1; have f2 := HF.out _ _ HBC.out (by omega) 2; have f3 := HF.out _ _ HBC.out (by omega) 3; clear hbc hg1))
 all_goals
  have hbw := HB0.out.trans (HBC.out.mono HB0.out.size)
  have hle : w.heap.size <= w.heap.size + 1 := by omega
  have HM := Lib.hid (HMD.out.below hbw (Nat.le_refl _))
  have HV : Hid (MV wc (.slice g (dig M.natAbs).length cg) M.natAbs) := ⟨g, cg, rfl, HG1.out, hg2, hg3⟩
  go_wp2
  refine bodyPost_ret (v := .agg #[.bool (decide (M < 0)), .slice g (dig M.natAbs).length cg, .bool false, .slice b1 m1 e1]) (by simp [results, Tryz.results300, go_sem, q20, q21, q22, q23]) rfl ?_
  exact ⟨⟨_, rfl, _, _, rfl, HV.out.box4 q20 q21 q22 q23, HM.out.box4 q20 q21 q22 q23⟩, (((hbw.setCell hle _).setCell hle _).setCell hle _).setCell hle _⟩
end Go.Proofs.YtdpjdifoonfcdaaGreatDoor.Z4

namespace Go.Proofs.YtdpjdifoonfcdaaGreatDoor.Z4
open Go.RowKit
theorem chunk4 {l : List UInt8} {ds : List Nat} {k j n : Nat} (hj : j <= k) (hn : n = dval ((l.drop j).take (k - j))) (hd : l.length - k = 4 * ds.length) (hv : val ds = dval (l.drop k)) :
 val (ds ++ [n]) = dval (l.drop j) := by
 have e : l.drop j = (l.drop j).take (k - j) ++ l.drop k := by
  conv => lhs; rw [<- List.take_append_drop (k - j) (l.drop j)]
  rw [List.drop_drop, show j + (k - j) = k from by omega]
 have hB : B ^ ds.length = 10 ^ (4 * ds.length) := by rw [Nat.pow_mul]; rfl
 rw [e, dval_append, List.length_drop, <- hv, <- hn, val_snoc, hd, hB, Nat.mul_comm n]
 omega
def pfx (l : List UInt8) : Nat := ((l.take 2001).takeWhile isDg).length
def numN (l : List UInt8) : Nat := dval (l.take (pfx l))
def numT (l : List UInt8) : List UInt8 := l.drop (pfx l)
def partN (l : List UInt8) : Nat × Nat × List UInt8 :=
 if pfx l = 0 then (1, 1, l)
 else match numT l with
  | [] => (numN l, 1, [])
  | c :: r => if c = 47 /\ numN r ≠ 0 then (numN l / Nat.gcd (numN l) (numN r), numN r / Nat.gcd (numN l) (numN r), numT r) else (numN l, 1, c :: r)
def signN (l : List UInt8) : Bool × Nat × Nat × List UInt8 :=
 match l with
 | [] => (false, 1, 1, [])
 | c :: r => if c = 45 then (decide ((partN r).1 ≠ 0), partN r) else if c = 43 then (false, partN r) else (false, partN (c :: r))
theorem pfx_le (l : List UInt8) : pfx l <= l.length /\ pfx l <= 2001 := by
 unfold pfx
 have h1 := (List.takeWhile_prefix (p := isDg) (l := l.take 2001)).length_le
 rw [List.length_take] at h1
 omega
theorem takeWhile_take {p : UInt8 -> Bool} : ∀ (l : List UInt8), l.take (l.takeWhile p).length = l.takeWhile p := by
 intro l
 induction l with
 | nil => rfl
 | cons x r ih =>
   rw [List.takeWhile_cons]
   split
   · rw [List.length_cons, List.take_succ_cons, ih]
   · rfl
theorem pfx_take (l : List UInt8) : l.take (pfx l) = (l.take 2001).takeWhile isDg := by
 have h := takeWhile_take (p := isDg) (l.take 2001)
 rw [List.take_take] at h
 have h2 := (pfx_le l).2
 rw [Nat.min_eq_left (by unfold pfx at h2; exact h2)] at h
 exact h
theorem pfx_dg (l : List UInt8) : (l.take (pfx l)).all isDg = true := by
 rw [pfx_take, List.all_eq_true]
 intro x hx
 have : ∀ (m : List UInt8), ∀ x ∈ m.takeWhile isDg, isDg x = true := by
  intro m
  induction m with
  | nil => simp
  | cons y r ih =>
    intro x hx
    rw [List.takeWhile_cons] at hx
    split at hx
    · rename_i hy
      rcases List.mem_cons.1 hx with rfl | hx
      · exact hy
      · exact ih x hx
    · simp at hx
 exact this _ x hx
theorem pfx_is {l : List UInt8} {i : Nat} (hi : i <= l.length) (h2 : i <= 2001) (ha : (l.take i).all isDg = true) (hend : i = l.length ∨ i = 2001 ∨ ∃ c, l[i]? = some c /\ isDg c = false) : pfx l = i := by
 have key : ∀ (l : List UInt8) (m i : Nat), i <= l.length -> i <= m -> (l.take i).all isDg = true -> (i = l.length ∨ i = m ∨ ∃ c, l[i]? = some c /\ isDg c = false) -> ((l.take m).takeWhile isDg).length = i := by
  intro l
  induction l with
  | nil => intro m i h1 _ _ _; simp at h1; subst h1; simp
  | cons x r ih =>
    intro m i h1 h2 h3 h4
    cases m with
    | zero => obtain rfl : i = 0 := by omega
              simp
    | succ m =>
      rw [List.take_succ_cons, List.takeWhile_cons]
      cases i with
      | zero =>
        rcases h4 with h4 | h4 | ⟨c, h4, h5⟩
        · simp at h4
        · omega
        · simp at h4; subst h4; rw [h5]; rfl
      | succ i =>
        rw [List.take_succ_cons, List.all_cons, Bool.and_eq_true] at h3
        rw [h3.1, if_pos rfl, List.length_cons, ih m i (by simpa using h1) (by omega) h3.2 ?_]
        rcases h4 with h4 | h4 | ⟨c, h4, h5⟩
        · left; simpa using h4
        · right; left; omega
        · right; right; exact ⟨c, by simpa using h4, h5⟩
 exact key l 2001 i hi h2 ha hend
theorem ten_pow (n : Nat) : 10 ^ (4 * n) = B ^ n := by rw [Nat.pow_mul]; rfl
theorem one_lt_pow (k : Nat) : 1 < B ^ (k + 1) := Nat.one_lt_pow (Nat.succ_ne_zero k) (by decide)
def e501 : Nat := 501
theorem one_lt_pow' {k : Nat} (h : k ≠ 0) : 1 < B ^ k := Nat.one_lt_pow h (by decide)
theorem one_lt_B : 1 < B ^ e501 := one_lt_pow' (by decide)
theorem numN_lt (l : List UInt8) : numN l < B ^ e501 := by
 refine Nat.lt_of_lt_of_le (dval_lt _ (pfx_dg l)) ?_
 refine Nat.le_trans (Nat.pow_le_pow_right (by decide) (?_ : _ <= 4 * e501)) (Nat.le_of_eq (ten_pow e501))
 rw [List.length_take]
 have := (pfx_le l).2
 unfold e501
 omega
theorem partN_bd (l : List UInt8) : (partN l).1 < B ^ e501 /\ (partN l).2.1 < B ^ e501 /\ (partN l).2.1 ≠ 0 /\ Nat.gcd (partN l).1 (partN l).2.1 = 1 := by
 have h1 := one_lt_B
 unfold partN
 split
 · exact ⟨h1, h1, Nat.one_ne_zero, Nat.gcd_one_right _⟩
 · split
   · exact ⟨numN_lt l, h1, Nat.one_ne_zero, Nat.gcd_one_right _⟩
   · rename_i c r hr
     split
     · rename_i hc
       have hg : 0 < Nat.gcd (numN l) (numN r) := Nat.gcd_pos_of_pos_right _ (by omega)
       refine ⟨Nat.lt_of_le_of_lt (Nat.div_le_self _ _) (numN_lt l), Nat.lt_of_le_of_lt (Nat.div_le_self _ _) (numN_lt r), ?_, Nat.gcd_div_gcd_div_gcd_of_pos_right (by omega)⟩
       have := Nat.div_pos (Nat.le_of_dvd (by omega) (Nat.gcd_dvd_right (numN l) (numN r))) hg
       show numN r / _ ≠ 0
       omega
     · exact ⟨numN_lt l, h1, Nat.one_ne_zero, Nat.gcd_one_right _⟩
theorem signN_bd (l : List UInt8) : (signN l).2.1 < B ^ e501 /\ (signN l).2.2.1 < B ^ e501 /\ (signN l).2.2.1 ≠ 0 /\ Nat.gcd (signN l).2.1 (signN l).2.2.1 = 1 /\ ((signN l).2.1 = 0 -> (signN l).1 = false) := by
 have h1 := one_lt_B
 unfold signN
 split
 · exact ⟨h1, h1, Nat.one_ne_zero, Nat.gcd_one_right _, fun _ => rfl⟩
 · rename_i c r
   split
   · obtain ⟨a, b, e, f⟩ := partN_bd r
     exact ⟨a, b, e, f, fun h => by show decide ((partN r).1 ≠ 0) = false; rw [decide_eq_false]; simpa using h⟩
   · split
     · obtain ⟨a, b, e, f⟩ := partN_bd r
       exact ⟨a, b, e, f, fun _ => rfl⟩
     · obtain ⟨a, b, e, f⟩ := partN_bd (c :: r)
       exact ⟨a, b, e, f, fun _ => rfl⟩
theorem dig_501 {n : Nat} (h : n < B ^ e501) : (dig n).length <= 501 := by
 apply Nat.le_of_not_lt
 intro hc
 have hn : n ≠ 0 := by rintro rfl; simp [dig_zero] at hc
 have h1 := pow_len_le hn
 have h2 : B ^ e501 <= B ^ ((dig n).length - 1) := Nat.pow_le_pow_right B_pos (by unfold e501; omega)
 exact absurd (Nat.lt_of_lt_of_le h (Nat.le_trans h2 h1)) (Nat.lt_irrefl _)
end Go.Proofs.YtdpjdifoonfcdaaGreatDoor.Z4
