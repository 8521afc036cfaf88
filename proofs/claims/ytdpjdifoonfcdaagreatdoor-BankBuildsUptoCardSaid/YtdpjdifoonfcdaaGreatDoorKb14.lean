/- Parts of a proof, in build order: O2, O3, Za, Zb, Zc, Zd, Ze, Zf, Zg, O4, O5. -/
import Derived.Test.YtdpjdifoonfcdaaGreatDoorKb13
import Derived.Lib.ItoaNum
import Derived.Lib.ItoaLen

namespace Go.Proofs.YtdpjdifoonfcdaaGreatDoor.Z4
open Go.RowKit
theorem sm_snoc4 {ds : List Nat} {n : Nat} (h : Sm ds) (hn : n < B) : Sm (ds ++ [n]) := by
 intro d hd
 rcases List.mem_append.1 hd with h1 | h1
 · exact h d h1
 · rw [List.mem_singleton.1 h1]; exact hn
set_option maxRecDepth 100000 in
set_option maxHeartbeats 2000000 in
theorem zRead_any (s : ByteArray) (w : World) (hs : s.size <= 2001) (hd : s.data.toList.all isDg = true) :
 Calls Tryz.prog 342 #[.string s] w fun e w' => (∃ v, e = .returned v /\ ZV w' v (dval s.data.toList : Nat)) /\ Below w.heap.size w w' := by
 obtain ⟨i0, hi, hz0, hz1, hz2⟩ := info_parts Tryz.infoInt
 obtain ⟨l, hl⟩ : ∃ l, l = s.data.toList := ⟨_, rfl⟩
 have hsl : s.size = l.length := by rw [hl]; rfl
 rw [<- hl] at hd ⊢
 have HL := Lib.hid hl; have HD := Lib.hid hd; have HSL := Lib.hid hsl
 have hl1 : l.length <= 2001 := by omega
 have hets : (s.size : Int) = (l.length : Int) := by omega
 have hgetc : ∀ i, i < l.length -> ∃ c, l[i]? = some c /\ isDg c = true /\ ∃ h : i < s.size, s[i] = c := fun i h => by
  obtain ⟨c, h1, h2⟩ := byte_get (t := s) (i := i) (by omega)
  rw [<- hl] at h1
  exact ⟨c, h1, List.all_eq_true.1 hd c (List.mem_of_getElem? h1), by omega, h2⟩
 have HGC := Lib.hid hgetc
 have hbw0 := (Below.refl w.heap.size w).alloc (Nat.le_refl _) (.cells #[.bool false, .slice none 0 0] 350)
 have HBW0 := Lib.hid hbw0; clear hbw0 hl hd hgetc hsl
 go_enter Tryz.func342, Tryz.ntmps342
 go_wp2_with fail
 clear hets
 go_loopw [3, 4] (fun dv tv wr => ∃ (ds : List Nat) (k : Int), tv = .int .i64 k /\ -3 <= k /\ k <= l.length /\ (l.length : Int) - k = 4 * (ds.length : Int) /\ val ds = dval (l.drop k.toNat) /\ Sm ds /\ wr.ownsRow (w.heap.size + 1) 3 1 dv ds.length (zs ds) /\ Below (w.heap.size + 1) (w.alloc (.cells #[.bool false, .slice none 0 0] 350)) wr) (fun _ tv _ => (intOf tv).toNat)
 case atStart => exact ⟨[], l.length, by first | rfl | rw [HSL.out], by omega, by omega, by simp, by rw [Int.toNat_natCast, List.drop_length]; rfl, fun d hd => by simp at hd, World.ownsRow_nil _ _ _ _, Below.refl _ _⟩
 case round =>
  obtain ⟨ds, k, rfl, hk1, hk2, hk4, hv, hsm, hown, hb⟩ := hrel
  have hsz := hb.size
  simp only [World.size_alloc] at hsz
  by_cases h0 : k <= 0
  · have hk0 : k.toNat = 0 := by omega
    rw [hk0, List.drop_zero] at hv
    obtain ⟨g, c, rfl, hcs, hc1, hc2⟩ := own_cap hown
    unfold maxLen at hc2
    have hmd := made_any false g ds c wr hcs hsm (by omega) hc1 hc2
    have hlen := dig_len_val hsm
    have hcs2 := strip_cells ds hcs hsm
    rw [hv] at hmd hcs2 hlen
    have HMD := Lib.hid hmd; have HCS := Lib.hid hcs2
    clear hmd hcs hcs2 hown hv hsm hk4 hk0
    go_wp2_with fail
    refine HMD.out.mono ?_
    rintro e w1 ⟨rfl, hb1⟩
    have hbx := hb.trans (hb1.mono hsz)
    have hbw := HBW0.out.trans (hbx.mono (by omega))
    have q0 : w1.cell? ⟨w.heap.size, 0, none⟩ = some (.bool false) := box_keep hbx (by omega) 0
    have q1 : w1.cell? ⟨w.heap.size, 1, none⟩ = some (.slice none 0 0) := box_keep hbx (by omega) 1
    have f0 := box_free hbx (by omega) 0
    have f1 := box_free hbx (by omega) 1
    have HC1 := Lib.hid (HCS.out.below hb1 (Nat.le_refl _))
    go_wp2
    refine bodyPost_ret (v := .agg #[.bool false, .slice g (dig (dval l)).length c]) (by simp [results, Tryz.results342, go_sem, q0, q1]) rfl ?_
    have hz : ZV (((w1.setCell ⟨w.heap.size, 0, none⟩ (.bool false)).setCell ⟨w.heap.size, 1, none⟩ (.slice g (dig (dval l)).length c))) (.agg #[.bool false, .slice g (dig (dval l)).length c]) ((dval l : Nat) : Int) := by
     refine ⟨g, c, ?_, ?_, ?_, hc2⟩
     · rw [decide_eq_false (by omega), Int.natAbs_natCast]
     · rw [Int.natAbs_natCast]; exact zbox HC1.out q0 q1
     · rw [Int.natAbs_natCast]; omega
    exact ⟨⟨_, rfl, hz⟩, (hbw.setCell (Nat.le_refl _) _).setCell (Nat.le_refl _) _⟩
  · obtain ⟨kn, rfl⟩ : ∃ kn : Nat, k = (kn : Int) := ⟨k.toNat, by omega⟩
    rw [Int.toNat_natCast] at hv
    obtain ⟨j, hj⟩ : ∃ j, j = kn - 4 := ⟨_, rfl⟩
    have hjk : j <= kn := by omega
    have hkj : kn - j <= 4 := by omega
    have hkl : kn <= l.length := by omega
    have emax : max (0 : Int) ((kn : Int) - 4) = (j : Int) := by omega
    have ewr : IntKind.i64.wrap ((kn : Int) - 4) = (kn : Int) - 4 := IntWalk.i64_in _ (by omega)
    have hds : ds.length <= 501 := by omega
    have HJ := Lib.hid hj; have HV := Lib.hid hv; have HK4 := Lib.hid hk4; have HSM := Lib.hid hsm
    clear hj hv hk4 hsm
    go_wp2_with fail
    clear emax
    go_loop [5, 6] (fun nv iv => ∃ i n : Nat, j <= i /\ i <= kn /\ iv = .int .i64 i /\ nv = .int .i64 n /\ n = dval ((l.drop j).take (i - j))) (fun _ iv => kn - (intOf iv).toNat)
    case atStart => exact ⟨j, 0, Nat.le_refl _, hjk, rfl, rfl, by rw [Nat.sub_self, List.take_zero]; rfl⟩
    case round =>
     obtain ⟨i, n, hji, hik, rfl, rfl, hn⟩ := hrel
     have hn4 : n < 10000 := by
      have h1 := dval_lt ((l.drop j).take (i - j)) (by
       rw [List.all_eq_true]; intro x hx
       exact List.all_eq_true.1 HD.out x (List.mem_of_mem_drop (List.mem_of_mem_take hx)))
      rw [<- hn] at h1
      have h2 : ((l.drop j).take (i - j)).length <= 4 := by rw [List.length_take]; omega
      have h3 := Nat.pow_le_pow_right (n := 10) (by decide) h2
      omega
     by_cases hlt : i < kn
     · obtain ⟨c, hlc, hcd, hit, rfl⟩ := HGC.out i (by omega)
       have hc8 : (s[i].toNat : Int) <= 255 := by have := s[i].toNat_lt; omega
       have htk : (l.drop j).take (i + 1 - j) = (l.drop j).take (i - j) ++ [s[i]] := by
        rw [show i + 1 - j = (i - j) + 1 from by omega, List.take_add_one, List.getElem?_drop, show j + (i - j) = i from by omega, hlc]; rfl
       have HTK := Lib.hid htk; have HN := Lib.hid hn
       clear hlc htk hn
       have i1 : (i : Int) < (kn : Int) := by omega
       have i2 : (0 : Int) <= (i : Int) := by omega
       have i3 : (i : Int) < (s.size : Int) := by omega
       simp only [isDg, Bool.and_eq_true, decide_eq_true_eq] at hcd
       have hd3 : (48 : Int) <= (s[i].toNat : Int) /\ (s[i].toNat : Int) <= 57 := by omega
       obtain ⟨d1, d2⟩ := hd3
       have en : (10 * (n : Int) + ((s[i].toNat : Int) - 48)) = ((10 * n + (s[i].toNat - 48) : Nat) : Int) := by omega
       have EN := Lib.hid en
       clear hcd en
       go_wp2_with fail
       go_round
       case rel => exact ⟨i + 1, 10 * n + (s[i].toNat - 48), by omega, by omega, by go_num, by rw [EN.out], by rw [HTK.out, dval_snoc, HN.out]⟩
       case measure => simp [intOf]; omega
     · obtain rfl : i = kn := by omega
       have hv2 := chunk4 hji hn (by have := HK4.out; omega) HV.out
       have hsm2 := sm_snoc4 HSM.out (show n < B by simp only [B]; omega)
       have HV2 := Lib.hid hv2; have HSM2 := Lib.hid hsm2
       have HOB : Hid (∀ j, u3.ownBlock = some j -> w.heap.size + 1 <= j) := fun j e => (hown.lt j e).1
       have i1 : ¬ ((i : Int) < (i : Int)) := by omega
       clear hn hv2 hsm2
       go_wp2_with (at_builtin; refine wpList_append_own _ rfl _ _ 24 rfl (w.heap.size + 1) 3 i0 (.int .i64 0) 1 8 Tryz.underlying24 hi hz0 hz1 hz2 rfl (by decide) _ _ _ rfl (hown.alloc _) ⟨wr.heap.size, 0, none⟩ 1 1 [.int .i64 (n : Nat)] rfl rfl (news1 _ _ _) (by simp [Value.oneCell']) (by unfold maxLen; omega) (by omega) (by simp; omega) ?_; intro v1 wz hown1 hgrow _)
       have hfin := hown1
       rw [show zs ds ++ [.int .i64 (n : Nat)] = zs (ds ++ [n]) from by rw [zs_append]; rfl] at hfin
       have hbz := (hb.alloc hsz (.cells #[.int .i64 (n : Nat)] 3)).grown hgrow (by simp; omega) HOB.out
       clear hown1 hgrow hown
       have HFIN := Lib.hid hfin; clear hfin
       go_wp2_with fail
       go_roundw
       case rel => exact ⟨ds ++ [n], (i : Int) - 4, by first | rfl | rw [ewr], by omega, by omega, by have := HK4.out; rw [List.length_append, List.length_singleton]; omega, by rw [show ((i : Int) - 4).toNat = j by have := HJ.out; omega]; exact HV2.out, HSM2.out, by simpa using HFIN.out, hbz⟩
       case measure => simp [intOf]; omega
end Go.Proofs.YtdpjdifoonfcdaaGreatDoor.Z4

namespace Go.Proofs.YtdpjdifoonfcdaaGreatDoor.Z4
open Go.RowKit
set_option maxRecDepth 100000 in
set_option maxHeartbeats 2000000 in
theorem number_any (s : ByteArray) (w : World) (hs : s.size <= 9223372036854775807) :
 Calls Tryz.prog 324 #[.string s] w fun e w' => (∃ v r, e = .returned (.tuple #[v, .string r]) /\ ZV w' v (numN s.data.toList : Nat) /\ r.data.toList = numT s.data.toList) /\ Below w.heap.size w w' := by
 obtain ⟨l, hl⟩ : ∃ l, l = s.data.toList := ⟨_, rfl⟩
 have hsl : s.size = l.length := by rw [hl]; rfl
 rw [<- hl]
 have HL := Lib.hid hl; have HSL := Lib.hid hsl
 have hl1 : l.length <= 9223372036854775807 := by omega
 have hets : (s.size : Int) = (l.length : Int) := by omega
 have hgetc : ∀ i, i < l.length -> ∃ c, l[i]? = some c /\ ∃ h : i < s.size, s[i] = c := fun i h => by
  obtain ⟨c, h1, h2⟩ := byte_get (t := s) (i := i) (by omega)
  rw [<- hl] at h1
  exact ⟨c, h1, by omega, h2⟩
 have HGC := Lib.hid hgetc
 obtain ⟨W0, hW0⟩ : ∃ W0, w.alloc (.cells #[.bool false, .slice none 0 0] 350) = W0 := ⟨_, rfl⟩
 have hb0 : Below w.heap.size w W0 := by rw [<- hW0]; exact (Below.refl _ w).alloc (Nat.le_refl _) _
 have q0 : Blk W0 w.heap.size 350 #[.bool false, .slice none 0 0] := by rw [<- hW0]; exact heap_alloc_new w _
 have hsz0 : W0.heap.size = w.heap.size + 1 := by rw [<- hW0]; simp
 have HB0 := Lib.hid hb0; have HQ0 := Lib.hid q0; have HW0 := Lib.hid hW0; have HSZ0 := Lib.hid hsz0
 clear hl hgetc hsl hb0 q0 hsz0 hW0
 go_enter Tryz.func324, Tryz.ntmps324
 go_wp2_with fail
 rw [HW0.out]
 go_loop [4] (fun v => ∃ i : Nat, i <= l.length /\ i <= 2001 /\ v = .int .i64 i /\ (l.take i).all isDg = true) (fun v => 2001 - (intOf v).toNat)
 case atStart => exact ⟨0, Nat.zero_le _, Nat.zero_le _, rfl, rfl⟩
 case round =>
  obtain ⟨i, hi, hi2, rfl, ha⟩ := hrel
  have HA := Lib.hid ha; clear ha
  have key : (i < l.length /\ i <= 2000 /\ ∃ c, l[i]? = some c /\ isDg c = true /\ ∃ h : i < s.size, s[i] = c) ∨ (pfx l = i /\ (i = l.length ∨ (i < l.length /\ i = 2001) ∨ (i < l.length /\ i <= 2000 /\ ∃ c, isDg c = false /\ ∃ h : i < s.size, s[i] = c))) := by
   rcases Nat.lt_or_ge i l.length with hlt | hge
   · obtain ⟨c, h1, h2, h3⟩ := HGC.out i hlt
     rcases Nat.lt_or_ge 2000 i with h4 | h4
     · obtain rfl : i = 2001 := by omega
       exact .inr ⟨pfx_is hi (Nat.le_refl _) HA.out (.inr (.inl rfl)), .inr (.inl ⟨hlt, rfl⟩)⟩
     · cases hc : isDg c with
       | true => exact .inl ⟨hlt, h4, c, h1, hc, h2, h3⟩
       | false => exact .inr ⟨pfx_is hi (by omega) HA.out (.inr (.inr ⟨c, h1, hc⟩)), .inr (.inr ⟨hlt, h4, c, hc, h2, h3⟩)⟩
   · obtain rfl : i = l.length := by omega
     exact .inr ⟨pfx_is hi (by omega) HA.out (.inl rfl), .inl rfl⟩
  rcases key with ⟨hlt, h2000, c, hlc, hcd, hit, rfl⟩ | ⟨hp, hend⟩
  · have htk : (l.take (i + 1)).all isDg = true := by rw [take_get hlc, List.all_append, HA.out, List.all_cons, hcd]; rfl
    have HTK := Lib.hid htk
    simp only [isDg, Bool.and_eq_true, decide_eq_true_eq] at hcd
    have d1 : (48 : Int) <= (s[i].toNat : Int) := by omega
    have d2 : (s[i].toNat : Int) <= 57 := by omega
    have i1 : (i : Int) < (l.length : Int) := by omega
    have i2 : (0 : Int) <= (i : Int) := by omega
    have i3 : (i : Int) <= 2000 := by omega
    clear hlc hcd htk
    go_wp2_with fail
    go_round
    case rel => exact ⟨i + 1, by omega, by omega, by go_num, HTK.out⟩
    case measure => simp [intOf]; omega
  · have hzr := fun W => zRead_any (s.extract 0 i) W
    have he1 : (s.extract 0 i).data.toList = l.take i := by
     have : (s.extract 0 i).data.toList = s.data.toList.take i := by simp [ByteArray.data_extract]
     rw [this, <- HL.out]
    have he2 : (s.extract i s.size).data.toList = l.drop i := by
     have : (s.extract i s.size).data.toList = (s.data.toList.drop i).take (s.size - i) := by simp [ByteArray.data_extract]
     rw [this, <- HL.out, HSL.out, List.take_of_length_le (by rw [List.length_drop]; omega)]
    have hes : (s.extract 0 i).size = i := by
     have : (s.extract 0 i).size = (s.extract 0 i).data.toList.length := rfl
     rw [this, he1, List.length_take]; omega
    have hzr := fun W => zRead_any (s.extract 0 i) W (by omega) (by rw [he1]; exact HA.out)
    rw [he1] at hzr
    have hn : numN l = dval (l.take i) := by unfold numN; rw [hp]
    have ht : numT l = l.drop i := by unfold numT; rw [hp]
    rw [<- hn] at hzr
    rw [<- ht] at he2
    have HZR := Lib.hid hzr; have HE2 := Lib.hid he2
    clear hzr he1 he2 hes hn ht hp
    have i2 : (0 : Int) <= (i : Int) := by omega
    have i3 : (i : Int) <= (l.length : Int) := by omega
    have hend2 : i = l.length ∨ (i < l.length /\ i = 2001) ∨ (i < l.length /\ i <= 2000 /\ ∃ h : i < s.size, (s[i].toNat : Int) < 48) ∨ (i < l.length /\ i <= 2000 /\ ∃ h : i < s.size, 48 <= (s[i].toNat : Int) /\ 57 < (s[i].toNat : Int)) := by
     rcases hend with h | h | ⟨h1, h2, c, hc, hit, rfl⟩
     · exact .inl h
     · exact .inr (.inl h)
     · simp only [isDg, Bool.and_eq_false_iff, decide_eq_false_iff_not] at hc
       by_cases h5 : (s[i].toNat : Int) < 48
       · exact .inr (.inr (.inl ⟨h1, h2, hit, h5⟩))
       · exact .inr (.inr (.inr ⟨h1, h2, hit, by omega, by omega⟩))
    clear hend
    have HLN : Hid (i <= l.length) := Lib.hid hi
    rcases hend2 with h1 | ⟨h1, h2⟩ | ⟨h1, h2, hit, h3⟩ | ⟨h1, h2, hit, h3, h4⟩
    all_goals
     have j1 : (i : Int) < (l.length : Int) ∨ ¬ ((i : Int) < (l.length : Int)) := by omega
     have j2 : (i : Int) <= 2000 ∨ ¬ ((i : Int) <= 2000) := by omega
     rcases j1 with j1 | j1 <;> rcases j2 with j2 | j2 <;> (try (exfalso; omega))
     all_goals
      clear h1
      try clear h2
      go_wp2_with fail
      go_region_with (go_at_call 342; refine (HZR.out _).mono ?_; rintro e w1 ⟨⟨v, rfl, va, vc, rfl, hv1, hv2, hv3⟩, hb1⟩; have hb2 := ((Below.refl W0.heap.size W0).drew).trans hb1; have hq := HQ0.out.below hb2 (by have := HSZ0.out; omega); have k0 := hq.cell 0; have k1 := hq.cell 1; have f0 := hq.free 0; have f1 := hq.free 1; have HV1 := Lib.hid hv1; have HB2 := Lib.hid hb2; clear hv1 hb1 hb2 hq)
      have hbw := HB0.out.trans (HB2.out.mono HB0.out.size)
      go_wp2_with fail
      refine bodyPost_ret (v := .tuple #[.agg #[.bool (decide ((numN l : Int) < 0)), .slice va (dig (numN l : Int).natAbs).length vc], .string (s.extract i s.size)]) (by simp [results, Tryz.results324, go_sem, k0, k1]) rfl ?_
      exact ⟨⟨_, _, rfl, ⟨va, vc, rfl, zbox HV1.out k0 k1, hv2, hv3⟩, HE2.out⟩, (hbw.setCell (Nat.le_refl _) _).setCell (Nat.le_refl _) _⟩
end Go.Proofs.YtdpjdifoonfcdaaGreatDoor.Z4

namespace Go.Proofs.YtdpjdifoonfcdaaGreatDoor.Z4
open Go.RowKit
def chB (d : Nat) : ByteArray := ⟨#[UInt8.ofNat (48 + d)]⟩
theorem rune_string (d : Nat) (h : d < 10) (W : World) : Sem.run Tryz.prog (convert 21 9 (.int .i32 ((48 : Int) + (d : Nat)))) W = .ok (.string (chB d)) W := by
 obtain rfl | rfl | rfl | rfl | rfl | rfl | rfl | rfl | rfl | rfl : d = 0 ∨ d = 1 ∨ d = 2 ∨ d = 3 ∨ d = 4 ∨ d = 5 ∨ d = 6 ∨ d = 7 ∨ d = 8 ∨ d = 9 := by omega
 all_goals simp [convert, go_sem, chB]
 all_goals rfl
theorem chB_size (d : Nat) : (chB d).size = 1 := rfl
set_option maxRecDepth 100000 in
theorem decimal_any (n : Nat) (w : World) (hn : n < 9223372036854775808) :
 Calls Tryz.prog 347 #[.int .i64 (n : Nat)] w fun e w' => e = .returned (.string ⟨(Lib.decDigits n).toArray⟩) /\ w = w' := by
 by_cases h0 : n = 0
 · subst h0
   have hd : Lib.decDigits 0 = [48] := Lib.decDigits_one (by decide)
   rw [hd]
   go_enter Tryz.func347, Tryz.ntmps347
   go_wp2
   go_ret
   exact ⟨rfl, rfl⟩
 · have hne : ((n : Int) == 0) = false := by rw [beq_eq_false_iff_ne]; omega
   have hlt : ¬ (n : Int) < 0 := by omega
   have hlen : (Lib.decDigits n).length <= 20 := by rw [Lib.decDigits_length]; exact Lib.nDigits_le20 n (by omega)
   have HLEN := Lib.hid hlen; clear hlen
   go_enter Tryz.func347, Tryz.ntmps347
   go_wp2
   go_loop [0, 3] (fun kv sv => ∃ (k : Nat) (st : ByteArray), k <= n /\ kv = .int .i64 k /\ sv = .string st /\ (k ≠ 0 -> Lib.decDigits n = Lib.decDigits k ++ st.data.toList) /\ (k = 0 -> Lib.decDigits n = st.data.toList)) (fun kv _ => (intOf kv).toNat)
   case atStart => exact ⟨n, ⟨#[]⟩, Nat.le_refl _, rfl, rfl, fun _ => by simp, fun h => absurd h h0⟩
   case round =>
    obtain ⟨k, st, hk, rfl, rfl, h1, h2⟩ := hrel
    by_cases hk0 : k = 0
    · subst hk0
      have hst : st = ⟨(Lib.decDigits n).toArray⟩ := by rw [h2 rfl]
      have HST := Lib.hid hst
      clear h1 h2 hst
      go_wp2
      go_ret
      exact ⟨by rw [<- HST.out]; rfl, rfl⟩
    · have h3 := h1 hk0
      have hsz : st.size <= 20 := by
       have h4 := HLEN.out
       have h5 : st.data.toList.length = st.data.size := Array.length_toList
       rw [h3, List.length_append] at h4
       show st.data.size <= 20
       omega
      have hd := rune_string (k % 10)  (by omega)
      have hq : k / 10 < k := by omega
      have hs1 := chB_size (k % 10)
      have hnext : (k / 10 ≠ 0 -> Lib.decDigits n = Lib.decDigits (k / 10) ++ (chB (k % 10) ++ st).data.toList) /\ (k / 10 = 0 -> Lib.decDigits n = (chB (k % 10) ++ st).data.toList) := by
       have h4 : (chB (k % 10) ++ st).data.toList = [UInt8.ofNat (48 + k % 10)] ++ st.data.toList := by simp [chB, ByteArray.data_append]
       rw [h4]
       refine ⟨fun h5 => ?_, fun h5 => ?_⟩
       · rw [h3, Lib.decDigits, dif_neg (show ¬ k < 10 by omega), List.append_assoc]
       · rw [h3, Lib.decDigits_one (show k < 10 by omega), Nat.mod_eq_of_lt (show k < 10 by omega)]
      have hq9 : k % 10 < 10 := by omega
      have e1 : (k : Int) % 10 = ((k % 10 : Nat) : Int) := by omega
      have e2 : (k : Int) / 10 = ((k / 10 : Nat) : Int) := by omega
      have e1' : (k : Int).tmod 10 = ((k % 10 : Nat) : Int) := by rw [Int.tmod_eq_emod_of_nonneg (by omega)]; exact e1
      have e2' : (k : Int).tdiv 10 = ((k / 10 : Nat) : Int) := by rw [Int.tdiv_eq_ediv_of_nonneg (by omega)]; exact e2
      have HN := Lib.hid hnext
      clear h1 h2 h3 hnext
      generalize k % 10 = d at *
      generalize k / 10 = q at *
      have e3 : ¬ ((d : Nat) : Int) < 0 := by omega
      have e4 : IntKind.i32.wrap ((48 : Int) + (d : Nat)) = (48 : Int) + (d : Nat) := by have := IntKind.wrap_i32 ((48 : Int) + (d : Nat)); omega
      have hkne : ((k : Int) == 0) = false := by rw [beq_eq_false_iff_ne]; omega
      go_wp2
      go_round
      case rel => exact ⟨q, _, by omega, rfl, rfl, HN.out.1, HN.out.2⟩
      case measure => simp [intOf]; omega
end Go.Proofs.YtdpjdifoonfcdaaGreatDoor.Z4

namespace Go.Proofs.YtdpjdifoonfcdaaGreatDoor.Z4
open Go.RowKit
theorem val_drop {l : List Nat} {i x : Nat} (hx : l[i]? = some x) : val (l.drop i) = x + B * val (l.drop (i + 1)) := by
 have hi : i < l.length := (List.getElem?_eq_some_iff.1 hx).1
 rw [List.drop_eq_getElem_cons hi, val_cons]
 rw [List.getElem?_eq_getElem hi] at hx
 cases hx
 rfl
theorem top_pos {n t : Nat} (h : (dig n)[(dig n).length - 1]? = some t) : 0 < t := by
 have h1 := last_dig n
 rw [List.getLast?_eq_getElem?, h] at h1
 rcases Nat.eq_zero_or_pos t with h2 | h2
 · subst h2; exact absurd rfl h1
 · exact h2
theorem drop_pos {l : List Nat} {t : Nat} (h : l[l.length - 1]? = some t) (ht : 0 < t) (i : Nat) (hi : i < l.length) : 0 < val (l.drop i) := by
 rcases Nat.eq_zero_or_pos (val (l.drop i)) with h0 | h0
 · exfalso
   have h1 := val_eq_zero.1 h0 t (List.mem_iff_getElem?.2 ⟨l.length - 1 - i, by rw [List.getElem?_drop, show i + (l.length - 1 - i) = l.length - 1 from by omega]; exact h⟩)
   omega
 · exact h0
theorem val_top {l : List Nat} {t : Nat} (h : l[l.length - 1]? = some t) : val (l.drop (l.length - 1)) = t := by
 have hi := (List.getElem?_eq_some_iff.1 h).1
 rw [val_drop h, List.drop_of_length_le (by omega)]
 simp [val]
theorem B_pow (k : Nat) : B ^ k = 10 ^ (4 * k) := by
 rw [Nat.pow_mul]; rfl
theorem size_dig_eq {n t : Nat} (h : (dig n)[(dig n).length - 1]? = some t) : Lib.nDigits n = 4 * ((dig n).length - 1) + Lib.nDigits t := by
 have ht := top_pos h
 have h1 := val_split h
 have hi := (List.getElem?_eq_some_iff.1 h).1
 rw [val_dig, List.drop_of_length_le (by omega)] at h1
 simp only [val, Nat.mul_zero, Nat.add_zero] at h1
 have h2 : val ((dig n).take ((dig n).length - 1)) < B ^ ((dig n).length - 1) := by
  have h3 := val_lt (xs := (dig n).take ((dig n).length - 1)) (fun d hd => sm_dig n d (List.mem_of_mem_take hd))
  rwa [List.length_take, Nat.min_eq_left (by omega)] at h3
 rw [B_pow] at h1 h2
 generalize 4 * ((dig n).length - 1) = k at *
 generalize val ((dig n).take ((dig n).length - 1)) = lo at *
 rw [h1, Nat.add_comm lo, Nat.mul_comm, nDigits_shift k t lo ht h2]
 omega
theorem dec_digit {h x : Nat} (hh : 0 < h) (hx : x < B) : Lib.decDigits (x + B * h) = Lib.decDigits h ++ padD 4 x /\ Lib.decDigits (10000 + x) = 49 :: padD 4 x := by
 have hx' : x < 10 ^ 4 := hx
 refine ⟨?_, ?_⟩
 · rw [<- dec_shift 4 h x hh hx', show x + B * h = h * 10 ^ 4 + x from by simp only [B]; omega]
 · have := dec_shift 4 1 x (by omega) hx'
   rw [Nat.one_mul] at this
   rw [show (10000 : Nat) + x = 10 ^ 4 + x from rfl, this, Lib.decDigits_one (by decide)]
   rfl
theorem cat_tail {st dt : ByteArray} {x : Nat} (h : dt = ⟨(49 :: padD 4 x).toArray⟩) : (st ++ dt.extract 1 5).data.toList = st.data.toList ++ padD 4 x := by
 have h1 : (padD 4 x).length = 4 := padD_length 4 x
 have h2 : (dt.extract 1 5).data.toList = padD 4 x := by
  subst h
  rw [ByteArray.data_extract]
  simp only [Array.toList_extract, List.extract_eq_take_drop, List.drop_succ_cons, List.drop_zero]
  exact List.take_of_length_le (by omega)
 rw [ByteArray.data_append, Array.toList_append, h2]
set_option maxRecDepth 100000 in
theorem many_any (v : Value) (n : Nat) (w : World) (hv : MV w v n) (hl : (dig n).length <= 549755813888) :
 Calls Tryz.prog 329 #[v] w fun e w' => e = .returned (.int .i64 (Lib.nDigits n)) /\ w = w' := by
 by_cases h0 : n = 0
 · subst h0
   obtain ⟨a, c, rfl⟩ := hv.cases
   have hl0 : (dig 0).length = 0 := by rw [dig_zero]; rfl
   rw [hl0]
   clear hv hl0
   go_enter Tryz.func329, Tryz.ntmps329
   go_wp2
   go_ret
   exact ⟨by rw [Lib.nDigits_small (by decide)]; rfl, rfl⟩
 · obtain ⟨a, c, rfl, hc, _⟩ := hv
   obtain ⟨L, hL⟩ : ∃ L, (dig n).length = L + 1 := ⟨(dig n).length - 1, by have := mt dig_len_pos.1 h0; omega⟩
   obtain ⟨t, htd⟩ := get_of_lt (show L < (dig n).length by omega)
   have hsz := size_dig_eq (n := n) (t := t) (by rw [hL]; exact htd)
   have htb : t <= 9999 := sm_get (sm_dig n) htd
   obtain ⟨b, off, rfl⟩ := hc.addr (zs_ne (by omega))
   have c0 : w.cell? ⟨b, off + L, none⟩ = some (.int .i64 (t : Nat)) := zcell hc htd
   rw [hL] at hsz hl ⊢
   simp only [Nat.add_sub_cancel] at hsz
   have hn9 := nDigits_le 8 t (by omega)
   have hff := decimal_any t w (by omega)
   have hs : (⟨(Lib.decDigits t).toArray⟩ : ByteArray).size = Lib.nDigits t := by rw [<- Lib.decDigits_length]; simp [ByteArray.size]
   have e1 : IntKind.i64.wrap (((L + 1 : Nat) : Int) - 1) = (L : Int) := by rw [show ((L + 1 : Nat) : Int) - 1 = (L : Int) from by omega]; exact IntWalk.i64_in _ (by omega)
   have e2 : (L : Int).toNat = L := by omega
   have e3 : IntKind.i64.wrap (4 * (L : Int)) = 4 * (L : Int) := IntWalk.i64_in _ (by omega)
   have e4 : IntKind.i64.wrap (4 * (L : Int) + (Lib.nDigits t : Int)) = (Lib.nDigits n : Int) := by rw [show 4 * (L : Int) + (Lib.nDigits t : Int) = (Lib.nDigits n : Int) from by omega]; exact IntWalk.i64_in _ (by omega)
   have HFF := Lib.hid hff
   clear hff hc htd hsz hL
   go_enter Tryz.func329, Tryz.ntmps329
   go_wp2_with (go_at_call 347; refine HFF.out.mono ?_; rintro e w' ⟨rfl, rfl⟩)
   go_ret
   exact ⟨rfl, rfl⟩
set_option maxRecDepth 100000 in
set_option maxHeartbeats 1000000 in
theorem digits_any (v : Value) (n : Nat) (w : World) (hv : MV w v n) (hl : (dig n).length <= 549755813888) :
 Calls Tryz.prog 346 #[v] w fun e w' => e = .returned (.string ⟨(Lib.decDigits n).toArray⟩) /\ w = w' := by
 by_cases h0 : n = 0
 · subst h0
   obtain ⟨a, c, rfl⟩ := hv.cases
   have hl0 : (dig 0).length = 0 := by rw [dig_zero]; rfl
   have hd : Lib.decDigits 0 = [48] := Lib.decDigits_one (by decide)
   rw [hl0, hd]
   clear hv hl0
   go_enter Tryz.func346, Tryz.ntmps346
   go_wp2
   go_ret
   exact ⟨rfl, rfl⟩
 · obtain ⟨a, c, rfl, hc, _⟩ := hv
   obtain ⟨L, hL⟩ : ∃ L, (dig n).length = L + 1 := ⟨(dig n).length - 1, by have := mt dig_len_pos.1 h0; omega⟩
   obtain ⟨t, htd⟩ := get_of_lt (show L < (dig n).length by omega)
   have htd' : (dig n)[(dig n).length - 1]? = some t := by rw [hL]; exact htd
   have hvt := val_top htd'
   have hdp := drop_pos htd' (top_pos htd')
   have hszn := size_dig_eq htd'
   have htb : t <= 9999 := sm_get (sm_dig n) htd
   have hn9 := nDigits_le 8 t (by omega)
   obtain ⟨b, off, rfl⟩ := hc.addr (zs_ne (by omega))
   have c0 : w.cell? ⟨b, off + L, none⟩ = some (.int .i64 (t : Nat)) := zcell hc htd
   rw [hL] at hl hvt hdp hszn ⊢
   simp only [Nat.add_sub_cancel] at hvt hszn
   have hff := decimal_any t w (by omega)
   have e1 : IntKind.i64.wrap (((L + 1 : Nat) : Int) - 1) = (L : Int) := by rw [show ((L + 1 : Nat) : Int) - 1 = (L : Int) from by omega]; exact IntWalk.i64_in _ (by omega)
   have e2 : (L : Int).toNat = L := by omega
   have e3 : IntKind.i64.wrap (((L + 1 : Nat) : Int) - 2) = (L : Int) - 1 := by rw [show ((L + 1 : Nat) : Int) - 2 = (L : Int) - 1 from by omega]; exact IntWalk.i64_in _ (by omega)
   have HFF := Lib.hid hff; have HC := Lib.hid hc; have HVT := Lib.hid hvt; have HDP := Lib.hid hdp; have HL := Lib.hid hL
   clear hff hc htd htd' hvt hdp hL
   go_enter Tryz.func346, Tryz.ntmps346
   go_wp2_with (go_at_call 347; refine HFF.out.mono ?_; rintro e w' ⟨rfl, rfl⟩; refine Hid.out ?_)
   refine Lib.hid ?_
   go_wp2
   go_loop [3, 4] (fun sv iv => ∃ (j : Nat) (st : ByteArray), j <= L /\ iv = .int .i64 ((j : Int) - 1) /\ sv = .string st /\ st.data.toList = Lib.decDigits (val ((dig n).drop j))) (fun _ iv => (intOf iv + 1).toNat)
   case atStart => exact ⟨L, _, Nat.le_refl _, congrArg (Value.int .i64) (by omega), rfl, by rw [HVT.out]⟩
   case round =>
    clear c0
    obtain ⟨j, st, hj, rfl, rfl, hst⟩ := hrel
    rcases Nat.eq_zero_or_pos j with hj0 | hj0
    · subst hj0
      rw [List.drop_zero, val_dig] at hst
      have hs : st = ⟨(Lib.decDigits n).toArray⟩ := by rw [<- hst]
      have HST := Lib.hid hs
      clear hs hst
      go_wp2
      go_ret
      exact ⟨by rw [<- HST.out]; rfl, rfl⟩
    · obtain ⟨i, rfl⟩ : ∃ i, j = i + 1 := ⟨j - 1, by omega⟩
      obtain ⟨x, hx⟩ := get_of_lt (show i < (dig n).length by rw [HL.out]; omega)
      have hxb : x <= 9999 := sm_get (sm_dig n) hx
      have hdv := val_drop hx
      have hhp := HDP.out (i + 1) (by omega)
      obtain ⟨hdd, hd1⟩ := dec_digit hhp (show x < B by simp only [B]; omega)
      have c0 : w.cell? ⟨b, off + i, none⟩ = some (.int .i64 (x : Nat)) := zcell HC.out hx
      have hff := decimal_any (10000 + x) w (by omega)
      rw [hd1] at hff
      obtain ⟨dt, hdt⟩ : ∃ dt : ByteArray, dt = ⟨(49 :: padD 4 x).toArray⟩ := ⟨_, rfl⟩
      rw [<- hdt] at hff
      have hds : dt.size = 5 := by rw [hdt]; show (49 :: padD 4 x).toArray.size = 5; simp [padD_length]
      have hst4 : st.size <= 4398046511104 := by
       have h4 : st.data.toList.length = st.data.size := Array.length_toList
       have h5 : val ((dig n).drop (i + 1)) < 10 ^ (4 * L) := by
        have h6 := val_lt (xs := (dig n).drop (i + 1)) (fun d hd => sm_dig n d (List.mem_of_mem_drop hd))
        rw [B_pow, List.length_drop, HL.out] at h6
        exact Nat.lt_of_lt_of_le h6 (Nat.pow_le_pow_right (by decide) (by omega))
       have h7 := nDigits_le (4 * L - 1) _ (by rw [show 4 * L - 1 + 1 = 4 * L from by omega]; exact h5)
       rw [hst, Lib.decDigits_length] at h4
       show st.data.size <= _
       omega
      have e1 : (((i + 1 : Nat) : Int) - 1) = (i : Int) := by omega
      have e2 : (i : Int).toNat = i := by omega
      have e4 : (0 : Int) <= i := by omega
      have e5 : (i : Int) < ((L + 1 : Nat) : Int) := by omega
      have e6 : IntKind.i64.wrap ((10000 : Int) + (x : Int)) = ((10000 + x : Nat) : Int) := by rw [show (10000 : Int) + (x : Int) = ((10000 + x : Nat) : Int) from by omega]; exact IntWalk.i64_in _ (by omega)
      have e7 : IntKind.i64.wrap ((i : Int) - 1) = (i : Int) - 1 := IntWalk.i64_in _ (by omega)
      rw [e1]
      have HFF := Lib.hid hff; have HDD := Lib.hid hdd; have HDV := Lib.hid hdv; have HST := Lib.hid hst; have HDT := Lib.hid hdt
      clear hff hdd hdv hx e1 hhp hst hdt hd1
      go_wp2_with fail
      refine HFF.out.mono ?_
      rintro e w3 ⟨rfl, rfl⟩
      go_wp2
      go_round
      case rel => exact ⟨i, _, by omega, rfl, rfl, by rw [HDV.out, HDD.out, cat_tail HDT.out, HST.out]⟩
      case measure => simp [intOf]
end Go.Proofs.YtdpjdifoonfcdaaGreatDoor.Z4

namespace Go.Proofs.YtdpjdifoonfcdaaGreatDoor.Z4
open Go.RowKit
def dcB (n : Nat) : ByteArray := ⟨(Lib.decDigits n).toArray⟩
theorem dcB_size (n : Nat) : (dcB n).size = Lib.nDigits n := by
 rw [<- Lib.decDigits_length]; simp [dcB, ByteArray.size]
def zT (s : Bool) (n : Nat) : ByteArray := if s = true then ⟨#[45]⟩ ++ dcB n else dcB n
theorem digits_bd {n : Nat} (h : (dig n).length <= 549755813888) : Lib.nDigits n <= 2199023255552 := by
 by_cases h0 : n = 0
 · subst h0; rw [Lib.nDigits_small (by decide)]; omega
 · have hp : 0 < (dig n).length := by have := mt dig_len_pos.1 h0; omega
   have h1 := lt_pow_len n
   rw [B_pow] at h1
   have := nDigits_le (4 * (dig n).length - 1) n (by rw [show 4 * (dig n).length - 1 + 1 = 4 * (dig n).length from by omega]; exact h1)
   omega
theorem digits_mv (v : Value) (n : Nat) (w : World) (hv : MV w v n) (hl : (dig n).length <= 549755813888) :
 Calls Tryz.prog 346 #[v] w fun e w' => e = .returned (.string (dcB n)) /\ w = w' := digits_any v n w hv hl
set_option maxRecDepth 100000 in
theorem zText_any (s : Bool) (vd : Value) (n : Nat) (w : World) (hv : MV w vd n) (hl : (dig n).length <= 549755813888) :
 Calls Tryz.prog 328 #[.agg #[.bool s, vd]] w fun e w' => e = .returned (.string (zT s n)) /\ Below w.heap.size w w' := by
 have hbw := (Below.refl w.heap.size w).alloc (Nat.le_refl _) (.cells #[.bool s, vd] 350)
 have hdg := digits_mv vd n _ (hv.below hbw (Nat.le_refl _)) hl
 have hsz := dcB_size n
 have hnd := digits_bd hl
 have hs4 : (⟨#[45]⟩ : ByteArray).size = 1 := rfl
 obtain ⟨a, c, rfl⟩ := hv.cases
 have HDG := Lib.hid hdg; have HBW := Lib.hid hbw
 clear hdg hbw hv hl
 generalize hdc : dcB n = dt at *
 have hzt : zT s n = if s = true then ⟨#[45]⟩ ++ dt else dt := by unfold zT; rw [hdc]
 have HZT := Lib.hid hzt
 clear hzt hdc
 cases s
 · go_enter Tryz.func328, Tryz.ntmps328
   go_wp2_with fail
   refine HDG.out.mono ?_
   rintro e w1 ⟨rfl, rfl⟩
   go_wp2
   go_ret
   rw [HZT.out]
   exact ⟨rfl, HBW.out⟩
 · go_enter Tryz.func328, Tryz.ntmps328
   go_wp2_with fail
   refine HDG.out.mono ?_
   rintro e w1 ⟨rfl, rfl⟩
   go_wp2
   go_ret
   rw [HZT.out]
   exact ⟨rfl, HBW.out⟩
set_option maxRecDepth 100000 in
theorem long_any (s : Bool) (vd : Value) (n : Nat) (w : World) (hv : MV w vd n) (hl : (dig n).length <= 549755813888) :
 Calls Tryz.prog 304 #[.agg #[.bool s, vd]] w fun e w' => e = .returned (.bool (decide (2000 < Lib.nDigits n))) /\ Below w.heap.size w w' := by
 have hbw := (Below.refl w.heap.size w).alloc (Nat.le_refl _) (.cells #[.bool s, vd] 350)
 have hmn := many_any vd n _ (hv.below hbw (Nat.le_refl _)) hl
 have hb : decide (2000 < Lib.nDigits n) = decide ((2000 : Int) < (Lib.nDigits n : Nat)) := by
  rw [Bool.eq_iff_iff, decide_eq_true_iff, decide_eq_true_iff]; omega
 obtain ⟨a, c, rfl⟩ := hv.cases
 have HMN := Lib.hid hmn; have HBW := Lib.hid hbw; have HB := Lib.hid hb
 clear hmn hbw hv hl hb
 go_enter Tryz.func304, Tryz.ntmps304
 go_wp2_with fail
 refine HMN.out.mono ?_
 rintro e w1 ⟨rfl, rfl⟩
 go_wp2
 go_ret
 rw [HB.out]
 exact ⟨rfl, HBW.out⟩
end Go.Proofs.YtdpjdifoonfcdaaGreatDoor.Z4

namespace Go.Proofs.YtdpjdifoonfcdaaGreatDoor.Z4
open Go.RowKit
def qT (s : Bool) (n d : Nat) : ByteArray := if d = 1 then zT s n else zT s n ++ ⟨#[47]⟩ ++ dcB d
theorem zT_size (s : Bool) (n : Nat) : (zT s n).size <= Lib.nDigits n + 1 := by
 unfold zT
 split
 · rw [ByteArray.size_append, dcB_size, show (⟨#[45]⟩ : ByteArray).size = 1 from rfl]; omega
 · rw [dcB_size]; omega
theorem dig_one_iff {d : Nat} (hd : d ≠ 0) : d = 1 ↔ ((dig (d / B)).length = 0 /\ d % B = 1) := by
 rw [dig_len_pos]
 constructor
 · rintro rfl; decide
 · rintro ⟨h5, h6⟩
   have := Nat.div_add_mod d B
   rw [h5, h6] at this
   omega
set_option maxRecDepth 100000 in
set_option maxHeartbeats 1000000 in
theorem qText_any (v : Value) (s : Bool) (n d : Nat) (w : World) (hv : QV w v s n d) (hd : d ≠ 0) (hl : (dig n).length <= 549755813888) (hl2 : (dig d).length <= 549755813888) :
 Calls Tryz.prog 303 #[v] w fun e w' => e = .returned (.string (qT s n d)) /\ Below w.heap.size w w' := by
 obtain ⟨vn, vd, rfl, hn, hdv⟩ := hv
 have hD1 := dig_one_iff hd
 have hdp := dig_pos hd
 have hdl : (dig d).length = (dig (d / B)).length + 1 := by rw [hdp]; rfl
 have hsz1 := zT_size s n
 have hsz2 := dcB_size d
 have hz2 : zT false d = dcB d := rfl
 have hnd := digits_bd hl
 have hnd2 := digits_bd hl2
 have htn := fun W (h : Below w.heap.size w W) => zText_any s vn n W (hn.below h (Nat.le_refl _)) hl
 have htd := fun W (h : Below w.heap.size w W) => zText_any false vd d W (hdv.below h (Nat.le_refl _)) hl2
 rw [hz2] at htd
 have hs4 : (⟨#[47]⟩ : ByteArray).size = 1 := rfl
 have hbw := (Below.refl w.heap.size w).alloc (Nat.le_refl _) (.cells #[.bool s, vn, .bool false, vd] 352)
 obtain ⟨an, cn, rfl⟩ := hn.cases
 obtain ⟨ad, cd, rfl, hdc, _⟩ := hdv
 obtain ⟨b, off, rfl⟩ := hdc.addr (zs_ne (l := dig d) (by omega))
 have h0d : (dig d)[0]? = some (d % B) := by rw [hdp]; rfl
 have c0 := zcell (hdc.below hbw (Nat.le_refl _)) h0d
 rw [Nat.add_zero] at c0
 have hqt : qT s n d = if (dig (d / B)).length = 0 /\ d % B = 1 then zT s n else zT s n ++ ⟨#[47]⟩ ++ dcB d := by
  unfold qT; by_cases h5 : d = 1
  · rw [if_pos h5, if_pos (hD1.1 h5)]
  · rw [if_neg h5, if_neg (fun h6 => h5 (hD1.2 h6))]
 have HTN := Lib.hid htn; have HTD := Lib.hid htd; have HBW := Lib.hid hbw; have HQT := Lib.hid hqt
 clear htn htd hbw hqt hn hdc hz2 hD1 h0d hdp hl hl2
 rw [hdl] at *
 clear hdl
 generalize (dig (d / B)).length = M at *
 generalize d % B = x at *
 generalize zT s n = tn at *
 generalize dcB d = td at *
 by_cases hM : M = 0
 · subst hM
   rw [Nat.zero_add] at *
   by_cases hx : x = 1
   · subst hx
     go_enter Tryz.func303, Tryz.ntmps303
     go_wp2_with fail
     refine (HTN.out _ HBW.out).mono ?_
     rintro e w1 ⟨rfl, hb1⟩
     go_wp2
     go_ret
     rw [HQT.out, if_pos (by simp)]
     exact ⟨rfl, HBW.out.trans (hb1.mono HBW.out.size)⟩
   · have i1 : ((x : Int) == 1) = false := by rw [beq_eq_false_iff_ne]; omega
     have z0 : (w.alloc (.cells #[.bool s, .slice an (dig n).length cn, .bool false, .slice (some ⟨b, off, none⟩) 1 cd] 352)).cell? ⟨w.heap.size, 0, none⟩ = some (.bool s) := by simp
     have z1 : (w.alloc (.cells #[.bool s, .slice an (dig n).length cn, .bool false, .slice (some ⟨b, off, none⟩) 1 cd] 352)).cell? ⟨w.heap.size, 1, none⟩ = some (.slice an (dig n).length cn) := by simp
     have z2 : (w.alloc (.cells #[.bool s, .slice an (dig n).length cn, .bool false, .slice (some ⟨b, off, none⟩) 1 cd] 352)).cell? ⟨w.heap.size, 2, none⟩ = some (.bool false) := by simp
     have z3 : (w.alloc (.cells #[.bool s, .slice an (dig n).length cn, .bool false, .slice (some ⟨b, off, none⟩) 1 cd] 352)).cell? ⟨w.heap.size, 3, none⟩ = some (.slice (some ⟨b, off, none⟩) 1 cd) := by simp
     go_enter Tryz.func303, Tryz.ntmps303
     go_wp2_with fail
     generalize (w.alloc (.cells #[.bool s, .slice an (dig n).length cn, .bool false, .slice (some ⟨b, off, none⟩) 1 cd] 352)) = W3 at *
     refine wp_region_quiet (C := fun w' => Below W3.heap.size W3 w') (by kernel_rfl) (by kernel_rfl) (Below.refl _ W3).drew ?_
     simp only
     repeat
      (refine wpQuiet_step (fun K hK => ?_)
       go_simp
       first
        | (refine hK _ ?_; clear hK K)
        | (apply Exists.intro
           refine ⟨fun w' hw' => ?_, hK _ ?_⟩
           (first
            | rfl
            | (rw [if_neg (by omega)]; exact ⟨rfl, rfl⟩)
            | (rw [if_neg (by simp only [ByteArray.size_append]; omega)]; exact ⟨rfl, rfl⟩)
            | (have z0' := cell_keep z0 hw' (Nat.le_refl _); have z1' := cell_keep z1 hw' (Nat.le_refl _); go_simp; rfl)
            | (have z2' := cell_keep z2 hw' (Nat.le_refl _); have z3' := cell_keep z3 hw' (Nat.le_refl _); go_simp; rfl)
            | (with_reducible refine Calls.mono (HTN.out w' (HBW.out.trans (hw'.mono HBW.out.size))) ?_; exact fun e w'' ⟨he, hb⟩ => ⟨he, hw'.trans (hb.mono hw'.size)⟩)
            | (with_reducible refine Calls.mono (HTD.out w' (HBW.out.trans (hw'.mono HBW.out.size))) ?_; exact fun e w'' ⟨he, hb⟩ => ⟨he, hw'.trans (hb.mono hw'.size)⟩))
           clear hK K))
     refine wpQuiet_nil ?_
     intro w4 hb4
     go_wp2
     go_ret
     rw [HQT.out, if_neg (by omega)]
     exact ⟨rfl, HBW.out.trans (hb4.mono HBW.out.size)⟩
 · have i1 : (((M + 1 : Nat) : Int) == 1) = false := by rw [beq_eq_false_iff_ne]; omega
   have i2 : ¬ ((M : Int) + 1 = 1) := by omega
   have z0 : (w.alloc (.cells #[.bool s, .slice an (dig n).length cn, .bool false, .slice (some ⟨b, off, none⟩) (M + 1) cd] 352)).cell? ⟨w.heap.size, 0, none⟩ = some (.bool s) := by simp
   have z1 : (w.alloc (.cells #[.bool s, .slice an (dig n).length cn, .bool false, .slice (some ⟨b, off, none⟩) (M + 1) cd] 352)).cell? ⟨w.heap.size, 1, none⟩ = some (.slice an (dig n).length cn) := by simp
   have z2 : (w.alloc (.cells #[.bool s, .slice an (dig n).length cn, .bool false, .slice (some ⟨b, off, none⟩) (M + 1) cd] 352)).cell? ⟨w.heap.size, 2, none⟩ = some (.bool false) := by simp
   have z3 : (w.alloc (.cells #[.bool s, .slice an (dig n).length cn, .bool false, .slice (some ⟨b, off, none⟩) (M + 1) cd] 352)).cell? ⟨w.heap.size, 3, none⟩ = some (.slice (some ⟨b, off, none⟩) (M + 1) cd) := by simp
   go_enter Tryz.func303, Tryz.ntmps303
   go_wp2_with fail
   generalize (w.alloc (.cells #[.bool s, .slice an (dig n).length cn, .bool false, .slice (some ⟨b, off, none⟩) (M + 1) cd] 352)) = W3 at *
   refine wp_region_quiet (C := fun w' => Below W3.heap.size W3 w') (by kernel_rfl) (by kernel_rfl) (Below.refl _ W3).drew ?_
   simp only
   repeat
    (refine wpQuiet_step (fun K hK => ?_)
     go_simp
     first
      | (refine hK _ ?_; clear hK K)
      | (apply Exists.intro
         refine ⟨fun w' hw' => ?_, hK _ ?_⟩
         (first
          | rfl
          | (rw [if_neg (by omega)]; exact ⟨rfl, rfl⟩)
          | (rw [if_neg (by simp only [ByteArray.size_append]; omega)]; exact ⟨rfl, rfl⟩)
          | (have z0' := cell_keep z0 hw' (Nat.le_refl _); have z1' := cell_keep z1 hw' (Nat.le_refl _); go_simp; rfl)
          | (have z2' := cell_keep z2 hw' (Nat.le_refl _); have z3' := cell_keep z3 hw' (Nat.le_refl _); go_simp; rfl)
          | (with_reducible refine Calls.mono (HTN.out w' (HBW.out.trans (hw'.mono HBW.out.size))) ?_; exact fun e w'' ⟨he, hb⟩ => ⟨he, hw'.trans (hb.mono hw'.size)⟩)
          | (with_reducible refine Calls.mono (HTD.out w' (HBW.out.trans (hw'.mono HBW.out.size))) ?_; exact fun e w'' ⟨he, hb⟩ => ⟨he, hw'.trans (hb.mono hw'.size)⟩))
         clear hK K))
   refine wpQuiet_nil ?_
   intro w4 hb4
   go_wp2
   go_ret
   rw [HQT.out, if_neg (by omega)]
   exact ⟨rfl, HBW.out.trans (hb4.mono HBW.out.size)⟩
end Go.Proofs.YtdpjdifoonfcdaaGreatDoor.Z4

namespace Go.Proofs.YtdpjdifoonfcdaaGreatDoor.Z4
open Go.RowKit
set_option maxRecDepth 100000 in
theorem qInt_any (n : Int) (w : World) (h1 : -9223372036854775808 <= n) (h2 : n <= 9223372036854775807) :
 Calls Tryz.prog 275 #[.int .i64 n] w fun e w' => (∃ v, e = .returned v /\ QV w' v (decide (n < 0)) n.natAbs 1) /\ Below w.heap.size w w' := by
 have hz := fun W => zOf_any n W h1 h2
 have ho := fun W => zOf_any 1 W (by omega) (by omega)
 have HZ := Lib.hid hz; have HO := Lib.hid ho
 clear hz ho h1 h2
 have hbw := (Below.refl w.heap.size w).alloc (Nat.le_refl _) (.cells #[.bool false, .slice none 0 0, .bool false, .slice none 0 0] 352)
 have HBW := Lib.hid hbw; clear hbw
 go_enter Tryz.func275, Tryz.ntmps275
 go_wp2_with fail
 refine (HZ.out _).mono ?_
 rintro e w1 ⟨⟨v1, rfl, hv1⟩, hb1⟩
 obtain ⟨x1, rfl, hm1⟩ := hv1.mv
 obtain ⟨a1, c1, rfl⟩ := hm1.cases
 have HM1 := Lib.hid hm1; clear hv1 hm1
 go_wp2_with fail
 refine (HO.out _).mono ?_
 rintro e w2 ⟨⟨v2, rfl, hv2⟩, hb2⟩
 obtain ⟨x2, rfl, hm2⟩ := hv2.mv
 obtain ⟨a2, c2, rfl⟩ := hm2.cases
 have HM2 := Lib.hid hm2; clear hv2 hm2
 have hbx := hb1.trans (hb2.mono hb1.size)
 have q0 := box_keep hbx (by simp) 0
 have q1 := box_keep hbx (by simp) 1
 have q2 := box_keep hbx (by simp) 2
 have q3 := box_keep hbx (by simp) 3
 simp only [List.getElem?_toArray, List.getElem?_cons_succ, List.getElem?_cons_zero] at q0 q1 q2 q3
 have f0 := box_free hbx (by simp) 0
 have f1 := box_free hbx (by simp) 1
 have f2 := box_free hbx (by simp) 2
 have f3 := box_free hbx (by simp) 3
 have hle : w.heap.size <= w.heap.size := Nat.le_refl _
 have hb := HBW.out.trans (hbx.mono (by simp))
 have HM1' := Lib.hid (HM1.out.below hb2 (Nat.le_refl _))
 go_wp2
 refine bodyPost_ret (v := .agg #[.bool (decide (n < 0)), .slice a1 (dig n.natAbs).length c1, .bool false, .slice a2 (dig (1 : Int).natAbs).length c2]) (by simp [results, Tryz.results275, go_sem, q0, q1, q2, q3]) rfl ?_
 exact ⟨⟨_, rfl, _, _, rfl, HM1'.out.box4 q0 q1 q2 q3, HM2.out.box4 q0 q1 q2 q3⟩, (((hb.setCell hle _).setCell hle _).setCell hle _).setCell hle _⟩
end Go.Proofs.YtdpjdifoonfcdaaGreatDoor.Z4

namespace Go.Proofs.YtdpjdifoonfcdaaGreatDoor.Z4
open Go.RowKit
def CR (w : World) (v : Value) (s : Bool) (n d : Nat) : Prop := ∃ vn vd v0 v1, v = .agg #[.bool s, vn, .bool false, vd, .bool false, v0, .bool false, v1] /\ MV w vn n /\ MV w vd d /\ MV w v0 0 /\ MV w v1 1
theorem MV.set {w : World} {v : Value} {n : Nat} {p : Addr} {v0 u : Value} (h : MV w v n) (hp : w.cell? p = some v0) (hn : NoNum v0) : MV (w.setCell p u) v n := by
 obtain ⟨a, c, h1, h2, h3⟩ := h
 refine ⟨a, c, h1, h2.set hp ?_, h3⟩
 intro x hx e
 simp only [zs, List.mem_map] at hx
 obtain ⟨d, _, rfl⟩ := hx
 subst e; exact hn
theorem MV.box8 {w : World} {v : Value} {n b : Nat} {x0 x1 x2 x3 x4 x5 x6 x7 u0 u1 u2 u3 u4 u5 u6 u7 : Value} (h : MV w v n) (q0 : w.cell? ⟨b, 0, none⟩ = some x0) (q1 : w.cell? ⟨b, 1, none⟩ = some x1) (q2 : w.cell? ⟨b, 2, none⟩ = some x2) (q3 : w.cell? ⟨b, 3, none⟩ = some x3) (q4 : w.cell? ⟨b, 4, none⟩ = some x4) (q5 : w.cell? ⟨b, 5, none⟩ = some x5) (q6 : w.cell? ⟨b, 6, none⟩ = some x6) (q7 : w.cell? ⟨b, 7, none⟩ = some x7) (n0 : NoNum x0) (n1 : NoNum x1) (n2 : NoNum x2) (n3 : NoNum x3) (n4 : NoNum x4) (n5 : NoNum x5) (n6 : NoNum x6) (n7 : NoNum x7) : MV ((((((((w.setCell ⟨b, 0, none⟩ u0).setCell ⟨b, 1, none⟩ u1).setCell ⟨b, 2, none⟩ u2).setCell ⟨b, 3, none⟩ u3).setCell ⟨b, 4, none⟩ u4).setCell ⟨b, 5, none⟩ u5).setCell ⟨b, 6, none⟩ u6).setCell ⟨b, 7, none⟩ u7) v n := by
 refine (((((((h.set q0 n0).set (v0 := x1) ?_ n1).set (v0 := x2) ?_ n2).set (v0 := x3) ?_ n3).set (v0 := x4) ?_ n4).set (v0 := x5) ?_ n5).set (v0 := x6) ?_ n6).set (v0 := x7) ?_ n7
 · rw [World.cell?_setCell_other _ _ _ _ (by simp)]; exact q1
 · rw [World.cell?_setCell_other _ _ _ _ (by simp), World.cell?_setCell_other _ _ _ _ (by simp)]; exact q2
 · rw [World.cell?_setCell_other _ _ _ _ (by simp), World.cell?_setCell_other _ _ _ _ (by simp), World.cell?_setCell_other _ _ _ _ (by simp)]; exact q3
 · rw [World.cell?_setCell_other _ _ _ _ (by simp), World.cell?_setCell_other _ _ _ _ (by simp), World.cell?_setCell_other _ _ _ _ (by simp), World.cell?_setCell_other _ _ _ _ (by simp)]; exact q4
 · rw [World.cell?_setCell_other _ _ _ _ (by simp), World.cell?_setCell_other _ _ _ _ (by simp), World.cell?_setCell_other _ _ _ _ (by simp), World.cell?_setCell_other _ _ _ _ (by simp), World.cell?_setCell_other _ _ _ _ (by simp)]; exact q5
 · rw [World.cell?_setCell_other _ _ _ _ (by simp), World.cell?_setCell_other _ _ _ _ (by simp), World.cell?_setCell_other _ _ _ _ (by simp), World.cell?_setCell_other _ _ _ _ (by simp), World.cell?_setCell_other _ _ _ _ (by simp), World.cell?_setCell_other _ _ _ _ (by simp)]; exact q6
 · rw [World.cell?_setCell_other _ _ _ _ (by simp), World.cell?_setCell_other _ _ _ _ (by simp), World.cell?_setCell_other _ _ _ _ (by simp), World.cell?_setCell_other _ _ _ _ (by simp), World.cell?_setCell_other _ _ _ _ (by simp), World.cell?_setCell_other _ _ _ _ (by simp), World.cell?_setCell_other _ _ _ _ (by simp)]; exact q7
set_option maxRecDepth 100000 in
theorem real_any (v : Value) (s : Bool) (n d : Nat) (w : World) (hv : QV w v s n d) :
 Calls Tryz.prog 274 #[v] w fun e w' => (∃ v', e = .returned v' /\ CR w' v' s n d) /\ Below w.heap.size w w' := by
 obtain ⟨vn, vd, rfl, hn, hd⟩ := hv
 have hbw := ((Below.refl w.heap.size w).alloc (Nat.le_refl _) (.cells #[.bool s, vn, .bool false, vd] 352)).alloc (by simp) (.cells #[.bool false, .slice none 0 0, .bool false, .slice none 0 0, .bool false, .slice none 0 0, .bool false, .slice none 0 0] 354)
 have HN := Lib.hid hn; have HD := Lib.hid hd; have HBW := Lib.hid hbw
 obtain ⟨an, cn, rfl⟩ := hn.cases
 obtain ⟨ad, cd, rfl⟩ := hd.cases
 clear hn hd hbw
 have hq := fun W => qInt_any 0 W (by omega) (by omega)
 have HQ := Lib.hid hq
 clear hq
 go_enter Tryz.func274, Tryz.ntmps274
 go_wp2_with fail
 have z0 : ((w.alloc (.cells #[.bool s, .slice an (dig n).length cn, .bool false, .slice ad (dig d).length cd] 352)).alloc (.cells #[.bool false, .slice none 0 0, .bool false, .slice none 0 0, .bool false, .slice none 0 0, .bool false, .slice none 0 0] 354)).cell? ⟨w.heap.size, 0, none⟩ = some (.bool s) := by simp
 generalize hW : ((w.alloc (.cells #[.bool s, .slice an (dig n).length cn, .bool false, .slice ad (dig d).length cd] 352)).alloc (.cells #[.bool false, .slice none 0 0, .bool false, .slice none 0 0, .bool false, .slice none 0 0, .bool false, .slice none 0 0] 354)) = W at *
 have hbox : ∀ (B : Nat) (w1 : World), Below B W w1 -> w.heap.size + 1 < B -> (∀ i, w1.cell? ⟨w.heap.size, i, none⟩ = #[Value.bool s, .slice an (dig n).length cn, .bool false, .slice ad (dig d).length cd][i]?) /\ (∀ i, w1.cell? ⟨w.heap.size + 1, i, none⟩ = #[Value.bool false, .slice none 0 0, .bool false, .slice none 0 0, .bool false, .slice none 0 0, .bool false, .slice none 0 0][i]?) /\ (∀ i, w1.frozen? ⟨w.heap.size + 1, i, none⟩ = false) := fun B w1 hb hB => by
  subst hW
  exact ⟨fun i => box_keep2 hb (by omega) i, fun i => box_keep1 hb (by omega) i, fun i => box_free1 hb (by omega) i⟩
 have HBX := Lib.hid hbox
 have hsz0 : w.heap.size + 2 <= W.heap.size := by subst hW; simp
 have HSZ := Lib.hid hsz0
 clear hbox hW hsz0
 have hsz : w.heap.size + 2 <= W.heap.size := HSZ.out
 obtain ⟨z, -, -⟩ := HBX.out (w.heap.size + 2) W (Below.refl _ _) (by omega)
 have y0 := z 0
 have y1 := z 1
 have y2 := z 2
 have y3 := z 3
 simp only [List.getElem?_toArray, List.getElem?_cons_succ, List.getElem?_cons_zero] at y0 y1 y2 y3
 clear z z0
 go_region_with (go_at_call 275; refine (HQ.out _).mono ?_; rintro e w1 ⟨⟨vq, rfl, hvq⟩, hb1⟩; have hbz : Below (w.heap.size + 2) W w1 := ((Below.refl _ W).drew).trans (hb1.mono hsz); obtain ⟨z, t, f⟩ := HBX.out _ w1 hbz (by omega); have x0 := z 0; have x1 := z 1; have x2 := z 2; have x3 := z 3; have t0 := t 0; have t1 := t 1; have t2 := t 2; have t3 := t 3; have t4 := t 4; have t5 := t 5; have t6 := t 6; have t7 := t 7; have f0 := f 0; have f1 := f 1; have f2 := f 2; have f3 := f 3; have f4 := f 4; have f5 := f 5; have f6 := f 6; have f7 := f 7; simp only [List.getElem?_toArray, List.getElem?_cons_succ, List.getElem?_cons_zero] at x0 x1 x2 x3 t0 t1 t2 t3 t4 t5 t6 t7; obtain ⟨a0, a1, rfl, hm0, hm1⟩ := hvq; obtain ⟨b0, c0, rfl⟩ := hm0.cases; obtain ⟨b1, c1, rfl⟩ := hm1.cases; have HM0 := Lib.hid hm0; have HM1 := Lib.hid hm1; clear hm0 hm1 z t f)
 all_goals
  have hbw := HBW.out.trans (hbz.mono (by omega))
  have hle : w.heap.size <= w.heap.size + 1 := by omega
  have HN1 := Lib.hid ((HN.out.below HBW.out (Nat.le_refl _)).below (((Below.refl W.heap.size W).drew).trans hb1) (Nat.le_refl _))
  have HD1 := Lib.hid ((HD.out.below HBW.out (Nat.le_refl _)).below (((Below.refl W.heap.size W).drew).trans hb1) (Nat.le_refl _))
  go_wp2
  refine bodyPost_ret (v := .agg #[.bool s, .slice an (dig n).length cn, .bool false, .slice ad (dig d).length cd, .bool (decide ((0 : Int) < 0)), .slice b0 (dig (0 : Int).natAbs).length c0, .bool false, .slice b1 (dig 1).length c1]) (by simp [results, Tryz.results274, go_sem, t0, t1, t2, t3, t4, t5, t6, t7]) rfl ?_
  exact ⟨⟨_, rfl, _, _, _, _, rfl, HN1.out.box8 t0 t1 t2 t3 t4 t5 t6 t7 trivial trivial trivial trivial trivial trivial trivial trivial, HD1.out.box8 t0 t1 t2 t3 t4 t5 t6 t7 trivial trivial trivial trivial trivial trivial trivial trivial, HM0.out.box8 t0 t1 t2 t3 t4 t5 t6 t7 trivial trivial trivial trivial trivial trivial trivial trivial, HM1.out.box8 t0 t1 t2 t3 t4 t5 t6 t7 trivial trivial trivial trivial trivial trivial trivial trivial⟩, ((((((((hbw.setCell hle _).setCell hle _).setCell hle _).setCell hle _).setCell hle _).setCell hle _).setCell hle _).setCell hle _)⟩
end Go.Proofs.YtdpjdifoonfcdaaGreatDoor.Z4

namespace Go.Proofs.YtdpjdifoonfcdaaGreatDoor.Z4
open Go.RowKit
theorem qZero_any (v : Value) (s : Bool) (n d : Nat) (w : World) (hv : QV w v s n d) :
 Calls Tryz.prog 302 #[v] w fun e w' => e = .returned (.bool (decide (n = 0))) /\ Below w.heap.size w w' := by
 obtain ⟨vn, vd, rfl, hn, hd⟩ := hv
 obtain ⟨an, cn, rfl⟩ := hn.cases
 obtain ⟨ad, cd, rfl⟩ := hd.cases
 have hl : decide (n = 0) = (((dig n).length : Int) == 0) := by
  rw [Bool.eq_iff_iff, decide_eq_true_iff, beq_iff_eq, <- dig_len_pos]; omega
 have HL := Lib.hid hl; clear hl hn hd
 go_enter Tryz.func302, Tryz.ntmps302
 go_wp2
 go_ret
 exact ⟨ret_bool HL.out.symm, (Below.refl _ _).alloc (Nat.le_refl _) _⟩
theorem CR.below {w w' : World} {B : Nat} {v : Value} {s : Bool} {n d : Nat} (h : CR w v s n d) (hb : Below B w w') (hB : w.heap.size <= B) : CR w' v s n d := by
 obtain ⟨a, b, c, e, rfl, h1, h2, h3, h4⟩ := h
 exact ⟨a, b, c, e, rfl, h1.below hb hB, h2.below hb hB, h3.below hb hB, h4.below hb hB⟩
set_option maxRecDepth 100000 in
theorem refText_any (v : Value) (s : Bool) (n d : Nat) (w : World) (hv : CR w v s n d) (hd : d ≠ 0) (hl : (dig n).length <= 549755813888) (hl2 : (dig d).length <= 549755813888) :
 Calls Tryz.prog 276 #[v] w fun e w' => e = .returned (.string (qT s n d)) /\ Below w.heap.size w w' := by
 obtain ⟨va, vb, vc, vd, rfl, ha, hb, hc, hdd⟩ := hv
 have HA := Lib.hid ha; have HB := Lib.hid hb; have HC := Lib.hid hc; have HD := Lib.hid hdd
 obtain ⟨aa, ca, rfl⟩ := ha.cases
 obtain ⟨ab, cb, rfl⟩ := hb.cases
 obtain ⟨ac, cc, rfl⟩ := hc.cases
 obtain ⟨ad, cd, rfl⟩ := hdd.cases
 clear ha hb hc hdd
 have HN := Lib.hid hd; clear hd
 go_enter Tryz.func276, Tryz.ntmps276
 go_wp2_with fail
 refine (qZero_any _ false 0 1 _ ⟨_, _, rfl, HC.out.below ((Below.refl _ _).alloc (Nat.le_refl _) _) (Nat.le_refl _), HD.out.below ((Below.refl _ _).alloc (Nat.le_refl _) _) (Nat.le_refl _)⟩).mono ?_
 rintro e w1 ⟨rfl, hb1⟩
 have hbw : Below w.heap.size w w1 := ((Below.refl _ _).alloc (Nat.le_refl _) _).trans (hb1.mono (by simp))
 have q0 : w1.cell? ⟨w.heap.size, 0, none⟩ = some (.bool s) := box_keep hb1 (by simp) 0
 have q1 : w1.cell? ⟨w.heap.size, 1, none⟩ = some (.slice aa (dig n).length ca) := box_keep hb1 (by simp) 1
 have q2 : w1.cell? ⟨w.heap.size, 2, none⟩ = some (.bool false) := box_keep hb1 (by simp) 2
 have q3 : w1.cell? ⟨w.heap.size, 3, none⟩ = some (.slice ab (dig d).length cb) := box_keep hb1 (by simp) 3
 go_wp2_with fail
 refine (qText_any _ s n d _ ⟨_, _, rfl, HA.out.below hbw (Nat.le_refl _), HB.out.below hbw (Nat.le_refl _)⟩ HN.out hl hl2).mono ?_
 rintro e w2 ⟨rfl, hb2⟩
 go_wp2
 go_ret
 exact ⟨rfl, hbw.trans (hb2.mono hbw.size)⟩
def bigZ (n d : Nat) : Bool := decide (2000 < Lib.nDigits n) || decide (2000 < Lib.nDigits d)
end Go.Proofs.YtdpjdifoonfcdaaGreatDoor.Z4

namespace Go.Proofs.YtdpjdifoonfcdaaGreatDoor.Z4
open Go.RowKit
theorem zv_nat {w : World} {a : Option Addr} {n c : Nat} (h : MV w (.slice a (dig n).length c) n) : ZV w (.agg #[.bool false, .slice a (dig n).length c]) (n : Nat) := by
 obtain ⟨a', c', e, h1, h2, h3⟩ := h
 cases e
 exact ⟨a, c, by rw [decide_eq_false (by omega), Int.natAbs_natCast], by rw [Int.natAbs_natCast]; exact h1, by rw [Int.natAbs_natCast]; exact h2, h3⟩
set_option maxRecDepth 100000 in
set_option maxHeartbeats 4000000 in
theorem part_any (s : ByteArray) (w : World) (hs : s.size <= 9223372036854775807) :
 Calls Tryz.prog 299 #[.string s] w fun e w' => (∃ v r, e = .returned (.tuple #[v, .string r]) /\ QV w' v false (partN s.data.toList).1 (partN s.data.toList).2.1 /\ r.data.toList = (partN s.data.toList).2.2) /\ Below w.heap.size w w' := by
 obtain ⟨l, hl⟩ : ∃ l, l = s.data.toList := ⟨_, rfl⟩
 have hsl : s.size = l.length := by rw [hl]; rfl
 have hnu := fun W => number_any s W hs
 rw [<- hl] at hnu
 rw [<- hl]
 have HL := Lib.hid hl; have HSL := Lib.hid hsl
 have hpl := pfx_le l
 have hlr : (numT l).length = l.length - pfx l := by unfold numT; rw [List.length_drop]
 have hl1 : l.length <= 9223372036854775807 := by omega
 obtain ⟨W0, hW0⟩ : ∃ W0, w.alloc (.cells #[.bool false, .slice none 0 0, .bool false, .slice none 0 0] 352) = W0 := ⟨_, rfl⟩
 have hb0 : Below w.heap.size w W0 := by rw [<- hW0]; exact (Below.refl _ w).alloc (Nat.le_refl _) _
 have q0 : Blk W0 w.heap.size 352 #[.bool false, .slice none 0 0, .bool false, .slice none 0 0] := by rw [<- hW0]; exact heap_alloc_new w _
 have hsz0 : W0.heap.size = w.heap.size + 1 := by rw [<- hW0]; simp
 have HB0 := Lib.hid hb0; have HQ0 := Lib.hid q0; have HW0 := Lib.hid hW0; have HNU := Lib.hid hnu
 clear hl hsl hb0 q0 hW0 hnu
 go_enter Tryz.func299, Tryz.ntmps299
 go_wp2_with fail
 rw [HW0.out]
 refine (HNU.out W0).mono ?_
 rintro e w1 ⟨⟨v1, r1, rfl, hv1, hr1⟩, hb1⟩
 obtain ⟨x1, rfl, hm1⟩ := hv1.mv
 rw [decide_eq_false (by omega : ¬ ((numN l : Nat) : Int) < 0)]
 rw [Int.natAbs_natCast] at hm1
 obtain ⟨a1, c1, rfl⟩ := hm1.cases
 have hr1s : r1.size = l.length - pfx l := by rw [<- hlr, <- hr1]; rfl
 have HM1 := Lib.hid hm1; have HR1 := Lib.hid hr1; have HB1 := Lib.hid hb1; have HR1S := Lib.hid hr1s
 clear hv1 hm1 hr1 hb1 hr1s
 by_cases hp : pfx l = 0
 · have e1 : ((r1.size : Int) == (s.size : Int)) = true := by rw [beq_iff_eq, HR1S.out, HSL.out]; omega
   have hpt : partN l = (1, 1, l) := by unfold partN; rw [if_pos hp]
   have HPT := Lib.hid hpt
   clear hpt hlr
   go_wp2_with fail
   refine (qInt_any 1 _ (by omega) (by omega)).mono ?_
   rintro e w3 ⟨⟨v3, rfl, vn, vd, rfl, hn, hd⟩, hb3⟩
   obtain ⟨an, cn, rfl⟩ := hn.cases
   obtain ⟨ad, cd, rfl⟩ := hd.cases
   have HN := Lib.hid hn; have HD := Lib.hid hd
   have hbx : Below W0.heap.size W0 w3 := (HB1.out.alloc HB1.out.size _).trans (hb3.mono (by simp; have := HB1.out.size; omega))
   clear hn hd hb3 e1
   rw [decide_eq_false (by omega : ¬ ((1 : Int) < 0))]
   have hq := HQ0.out.below hbx (by omega)
   have k0 := hq.cell 0
   have k1 := hq.cell 1
   have k2 := hq.cell 2
   have k3 := hq.cell 3
   have f0 := hq.free 0
   have f1 := hq.free 1
   have f2 := hq.free 2
   have f3 := hq.free 3
   simp only [List.getElem?_toArray, List.getElem?_cons_succ, List.getElem?_cons_zero] at k0 k1 k2 k3
   clear hq
   have hbf := HB0.out.trans (hbx.mono HB0.out.size)
   go_wp2_with fail
   refine bodyPost_ret (v := .tuple #[.agg #[.bool false, .slice an (dig (1 : Int).natAbs).length cn, .bool false, .slice ad (dig 1).length cd], .string s]) (by simp [results, Tryz.results299, go_sem, k0, k1, k2, k3]) rfl ?_
   rw [HPT.out]
   exact ⟨⟨_, _, rfl, ⟨_, _, rfl, HN.out.box4 k0 k1 k2 k3, HD.out.box4 k0 k1 k2 k3⟩, HL.out.symm⟩, (((hbf.setCell (Nat.le_refl _) _).setCell (Nat.le_refl _) _).setCell (Nat.le_refl _) _).setCell (Nat.le_refl _) _⟩
 · have e1 : ((r1.size : Int) == (s.size : Int)) = false := by rw [Bool.eq_false_iff]; intro h; rw [beq_iff_eq, HR1S.out, HSL.out] at h; omega
   obtain ⟨wx, hwx⟩ : ∃ wx, w1.alloc (.cells #[.bool false, .slice a1 (dig (numN l)).length c1] 350) = wx := ⟨_, rfl⟩
   have hsx : wx.heap.size = w1.heap.size + 1 := by rw [<- hwx]; simp
   have hz0 : Blk wx w1.heap.size 350 #[.bool false, .slice a1 (dig (numN l)).length c1] := by rw [<- hwx]; exact heap_alloc_new w1 _
   have hbz : Below w1.heap.size w1 wx := by rw [<- hwx]; exact (Below.refl w1.heap.size w1).alloc (Nat.le_refl _) _
   have HZ1 : Hid (∀ W, Below wx.heap.size wx W -> Blk W w1.heap.size 350 #[.bool false, .slice a1 (dig (numN l)).length c1] /\ MV W (.slice a1 (dig (numN l)).length c1) (numN l) /\ Below W0.heap.size W0 W) := Lib.hid (fun W h => by
    have h2 := hbz.trans (h.mono hbz.size)
    exact ⟨hz0.below h (by omega), HM1.out.below h2 (Nat.le_refl _), HB1.out.trans (h2.mono HB1.out.size)⟩)
   have HWX := Lib.hid hwx
   clear hwx hz0 hbz
   rcases hT : numT l with _ | ⟨c, r⟩
   · have h0 : r1.size = 0 := by rw [HR1S.out, <- hlr, hT]; rfl
     have e2 : ¬ ((0 : Int) < (r1.size : Int)) := by omega
     have hpt : partN l = (numN l, 1, []) := by unfold partN; rw [if_neg hp, hT]
     rw [hT] at HR1
     have HPT := Lib.hid hpt
     clear hpt h0 hT hlr
     go_wp2_with fail
     rw [HWX.out]
     clear e1 e2
     obtain ⟨hz, -, -⟩ := HZ1.out wx (Below.refl _ _)
     have z0 := hz.cell 0
     have z1 := hz.cell 1
     simp only [List.getElem?_toArray, List.getElem?_cons_succ, List.getElem?_cons_zero] at z0 z1
     clear hz
     go_region_with (go_at_call 301; refine (zOf_any 1 _ (by omega) (by omega)).mono ?_; rintro e w5 ⟨⟨v5, rfl, hv5⟩, hb5⟩; obtain ⟨x5, rfl, hm5⟩ := hv5.mv; obtain ⟨a5, c5, rfl⟩ := hm5.cases; have hb6 := ((Below.refl wx.heap.size wx).drew).trans hb5; obtain ⟨hz, hn5, hbx⟩ := HZ1.out w5 hb6; have hq := HQ0.out.below hbx (by omega); have k0 := hq.cell 0; have k1 := hq.cell 1; have k2 := hq.cell 2; have k3 := hq.cell 3; have f0 := hq.free 0; have f1 := hq.free 1; have f2 := hq.free 2; have f3 := hq.free 3; have y0 := hz.cell 0; have y1 := hz.cell 1; simp only [List.getElem?_toArray, List.getElem?_cons_succ, List.getElem?_cons_zero] at k0 k1 k2 k3 y0 y1; have HD := Lib.hid hm5; have HN := Lib.hid hn5; have HBX := Lib.hid hbx; clear hm5 hv5 hb5 hb6 hbx hq hz hn5)
     all_goals
      have hbf := HB0.out.trans (HBX.out.mono HB0.out.size)
      go_wp2_with fail
      refine bodyPost_ret (v := .tuple #[.agg #[.bool false, .slice a1 (dig (numN l)).length c1, .bool false, .slice a5 (dig (1 : Int).natAbs).length c5], .string r1]) (by simp [results, Tryz.results299, go_sem, k0, k1, k2, k3]) rfl ?_
      rw [HPT.out]
      exact ⟨⟨_, _, rfl, ⟨_, _, rfl, HN.out.box4 k0 k1 k2 k3, HD.out.box4 k0 k1 k2 k3⟩, HR1.out⟩, (((hbf.setCell (Nat.le_refl _) _).setCell (Nat.le_refl _) _).setCell (Nat.le_refl _) _).setCell (Nat.le_refl _) _⟩
   · have hr1c : 0 < r1.size := by rw [HR1S.out, <- hlr, hT]; simp
     obtain ⟨c', hc1, hc2⟩ := byte_get (t := r1) (i := 0) hr1c
     rw [HR1.out, hT] at hc1
     obtain rfl : c = c' := by simpa using hc1
     have e2 : (0 : Int) < (r1.size : Int) := by omega
     by_cases hc47 : c = 47
     · subst hc47
       have e3 : ((r1[0].toNat : Int) == 47) = true := by rw [hc2]; rfl
       have he2 : (r1.extract 1 r1.size).data.toList = r := by
        have : (r1.extract 1 r1.size).data.toList = (r1.data.toList.drop 1).take (r1.size - 1) := by simp [ByteArray.data_extract]
        rw [this, HR1.out, hT, List.drop_succ_cons, List.drop_zero, List.take_of_length_le]
        have := HR1S.out
        rw [<- hlr, hT, List.length_cons] at this
        omega
       have hes : (r1.extract 1 r1.size).size <= r1.size := by
        have : (r1.extract 1 r1.size).size = r.length := by rw [<- he2]; rfl
        have h2 := HR1S.out
        rw [<- hlr, hT, List.length_cons] at h2
        omega
       have hnu := fun W => number_any (r1.extract 1 r1.size) W (by have := HR1S.out; omega)
       rw [he2] at hnu
       have HNU2 := Lib.hid hnu
       have i1 : (1 : Int) <= (r1.size : Int) := by omega
       have HT := Lib.hid hT; have HLR := Lib.hid hlr
       clear hc1 hc2 he2 hes hnu hT hlr
       go_wp2_with fail
       rw [HWX.out]
       refine (HNU2.out wx).mono ?_
       rintro e w3 ⟨⟨v2, r2, rfl, hv2, hr2⟩, hb3⟩
       obtain ⟨x2, rfl, hm2⟩ := hv2.mv
       rw [decide_eq_false (by omega : ¬ ((numN r : Nat) : Int) < 0)]
       rw [Int.natAbs_natCast] at hm2
       obtain ⟨a2, c2, rfl⟩ := hm2.cases
       obtain ⟨wy, hwy⟩ : ∃ wy, w3.alloc (.cells #[.bool false, .slice a2 (dig (numN r)).length c2] 350) = wy := ⟨_, rfl⟩
       have hsy : wy.heap.size = w3.heap.size + 1 := by rw [<- hwy]; simp
       have hz0 : Blk wy w3.heap.size 350 #[.bool false, .slice a2 (dig (numN r)).length c2] := by rw [<- hwy]; exact heap_alloc_new w3 _
       have hbz : Below w3.heap.size w3 wy := by rw [<- hwy]; exact (Below.refl w3.heap.size w3).alloc (Nat.le_refl _) _
       have hbxy := hb3.trans (hbz.mono hb3.size)
       have HZ2 : Hid (∀ W, Below wy.heap.size wy W -> (Blk W w1.heap.size 350 #[.bool false, .slice a1 (dig (numN l)).length c1] /\ MV W (.slice a1 (dig (numN l)).length c1) (numN l) /\ Below W0.heap.size W0 W) /\ Blk W w3.heap.size 350 #[.bool false, .slice a2 (dig (numN r)).length c2] /\ MV W (.slice a2 (dig (numN r)).length c2) (numN r)) := Lib.hid (fun W h => by
        have h2 := hbz.trans (h.mono hbz.size)
        exact ⟨HZ1.out W (hbxy.trans (h.mono hbxy.size)), hz0.below h (by omega), hm2.below h2 (Nat.le_refl _)⟩)
       have hn0 : (decide ((0 : Int) < ((dig (numN r)).length : Int))) = decide (numN r ≠ 0) := by
        rw [Bool.eq_iff_iff, decide_eq_true_iff, decide_eq_true_iff, ne_eq, <- dig_len_pos]; omega
       have HWY := Lib.hid hwy; have HR2 := Lib.hid hr2
       clear hwy hz0 hbz hbxy hm2 hv2 hb3 hr2 e1 e2 e3 i1
       by_cases hnr : numN r = 0
       · have e4 : ¬ ((0 : Int) < ((dig (numN r)).length : Int)) := by have := dig_len_pos.2 hnr; omega
         have hpt : partN l = (numN l, 1, 47 :: r) := by unfold partN; rw [if_neg hp, HT.out]; show (if _ then _ else _) = _; rw [if_neg (fun h => h.2 hnr)]
         have HPT := Lib.hid hpt
         rw [HT.out] at HR1
         clear hpt hnr hn0
         go_wp2_with fail
         rw [HWY.out]
         clear e4
         obtain ⟨⟨hz, -, -⟩, -⟩ := HZ2.out wy (Below.refl _ _)
         have z0 := hz.cell 0
         have z1 := hz.cell 1
         simp only [List.getElem?_toArray, List.getElem?_cons_succ, List.getElem?_cons_zero] at z0 z1
         clear hz
         go_region_with (go_at_call 301; refine (zOf_any 1 _ (by omega) (by omega)).mono ?_; rintro e w5 ⟨⟨v5, rfl, hv5⟩, hb5⟩; obtain ⟨x5, rfl, hm5⟩ := hv5.mv; obtain ⟨a5, c5, rfl⟩ := hm5.cases; have hb6 := ((Below.refl wy.heap.size wy).drew).trans hb5; obtain ⟨⟨hz, hn5, hbx⟩, -⟩ := HZ2.out w5 hb6; have hq := HQ0.out.below hbx (by omega); have k0 := hq.cell 0; have k1 := hq.cell 1; have k2 := hq.cell 2; have k3 := hq.cell 3; have f0 := hq.free 0; have f1 := hq.free 1; have f2 := hq.free 2; have f3 := hq.free 3; have y0 := hz.cell 0; have y1 := hz.cell 1; simp only [List.getElem?_toArray, List.getElem?_cons_succ, List.getElem?_cons_zero] at k0 k1 k2 k3 y0 y1; have HD := Lib.hid hm5; have HN := Lib.hid hn5; have HBX := Lib.hid hbx; clear hm5 hv5 hb5 hb6 hbx hq hz hn5)
         all_goals
          have hbf := HB0.out.trans (HBX.out.mono HB0.out.size)
          go_wp2_with fail
          refine bodyPost_ret (v := .tuple #[.agg #[.bool false, .slice a1 (dig (numN l)).length c1, .bool false, .slice a5 (dig (1 : Int).natAbs).length c5], .string r1]) (by simp [results, Tryz.results299, go_sem, k0, k1, k2, k3]) rfl ?_
          rw [HPT.out]
          exact ⟨⟨_, _, rfl, ⟨_, _, rfl, HN.out.box4 k0 k1 k2 k3, HD.out.box4 k0 k1 k2 k3⟩, HR1.out⟩, (((hbf.setCell (Nat.le_refl _) _).setCell (Nat.le_refl _) _).setCell (Nat.le_refl _) _).setCell (Nat.le_refl _) _⟩
       · have e4 : (0 : Int) < ((dig (numN r)).length : Int) := by have := mt dig_len_pos.1 hnr; omega
         have hpt : partN l = (numN l / Nat.gcd (numN l) (numN r), numN r / Nat.gcd (numN l) (numN r), numT r) := by unfold partN; rw [if_neg hp, HT.out]; show (if _ then _ else _) = _; rw [if_pos ⟨rfl, hnr⟩]
         have HPT := Lib.hid hpt
         have hl1 := dig_501 (numN_lt l)
         have hl2 := dig_501 (numN_lt r)
         have hqo := fun W (h : Below wy.heap.size wy W) => qOf_pos (.agg #[.bool false, .slice a1 (dig (numN l)).length c1]) (.agg #[.bool false, .slice a2 (dig (numN r)).length c2]) (numN l : Nat) (numN r) W (zv_nat (HZ2.out W h).1.2.1) (zv_nat (HZ2.out W h).2.2) hnr (by rw [Int.natAbs_natCast]; omega) (by omega)
         have HQO := Lib.hid hqo
         obtain ⟨⟨hz, -, -⟩, hz2, -⟩ := HZ2.out wy (Below.refl _ _)
         have z0 := hz.cell 0
         have z1 := hz.cell 1
         have y0 := hz2.cell 0
         have y1 := hz2.cell 1
         simp only [List.getElem?_toArray, List.getElem?_cons_succ, List.getElem?_cons_zero] at z0 z1 y0 y1
         rw [<- HWY.out] at z0 z1 y0 y1
         clear hpt hn0 hqo hl1 hl2 hz hz2
         go_wp2_with fail
         rw [HWY.out]
         clear z0 z1 y0 y1
         refine (HQO.out wy (Below.refl _ _)).mono ?_
         rintro e w5 ⟨⟨v5, rfl, vn, vd, rfl, hn, hd⟩, hb5⟩
         rw [Int.natAbs_natCast] at hn hd
         rw [decide_eq_false (by omega : ¬ ((numN l : Nat) : Int) < 0)]
         obtain ⟨an, cn, rfl⟩ := hn.cases
         obtain ⟨ad, cd, rfl⟩ := hd.cases
         obtain ⟨⟨-, -, hbx⟩, -⟩ := HZ2.out w5 hb5
         have HN := Lib.hid hn; have HD := Lib.hid hd
         clear hn hd hb5 e4
         have hq := HQ0.out.below hbx (by omega)
         have k0 := hq.cell 0
         have k1 := hq.cell 1
         have k2 := hq.cell 2
         have k3 := hq.cell 3
         have f0 := hq.free 0
         have f1 := hq.free 1
         have f2 := hq.free 2
         have f3 := hq.free 3
         simp only [List.getElem?_toArray, List.getElem?_cons_succ, List.getElem?_cons_zero] at k0 k1 k2 k3
         clear hq
         have hbf := HB0.out.trans (hbx.mono HB0.out.size)
         go_wp2_with fail
         refine bodyPost_ret (v := .tuple #[.agg #[.bool false, .slice an (dig (numN l / Nat.gcd (numN l) (numN r))).length cn, .bool false, .slice ad (dig (numN r / Nat.gcd (numN l) (numN r))).length cd], .string r2]) (by simp [results, Tryz.results299, go_sem, k0, k1, k2, k3]) rfl ?_
         rw [HPT.out]
         exact ⟨⟨_, _, rfl, ⟨_, _, rfl, HN.out.box4 k0 k1 k2 k3, HD.out.box4 k0 k1 k2 k3⟩, HR2.out⟩, (((hbf.setCell (Nat.le_refl _) _).setCell (Nat.le_refl _) _).setCell (Nat.le_refl _) _).setCell (Nat.le_refl _) _⟩
     · have e3 : ((r1[0].toNat : Int) == 47) = false := by
        rw [Bool.eq_false_iff, ne_eq, beq_iff_eq, hc2]
        intro h
        exact hc47 (UInt8.toNat_inj.1 (by show c.toNat = 47; omega))
       have hpt : partN l = (numN l, 1, c :: r) := by unfold partN; rw [if_neg hp, hT]; show (if _ then _ else _) = _; rw [if_neg (fun h => hc47 h.1)]
       have HPT := Lib.hid hpt
       rw [hT] at HR1
       clear hpt hc1 hc2 hc47 hT hlr
       go_wp2_with fail
       rw [HWX.out]
       clear e1 e2 e3
       obtain ⟨hz, -, -⟩ := HZ1.out wx (Below.refl _ _)
       have z0 := hz.cell 0
       have z1 := hz.cell 1
       simp only [List.getElem?_toArray, List.getElem?_cons_succ, List.getElem?_cons_zero] at z0 z1
       clear hz
       go_region_with (go_at_call 301; refine (zOf_any 1 _ (by omega) (by omega)).mono ?_; rintro e w5 ⟨⟨v5, rfl, hv5⟩, hb5⟩; obtain ⟨x5, rfl, hm5⟩ := hv5.mv; obtain ⟨a5, c5, rfl⟩ := hm5.cases; have hb6 := ((Below.refl wx.heap.size wx).drew).trans hb5; obtain ⟨hz, hn5, hbx⟩ := HZ1.out w5 hb6; have hq := HQ0.out.below hbx (by omega); have k0 := hq.cell 0; have k1 := hq.cell 1; have k2 := hq.cell 2; have k3 := hq.cell 3; have f0 := hq.free 0; have f1 := hq.free 1; have f2 := hq.free 2; have f3 := hq.free 3; have y0 := hz.cell 0; have y1 := hz.cell 1; simp only [List.getElem?_toArray, List.getElem?_cons_succ, List.getElem?_cons_zero] at k0 k1 k2 k3 y0 y1; have HD := Lib.hid hm5; have HN := Lib.hid hn5; have HBX := Lib.hid hbx; clear hm5 hv5 hb5 hb6 hbx hq hz hn5)
       all_goals
        have hbf := HB0.out.trans (HBX.out.mono HB0.out.size)
        go_wp2_with fail
        refine bodyPost_ret (v := .tuple #[.agg #[.bool false, .slice a1 (dig (numN l)).length c1, .bool false, .slice a5 (dig (1 : Int).natAbs).length c5], .string r1]) (by simp [results, Tryz.results299, go_sem, k0, k1, k2, k3]) rfl ?_
        rw [HPT.out]
        exact ⟨⟨_, _, rfl, ⟨_, _, rfl, HN.out.box4 k0 k1 k2 k3, HD.out.box4 k0 k1 k2 k3⟩, HR1.out⟩, (((hbf.setCell (Nat.le_refl _) _).setCell (Nat.le_refl _) _).setCell (Nat.le_refl _) _).setCell (Nat.le_refl _) _⟩
end Go.Proofs.YtdpjdifoonfcdaaGreatDoor.Z4

namespace Go.Proofs.YtdpjdifoonfcdaaGreatDoor.Z4
open Go.RowKit
set_option maxRecDepth 100000 in
set_option maxHeartbeats 4000000 in
theorem signed_any (s : ByteArray) (w : World) (hs : s.size <= 9223372036854775807) :
 Calls Tryz.prog 273 #[.string s] w fun e w' => (∃ v r, e = .returned (.tuple #[v, .string r]) /\ QV w' v (signN s.data.toList).1 (signN s.data.toList).2.1 (signN s.data.toList).2.2.1 /\ r.data.toList = (signN s.data.toList).2.2.2) /\ Below w.heap.size w w' := by
 obtain ⟨l, hl⟩ : ∃ l, l = s.data.toList := ⟨_, rfl⟩
 have hsl : s.size = l.length := by rw [hl]; rfl
 have hps := fun W => part_any s W hs
 rw [<- hl] at hps
 rw [<- hl]
 obtain ⟨W0, hW0⟩ : ∃ W0, w.alloc (.cells #[.bool false, .slice none 0 0, .bool false, .slice none 0 0] 352) = W0 := ⟨_, rfl⟩
 have hb0 : Below w.heap.size w W0 := by rw [<- hW0]; exact (Below.refl _ w).alloc (Nat.le_refl _) _
 have q0 : Blk W0 w.heap.size 352 #[.bool false, .slice none 0 0, .bool false, .slice none 0 0] := by rw [<- hW0]; exact heap_alloc_new w _
 have hsz0 : W0.heap.size = w.heap.size + 1 := by rw [<- hW0]; simp
 have HB0 := Lib.hid hb0; have HQ0 := Lib.hid q0; have HW0 := Lib.hid hW0; have HPS := Lib.hid hps
 clear hb0 q0 hW0 hps
 rcases l with _ | ⟨c, r⟩
 · have e1 : ¬ ((0 : Int) < (s.size : Int)) := by rw [hsl]; simp
   obtain ⟨P, hP⟩ : ∃ P, P = partN [] := ⟨_, rfl⟩
   have hsp : signN [] = (false, P) := by rw [hP]; rfl
   have HSP := Lib.hid hsp
   rw [<- hP] at HPS
   clear hsp hP hsl hl
   go_enter Tryz.func273, Tryz.ntmps273
   go_wp2_with fail
   rw [HW0.out]
   refine (HPS.out W0).mono ?_
   rintro e w1 ⟨⟨v1, r1, rfl, ⟨vn, vd, rfl, hn, hd⟩, hr1⟩, hb1⟩
   obtain ⟨an, cn, rfl⟩ := hn.cases
   obtain ⟨ad, cd, rfl⟩ := hd.cases
   have HN := Lib.hid hn; have HD := Lib.hid hd; have HR := Lib.hid hr1
   clear hn hd hr1
   have hq := HQ0.out.below hb1 (by omega)
   have k0 := hq.cell 0
   have k1 := hq.cell 1
   have k2 := hq.cell 2
   have k3 := hq.cell 3
   have f0 := hq.free 0
   have f1 := hq.free 1
   have f2 := hq.free 2
   have f3 := hq.free 3
   simp only [List.getElem?_toArray, List.getElem?_cons_succ, List.getElem?_cons_zero] at k0 k1 k2 k3
   clear hq
   have hbf := HB0.out.trans (hb1.mono HB0.out.size)
   clear hb1
   go_wp2_with fail
   refine bodyPost_ret (v := .tuple #[.agg #[.bool false, .slice an (dig P.1).length cn, .bool false, .slice ad (dig P.2.1).length cd], .string r1]) (by simp [results, Tryz.results273, go_sem, k0, k1, k2, k3]) rfl ?_
   rw [HSP.out]
   exact ⟨⟨_, _, rfl, ⟨_, _, rfl, HN.out.box4 k0 k1 k2 k3, HD.out.box4 k0 k1 k2 k3⟩, HR.out⟩, (((hbf.setCell (Nat.le_refl _) _).setCell (Nat.le_refl _) _).setCell (Nat.le_refl _) _).setCell (Nat.le_refl _) _⟩
 · have hpos : 0 < s.size := by rw [hsl]; simp
   obtain ⟨c', hc1, hc2⟩ := byte_get (t := s) (i := 0) hpos
   rw [<- hl] at hc1
   obtain rfl : c = c' := by simpa using hc1
   have e1 : (0 : Int) < (s.size : Int) := by omega
   have i1 : (1 : Int) <= (s.size : Int) := by omega
   have he2 : (s.extract 1 s.size).data.toList = r := by
    have : (s.extract 1 s.size).data.toList = (s.data.toList.drop 1).take (s.size - 1) := by simp [ByteArray.data_extract]
    rw [this, <- hl, List.drop_succ_cons, List.drop_zero, List.take_of_length_le]
    rw [hsl, List.length_cons]; omega
   have hes : (s.extract 1 s.size).size <= s.size := by
    have : (s.extract 1 s.size).size = r.length := by rw [<- he2]; rfl
    rw [this, hsl, List.length_cons]; omega
   have hpr := fun W => part_any (s.extract 1 s.size) W (by omega)
   rw [he2] at hpr
   have HPR := Lib.hid hpr
   clear hpr he2 hes hsl hl hc1
   by_cases h45 : c = 45
   · have e3 : ((s[0].toNat : Int) == 45) = true := by rw [hc2, h45]; rfl
     obtain ⟨P, hP⟩ : ∃ P, P = partN r := ⟨_, rfl⟩
     have hsp : signN (c :: r) = (decide (P.1 ≠ 0), P) := by rw [hP]; show (if c = 45 then _ else _) = _; rw [if_pos h45]
     have HSP := Lib.hid hsp
     rw [<- hP] at HPR
     clear hsp hP HPS hc2 h45
     go_enter Tryz.func273, Tryz.ntmps273
     go_wp2_with fail
     rw [HW0.out]
     refine (HPR.out W0).mono ?_
     rintro e w1 ⟨⟨v1, r1, rfl, hv1, hr1⟩, hb1⟩
     have hng := fun W (h : Below w1.heap.size w1 W) => qNeg_any v1 (P.1 : Nat) P.2.1 W (by rw [decide_eq_false (by omega : ¬ ((P.1 : Nat) : Int) < 0), Int.natAbs_natCast]; exact hv1.below h (Nat.le_refl _))
     obtain ⟨vn, vd, rfl, hn, hd⟩ := hv1
     obtain ⟨an, cn, rfl⟩ := hn.cases
     obtain ⟨ad, cd, rfl⟩ := hd.cases
     have HNG := Lib.hid hng; have HR := Lib.hid hr1
     clear hng hr1 hn hd
     go_wp2_with fail
     refine (HNG.out _ ((Below.refl w1.heap.size w1).alloc (Nat.le_refl _) _)).mono ?_
     rintro e w2 ⟨⟨v2, rfl, vn, vd, rfl, hn, hd⟩, hb2⟩
     have hz : decide (-((P.1 : Nat) : Int) < 0) = decide (P.1 ≠ 0) := by rw [Bool.eq_iff_iff, decide_eq_true_iff, decide_eq_true_iff]; omega
     rw [hz]
     rw [Int.natAbs_neg, Int.natAbs_natCast] at hn
     obtain ⟨an, cn, rfl⟩ := hn.cases
     obtain ⟨ad, cd, rfl⟩ := hd.cases
     have HN := Lib.hid hn; have HD := Lib.hid hd
     have hbx : Below W0.heap.size W0 w2 := (hb1.alloc hb1.size _).trans (hb2.mono (by simp; have := hb1.size; omega))
     clear hn hd hb1 hb2 hz
     have hq := HQ0.out.below hbx (by omega)
     have k0 := hq.cell 0
     have k1 := hq.cell 1
     have k2 := hq.cell 2
     have k3 := hq.cell 3
     have f0 := hq.free 0
     have f1 := hq.free 1
     have f2 := hq.free 2
     have f3 := hq.free 3
     simp only [List.getElem?_toArray, List.getElem?_cons_succ, List.getElem?_cons_zero] at k0 k1 k2 k3
     clear hq
     have hbf := HB0.out.trans (hbx.mono HB0.out.size)
     clear hbx
     go_wp2_with fail
     refine bodyPost_ret (v := .tuple #[.agg #[.bool (decide (P.1 ≠ 0)), .slice an (dig P.1).length cn, .bool false, .slice ad (dig P.2.1).length cd], .string r1]) (by simp [results, Tryz.results273, go_sem, k0, k1, k2, k3]) rfl ?_
     rw [HSP.out]
     exact ⟨⟨_, _, rfl, ⟨_, _, rfl, HN.out.box4 k0 k1 k2 k3, HD.out.box4 k0 k1 k2 k3⟩, HR.out⟩, (((hbf.setCell (Nat.le_refl _) _).setCell (Nat.le_refl _) _).setCell (Nat.le_refl _) _).setCell (Nat.le_refl _) _⟩
   · have e3 : ((s[0].toNat : Int) == 45) = false := by
      rw [Bool.eq_false_iff, ne_eq, beq_iff_eq, hc2]
      intro h
      exact h45 (UInt8.toNat_inj.1 (by show c.toNat = 45; omega))
     by_cases h43 : c = 43
     · have e4 : ((s[0].toNat : Int) == 43) = true := by rw [hc2, h43]; rfl
       obtain ⟨P, hP⟩ : ∃ P, P = partN r := ⟨_, rfl⟩
       have hsp : signN (c :: r) = (false, P) := by rw [hP]; show (if c = 45 then _ else _) = _; rw [if_neg h45, if_pos h43]
       have HSP := Lib.hid hsp
       rw [<- hP] at HPR
       clear hsp hP HPS hc2 h45 h43
       go_enter Tryz.func273, Tryz.ntmps273
       go_wp2_with fail
       rw [HW0.out]
       refine (HPR.out W0).mono ?_
       rintro e w1 ⟨⟨v1, r1, rfl, ⟨vn, vd, rfl, hn, hd⟩, hr1⟩, hb1⟩
       obtain ⟨an, cn, rfl⟩ := hn.cases
       obtain ⟨ad, cd, rfl⟩ := hd.cases
       have HN := Lib.hid hn; have HD := Lib.hid hd; have HR := Lib.hid hr1
       clear hn hd hr1
       have hq := HQ0.out.below hb1 (by omega)
       have k0 := hq.cell 0
       have k1 := hq.cell 1
       have k2 := hq.cell 2
       have k3 := hq.cell 3
       have f0 := hq.free 0
       have f1 := hq.free 1
       have f2 := hq.free 2
       have f3 := hq.free 3
       simp only [List.getElem?_toArray, List.getElem?_cons_succ, List.getElem?_cons_zero] at k0 k1 k2 k3
       clear hq
       have hbf := HB0.out.trans (hb1.mono HB0.out.size)
       clear hb1
       go_wp2_with fail
       refine bodyPost_ret (v := .tuple #[.agg #[.bool false, .slice an (dig P.1).length cn, .bool false, .slice ad (dig P.2.1).length cd], .string r1]) (by simp [results, Tryz.results273, go_sem, k0, k1, k2, k3]) rfl ?_
       rw [HSP.out]
       exact ⟨⟨_, _, rfl, ⟨_, _, rfl, HN.out.box4 k0 k1 k2 k3, HD.out.box4 k0 k1 k2 k3⟩, HR.out⟩, (((hbf.setCell (Nat.le_refl _) _).setCell (Nat.le_refl _) _).setCell (Nat.le_refl _) _).setCell (Nat.le_refl _) _⟩
     · have e4 : ((s[0].toNat : Int) == 43) = false := by
        rw [Bool.eq_false_iff, ne_eq, beq_iff_eq, hc2]
        intro h
        exact h43 (UInt8.toNat_inj.1 (by show c.toNat = 43; omega))
       obtain ⟨P, hP⟩ : ∃ P, P = partN (c :: r) := ⟨_, rfl⟩
       have hsp : signN (c :: r) = (false, P) := by rw [hP]; show (if c = 45 then _ else _) = _; rw [if_neg h45, if_neg h43]
       have HSP := Lib.hid hsp
       rw [<- hP] at HPS
       clear hsp hP HPR hc2 h45 h43
       go_enter Tryz.func273, Tryz.ntmps273
       go_wp2_with fail
       rw [HW0.out]
       refine (HPS.out W0).mono ?_
       rintro e w1 ⟨⟨v1, r1, rfl, ⟨vn, vd, rfl, hn, hd⟩, hr1⟩, hb1⟩
       obtain ⟨an, cn, rfl⟩ := hn.cases
       obtain ⟨ad, cd, rfl⟩ := hd.cases
       have HN := Lib.hid hn; have HD := Lib.hid hd; have HR := Lib.hid hr1
       clear hn hd hr1
       have hq := HQ0.out.below hb1 (by omega)
       have k0 := hq.cell 0
       have k1 := hq.cell 1
       have k2 := hq.cell 2
       have k3 := hq.cell 3
       have f0 := hq.free 0
       have f1 := hq.free 1
       have f2 := hq.free 2
       have f3 := hq.free 3
       simp only [List.getElem?_toArray, List.getElem?_cons_succ, List.getElem?_cons_zero] at k0 k1 k2 k3
       clear hq
       have hbf := HB0.out.trans (hb1.mono HB0.out.size)
       clear hb1
       go_wp2_with fail
       refine bodyPost_ret (v := .tuple #[.agg #[.bool false, .slice an (dig P.1).length cn, .bool false, .slice ad (dig P.2.1).length cd], .string r1]) (by simp [results, Tryz.results273, go_sem, k0, k1, k2, k3]) rfl ?_
       rw [HSP.out]
       exact ⟨⟨_, _, rfl, ⟨_, _, rfl, HN.out.box4 k0 k1 k2 k3, HD.out.box4 k0 k1 k2 k3⟩, HR.out⟩, (((hbf.setCell (Nat.le_refl _) _).setCell (Nat.le_refl _) _).setCell (Nat.le_refl _) _).setCell (Nat.le_refl _) _⟩
end Go.Proofs.YtdpjdifoonfcdaaGreatDoor.Z4
