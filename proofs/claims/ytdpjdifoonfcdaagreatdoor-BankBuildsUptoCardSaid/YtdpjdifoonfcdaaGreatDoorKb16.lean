/- Parts of a proof, in build order: O8, O9, Ra, OA, I0, I1, H4, Is, OB, OD, I3, OE, OF. -/
import Derived.Test.YtdpjdifoonfcdaaGreatDoorKb15

namespace Go.Proofs.YtdpjdifoonfcdaaGreatDoor
open Go.RowKit
theorem Tryz.infoStr : (Tryz.prog.info? 9).map (fun i => (i.zero, i.size, i.bytes)) = some (some (.string ⟨#[]⟩), 1, 16) := by kernel_rfl
def strs (ls : List (List UInt8)) : List Value := ls.map fun l => .string ⟨l.toArray⟩
theorem strs_snoc (a : List (List UInt8)) (x : List UInt8) : strs (a ++ [x]) = strs a ++ [.string ⟨x.toArray⟩] := by simp [strs]
theorem bytes_ext {s : ByteArray} {l : List UInt8} (h : l = s.data.toList) (f k : Nat) : s.extract f k = ⟨((l.drop f).take (k - f)).toArray⟩ := by
 have e : (s.extract f k).data.toList = (l.drop f).take (k - f) := by rw [h]; simp [ByteArray.data_extract]
 cases hx : s.extract f k
 rw [hx] at e
 simp only at e
 rw [<- e]
set_option maxRecDepth 100000 in
set_option maxHeartbeats 2000000 in
theorem refCut_any (s : ByteArray) (w : World) (hs : s.size <= 1048576) :
 Calls Tryz.prog 212 #[.string s, .int .u8 47] w fun e w' => (∃ a c, e = .returned (.slice a (cutB s.data.toList).length c) /\ Cells w' a (strs (cutB s.data.toList))) /\ Below w.heap.size w w' := by
 obtain ⟨i0, hi, hz0, hz1, hz2⟩ := info_parts Tryz.infoStr
 obtain ⟨l, hl⟩ : ∃ l, l = s.data.toList := ⟨_, rfl⟩
 have hsl : s.size = l.length := by rw [hl]; rfl
 rw [<- hl]
 have HL := Lib.hid hl; have HSL := Lib.hid hsl
 have hl1 : l.length <= 1048576 := by omega
 have hets : (s.size : Int) = (l.length : Int) := by omega
 have hgetc : ∀ i, i < l.length -> ∃ c, l[i]? = some c /\ ∃ h : i < s.size, s[i] = c := fun i h => by
  obtain ⟨c, h1, h2⟩ := byte_get (t := s) (i := i) (by omega)
  rw [<- hl] at h1
  exact ⟨c, h1, by omega, h2⟩
 have HGC := Lib.hid hgetc
 clear hl hgetc hsl
 go_enter Tryz.func212, Tryz.ntmps212
 go_wp2_with fail
 go_loopw [5, 6, 7] (fun ov fv iv wr => ∃ (ds : List (List UInt8)) (f k : Nat), fv = .int .i64 f /\ iv = .int .i64 k /\ f <= k /\ k <= l.length /\ ds.length <= f /\ (∀ b ∈ (l.drop f).take (k - f), b ≠ 47) /\ cutB l = ds ++ cutB (l.drop f) /\ wr.ownsRow w.heap.size 9 1 ov ds.length (strs ds) /\ Below w.heap.size w wr) (fun _ _ iv _ => l.length - (intOf iv).toNat)
 case atStart => exact ⟨[], 0, 0, rfl, rfl, Nat.le_refl _, Nat.zero_le _, Nat.le_refl _, by simp, rfl, World.ownsRow_nil _ _ _ _, Below.refl _ _⟩
 case round =>
  obtain ⟨ds, f, k, rfl, rfl, hfk, hk, hdl, hno, hcut, hown, hb⟩ := hrel
  have hsz := hb.size
  have HNO := Lib.hid hno; have HCUT := Lib.hid hcut
  have HOB : Hid (∀ j, u5.ownBlock = some j -> w.heap.size <= j) := fun j e => (hown.lt j e).1
  clear hno hcut
  by_cases hlt : k < l.length
  · obtain ⟨c, hlc, hit, rfl⟩ := HGC.out k hlt
    have hdr : (l.drop f)[k - f]? = some s[k] := by rw [List.getElem?_drop, show f + (k - f) = k by omega]; exact hlc
    have i1 : (k : Int) < (l.length : Int) := by omega
    have i2 : (0 : Int) <= (k : Int) := by omega
    have i4 : (f : Int) <= (k : Int) := by omega
    have i5 : (0 : Int) <= (f : Int) := by omega
    have i6 : (k : Int) <= (l.length : Int) := by omega
    by_cases hc : s[k] = 47
    · have e3 : ((s[k].toNat : Int) == 47) = true := by rw [hc]; rfl
      have hext := bytes_ext HL.out f k
      have hcut2 : cutB l = (ds ++ [(l.drop f).take (k - f)]) ++ cutB (l.drop (k + 1)) := by
       have hdk : l.drop k = 47 :: l.drop (k + 1) := by
        rw [List.drop_eq_getElem_cons hlt, (List.getElem?_eq_some_iff.1 hlc).2, hc]
       obtain ⟨P, hP⟩ : ∃ P, P = (l.drop f).take (k - f) := ⟨_, rfl⟩
       have e : l.drop f = P ++ 47 :: l.drop (k + 1) := by
        rw [hP, <- hdk, show l.drop k = (l.drop f).drop (k - f) by rw [List.drop_drop, show f + (k - f) = k by omega], List.take_append_drop]
       have h1 := HCUT.out
       have h2 := HNO.out
       rw [<- hP] at h2 ⊢
       rw [e, cutB_some h2] at h1
       rw [h1, List.append_assoc]; rfl
      have HEX := Lib.hid hext; have HC2 := Lib.hid hcut2
      clear hext hcut2 hdr hlc hc
      go_wp2_with (at_builtin; refine wpList_append_own _ rfl _ _ 316 rfl w.heap.size 9 i0 (.string ⟨#[]⟩) 1 16 Tryz.underlying316 hi hz0 hz1 hz2 rfl (by decide) _ _ _ rfl (hown.alloc _) ⟨wr.heap.size, 0, none⟩ 1 1 [.string (s.extract f k)] rfl rfl (news1 _ _ _) (by simp [Value.oneCell']) (by unfold maxLen; omega) (by omega) (by simp; omega) ?_; intro v1 wz hown1 hgrow _)
      have hfin := hown1
      rw [HEX.out, show strs ds ++ [.string ⟨((l.drop f).take (k - f)).toArray⟩] = strs (ds ++ [(l.drop f).take (k - f)]) from (strs_snoc _ _).symm] at hfin
      have hbz := (hb.alloc hsz (.cells #[.string (s.extract f k)] 9)).grown hgrow (by simp; omega) HOB.out
      clear hown1 hgrow hown
      have HFIN := Lib.hid hfin; clear hfin
      go_wp2_with fail
      go_roundw
      case rel => exact ⟨ds ++ [(l.drop f).take (k - f)], k + 1, k + 1, by go_num, by go_num, Nat.le_refl _, by omega, by rw [List.length_append, List.length_singleton]; omega, by simp, HC2.out, by simpa using HFIN.out, hbz⟩
      case measure => simp [intOf]; omega
    · have e3 : ((s[k].toNat : Int) == 47) = false := by
       rw [Bool.eq_false_iff, ne_eq, beq_iff_eq]
       intro h
       exact hc (UInt8.toNat_inj.1 (by show s[k].toNat = 47; omega))
      have hno2 : ∀ b ∈ (l.drop f).take (k + 1 - f), b ≠ 47 := by
       rw [show k + 1 - f = (k - f) + 1 by omega, List.take_add_one, hdr]
       intro b hb2
       rcases List.mem_append.1 hb2 with h | h
       · exact HNO.out b h
       · simp at h; rw [h]; exact hc
      have HN2 := Lib.hid hno2
      clear hno2 hdr hlc hc
      go_wp2_with fail
      go_roundw
      case rel => exact ⟨ds, f, k + 1, rfl, by go_num, by omega, by omega, hdl, HN2.out, HCUT.out, hown, hb⟩
      case measure => simp [intOf]; omega
  · obtain rfl : k = l.length := by omega
    have i1 : ¬ ((l.length : Int) < (l.length : Int)) := by omega
    have i4 : (f : Int) <= (l.length : Int) := by omega
    have i5 : (0 : Int) <= (f : Int) := by omega
    have hext := bytes_ext HL.out f l.length
    rw [show (l.drop f).take (l.length - f) = l.drop f from List.take_of_length_le (by rw [List.length_drop]; omega)] at hext
    have hext2 : s.extract f s.size = ⟨(l.drop f).toArray⟩ := by rw [HSL.out]; exact hext
    have hcut2 : cutB l = ds ++ [l.drop f] := by
     have h1 := HCUT.out
     rw [cutB_none (l := l.drop f) (by have := HNO.out; rwa [List.take_of_length_le (by rw [List.length_drop]; omega)] at this)] at h1
     exact h1
    have HEX := Lib.hid hext2; have HC2 := Lib.hid hcut2; have HEY := Lib.hid hext
    clear hext hext2 hcut2
    go_wp2_with (at_builtin; refine wpList_append_own _ rfl _ _ 316 rfl w.heap.size 9 i0 (.string ⟨#[]⟩) 1 16 Tryz.underlying316 hi hz0 hz1 hz2 rfl (by decide) _ _ _ rfl (hown.alloc _) ⟨wr.heap.size, 0, none⟩ 1 1 [.string ⟨(l.drop f).toArray⟩] rfl rfl (by first | rw [<- HEX.out]; exact news1 _ _ _ | rw [<- HEY.out]; exact news1 _ _ _) (by simp [Value.oneCell']) (by unfold maxLen; omega) (by omega) (by simp; omega) ?_; intro v1 wz hown1 hgrow _)
    have hfin := hown1
    rw [show strs ds ++ [.string ⟨(l.drop f).toArray⟩] = strs (ds ++ [l.drop f]) from (strs_snoc _ _).symm, <- HC2.out, show ds.length + 1 = (cutB l).length by rw [HC2.out, List.length_append, List.length_singleton]] at hfin
    have hbz := (hb.alloc hsz (.cells #[.string (s.extract f s.size)] 9)).grown hgrow (by simp; omega) HOB.out
    obtain ⟨g, cc, rfl, hcs, -, -⟩ := own_cap hfin
    go_ret
    exact ⟨⟨g, ⟨cc, rfl⟩, hcs⟩, hbz⟩
set_option maxRecDepth 100000 in
set_option maxHeartbeats 2000000 in
theorem refNatural_any (s : ByteArray) (w : World) (hs : s.size <= 1048576) :
 Calls Tryz.prog 214 #[.string s, .int .i64 6] w fun e w' => (∃ n : Nat, e = .returned (.tuple #[.int .i64 n, .bool (natS s.data.toList).isSome]) /\ ∀ m, natS s.data.toList = some m -> n = m) /\ w = w' := by
 obtain ⟨l, hl⟩ : ∃ l, l = s.data.toList := ⟨_, rfl⟩
 have hsl : s.size = l.length := by rw [hl]; rfl
 rw [<- hl]
 have hgetc : ∀ i, i < l.length -> ∃ c, l[i]? = some c /\ ∃ h : i < s.size, s[i] = c := fun i h => by
  obtain ⟨c, h1, h2⟩ := byte_get (t := s) (i := i) (by omega)
  rw [<- hl] at h1
  exact ⟨c, h1, by omega, h2⟩
 have hets : (s.size : Int) = (l.length : Int) := by omega
 have hno : ∀ (n : Nat), natS l = none -> (∃ m : Nat, Ending.returned (.tuple #[.int .i64 0, .bool false]) = Ending.returned (.tuple #[.int .i64 m, .bool (natS l).isSome]) /\ ∀ k, natS l = some k -> m = k) := fun _ h => ⟨0, by rw [h]; rfl, fun k hk => by rw [h] at hk; cases hk⟩
 have HGC := Lib.hid hgetc; have HNO := Lib.hid hno
 clear hgetc hno
 by_cases h1 : l.length < 1
 · have hn : natS l = none := by unfold natS; rw [if_pos (.inl h1)]
   have HN := Lib.hid hn
   clear hn hl
   go_enter Tryz.func214, Tryz.ntmps214
   go_wp2_with fail
   go_ret2
   exact ⟨HNO.out 0 HN.out, rfl⟩
 · by_cases h2 : 6 < l.length
   · have hn : natS l = none := by unfold natS; rw [if_pos (.inr (.inl h2))]
     have HN := Lib.hid hn
     clear hn hl
     go_enter Tryz.func214, Tryz.ntmps214
     go_wp2_with fail
     go_ret2
     exact ⟨HNO.out 0 HN.out, rfl⟩
   · obtain ⟨c, hlc, hit, rfl⟩ := HGC.out 0 (by omega)
     have hh : l.head? = some s[0] := by rw [List.head?_eq_getElem?]; exact hlc
     by_cases h3 : s[0] = 48 /\ 1 < l.length
     · have hn : natS l = none := by unfold natS; rw [if_pos (.inr (.inr (.inl ⟨by rw [hh, h3.1], h3.2⟩)))]
       have HN := Lib.hid hn
       have e3 : ((s[0].toNat : Int) == 48) = true := by rw [h3.1]; rfl
       have e4 : 1 < l.length := h3.2
       clear hn hl hh hlc h3
       go_enter Tryz.func214, Tryz.ntmps214
       go_wp2_with fail
       go_ret2
       exact ⟨HNO.out 0 HN.out, rfl⟩
     · have hn : natS l = if l.all isDg = false then none else some (dval l) := by
        unfold natS
        by_cases ha : l.all isDg = false
        · rw [if_pos (.inr (.inr (.inr ha))), if_pos ha]
        · rw [if_neg ha, if_neg]
          rintro (h | h | ⟨h, h'⟩ | h)
          · exact h1 h
          · exact h2 h
          · rw [hh] at h; exact h3 ⟨by simpa using h, h'⟩
          · exact ha h
       have e3 : (((s[0].toNat : Int) == 48) = true /\ ¬ (1 < l.length)) ∨ ((s[0].toNat : Int) == 48) = false := by
        by_cases h48 : s[0] = 48
        · exact .inl ⟨by rw [h48]; rfl, fun h => h3 ⟨h48, h⟩⟩
        · right
          rw [Bool.eq_false_iff, ne_eq, beq_iff_eq]
          intro h
          exact h48 (UInt8.toNat_inj.1 (by show s[0].toNat = 48; omega))
       have HN := Lib.hid hn
       have hl6 : l.length <= 6 := by omega
       clear hn hl hh hlc h3
       rcases e3 with ⟨e3, e4⟩ | e3
       all_goals
        go_enter Tryz.func214, Tryz.ntmps214
        go_wp2_with fail
        go_loop [6, 7] (fun nv iv => ∃ i n : Nat, i <= l.length /\ iv = .int .i64 i /\ nv = .int .i64 n /\ n = dval (l.take i) /\ (l.take i).all isDg = true) (fun _ iv => l.length - (intOf iv).toNat)
        case atStart => exact ⟨0, 0, Nat.zero_le _, rfl, rfl, rfl, rfl⟩
        case round =>
         obtain ⟨i, n, hil, rfl, rfl, hn, ha⟩ := hrel
         have hn6 : n < 1000000 := by
          have h1 := dval_lt _ ha
          rw [<- hn] at h1
          have h2 : (l.take i).length <= 6 := by rw [List.length_take]; omega
          have h3 := Nat.pow_le_pow_right (n := 10) (by decide) h2
          omega
         by_cases hlt : i < l.length
         · obtain ⟨c, hlc, hit2, rfl⟩ := HGC.out i hlt
           have hc8 : (s[i].toNat : Int) <= 255 := by have := s[i].toNat_lt; omega
           have htk : l.take (i + 1) = l.take i ++ [s[i]] := take_get hlc
           have HTK := Lib.hid htk; have HV := Lib.hid hn; have HA := Lib.hid ha; have HLC := Lib.hid hlc
           clear htk hn ha hlc
           have i1 : (i : Int) < (l.length : Int) := by omega
           have i2 : (0 : Int) <= (i : Int) := by omega
           by_cases hd : isDg s[i] = true
           · have hd2 := hd
             simp only [isDg, Bool.and_eq_true, decide_eq_true_eq] at hd2
             have hd3 : (48 : Int) <= (s[i].toNat : Int) /\ (s[i].toNat : Int) <= 57 := by omega
             obtain ⟨d1, d2⟩ := hd3
             have en : (10 * (n : Int) + ((s[i].toNat : Int) - 48)) = ((10 * n + (s[i].toNat - 48) : Nat) : Int) := by omega
             have HD := Lib.hid hd; have EN := Lib.hid en
             clear hd hd2 en
             go_wp2_with fail
             go_round
             case rel => exact ⟨i + 1, 10 * n + (s[i].toNat - 48), by omega, by go_num, by rw [EN.out], by rw [HTK.out, dval_snoc, HV.out], by rw [HTK.out, List.all_append, HA.out, List.all_cons, HD.out]; rfl⟩
             case measure => simp [intOf]; omega
           · have hdf : isDg s[i] = false := by simpa using hd
             have hnn : natS l = none := natS_no (List.mem_of_getElem? HLC.out) hdf
             have hd3 : (s[i].toNat : Int) < 48 ∨ (57 : Int) < (s[i].toNat : Int) := by
              simp only [isDg, Bool.and_eq_false_iff, decide_eq_false_iff_not] at hdf
              omega
             have HNN := Lib.hid hnn
             clear hd hdf hnn
             rcases hd3 with hd3 | hd3
             · go_wp2_with fail
               go_ret2
               exact ⟨HNO.out 0 HNN.out, rfl⟩
             · have hd4 : (48 : Int) <= (s[i].toNat : Int) := by omega
               go_wp2_with fail
               go_ret2
               exact ⟨HNO.out 0 HNN.out, rfl⟩
         · obtain rfl : i = l.length := by omega
           rw [List.take_length] at hn ha
           have hnn : natS l = some n := by rw [HN.out, if_neg (by rw [ha]; decide), hn]
           have HNN := Lib.hid hnn
           have i1 : ¬ ((l.length : Int) < (l.length : Int)) := by omega
           clear hn ha hnn
           go_wp2_with fail
           go_ret2
           exact ⟨⟨n, by rw [HNN.out]; rfl, fun m hm => by rw [HNN.out] at hm; exact Option.some.inj hm⟩, rfl⟩
end Go.Proofs.YtdpjdifoonfcdaaGreatDoor

namespace Go.Proofs.YtdpjdifoonfcdaaGreatDoor
open Go.RowKit
theorem refCheck_any (s : ByteArray) (w : World) (hs : s.size <= 1048576) :
 Calls Tryz.prog 213 #[.string s] w fun e w' => (∃ b, e = .returned (.int .i64 (if b = true then 0 else 10)) /\ IsNum s b) /\ Below w.heap.size w w' := by
 have hg := fun W => Z4.Get_any s W (by omega)
 have HG := Lib.hid hg; clear hg
 go_enter Tryz.func213, Tryz.ntmps213
 go_wp2_with fail
 refine (HG.out _).mono ?_
 rintro e w1 ⟨⟨v, b, rfl, ⟨s1, s2, a1, n1, c1, a2, n2, c2, a3, n3, c3, a4, n4, c4, rfl⟩, hn⟩, hb1⟩
 have HN := Lib.hid hn
 have hbz := hb1.alloc hb1.size (.cells #[.bool s1, .slice a1 n1 c1, .bool false, .slice a2 n2 c2, .bool s2, .slice a3 n3 c3, .bool false, .slice a4 n4 c4] 354)
 clear hn
 cases b
 · go_wp2_with fail
   go_ret
   exact ⟨⟨false, rfl, HN.out⟩, hbz⟩
 · go_wp2_with fail
   go_ret
   exact ⟨⟨true, rfl, HN.out⟩, hbz⟩
theorem cutB_len : ∀ (l : List UInt8), ∀ x ∈ cutB l, x.length <= l.length := by
 intro l
 induction l with
 | nil => intro x hx; simp [cutB] at hx; subst hx; exact Nat.le_refl _
 | cons c r ih =>
   intro x hx
   rw [cutB] at hx
   split at hx
   · rcases List.mem_cons.1 hx with rfl | h
     · exact Nat.zero_le _
     · have := ih x h; rw [List.length_cons]; omega
   · rcases hc : cutB r with _ | ⟨y, ys⟩
     · exact absurd hc (cutB_ne r)
     · rw [hc] at hx ih
       rcases List.mem_cons.1 hx with rfl | h
       · have := ih y (by simp); simp only [List.length_cons]; omega
       · have := ih x (by simp [h]); rw [List.length_cons]; omega
theorem isNum_ex (s : ByteArray) : ∃ b, IsNum s b := by
 obtain ⟨h1, h2, h3, h4, h5⟩ := Z4.signN_bd s.data.toList
 by_cases h : s = ratT (Z4.signN s.data.toList).1 (Z4.signN s.data.toList).2.1 (Z4.signN s.data.toList).2.2.1 /\ bigQ (Z4.signN s.data.toList).2.1 (Z4.signN s.data.toList).2.2.1 = false
 · exact ⟨true, fun _ => .inl ⟨_, _, _, h.1, h3, h4, h5, h.2⟩, fun _ _ _ => rfl⟩
 · exact ⟨false, fun hb => Bool.noConfusion hb, fun _ a b => absurd ⟨a, b⟩ h⟩
def BarRes2 (s : ByteArray) (w : World) (e : Ending) (w' : World) : Prop :=
 (∃ (n d : Nat), e = .returned (.tuple #[.agg #[.int .i64 n, .int .i64 d], .bool (barS s).isSome]) /\ ∀ x, barS s = some x -> (n, d) = x) /\ Below w.heap.size w w'
set_option maxRecDepth 100000 in
set_option maxHeartbeats 2000000 in
theorem refBar_any (s : ByteArray) (w : World) (hs : s.size <= 1048576) :
 Calls Tryz.prog 145 #[.string s] w (BarRes2 s w) := by
 obtain ⟨W0, hW0⟩ : ∃ W0, w.alloc (.cells #[.int .i64 0, .int .i64 0] 163) = W0 := ⟨_, rfl⟩
 have hb0 : Below w.heap.size w W0 := by rw [<- hW0]; exact (Below.refl _ w).alloc (Nat.le_refl _) _
 have q0 : Blk W0 w.heap.size 163 #[.int .i64 0, .int .i64 0] := by rw [<- hW0]; exact heap_alloc_new w _
 have hsz0 : W0.heap.size = w.heap.size + 1 := by rw [<- hW0]; simp
 have hck := fun W => refCheck_any s W hs
 have hcu := fun W => refCut_any s W hs
 have hkr : ∀ W, Below W0.heap.size W0 W -> (W.cell? ⟨w.heap.size, 0, none⟩ = some (.int .i64 0) /\ W.cell? ⟨w.heap.size, 1, none⟩ = some (.int .i64 0) /\ W.frozen? ⟨w.heap.size, 0, none⟩ = false /\ W.frozen? ⟨w.heap.size, 1, none⟩ = false) /\ Below w.heap.size w W := fun W h => by
  have hq := q0.below h (by omega)
  exact ⟨⟨hq.cell 0, hq.cell 1, hq.free 0, hq.free 1⟩, hb0.trans (h.mono hb0.size)⟩
 have HW0 := Lib.hid hW0; have HCK := Lib.hid hck; have HCU := Lib.hid hcu; have HKR := Lib.hid hkr
 clear hb0 q0 hW0 hck hcu hkr
 have hbq := fun b (h : IsNum s b) => barQ_is h
 have HBQ := Lib.hid hbq; clear hbq
 obtain ⟨ps, hps⟩ : ∃ ps, ps = cutB s.data.toList := ⟨_, rfl⟩
 rw [<- hps] at HCU
 have HPS := Lib.hid hps; clear hps
 go_enter Tryz.func145, Tryz.ntmps145
 go_wp2_with fail
 rw [HW0.out]
 refine (HCU.out W0).mono ?_
 rintro e w1 ⟨⟨a1, c1, rfl, hc1⟩, hb1⟩
 have HC1 := Lib.hid hc1
 clear hc1
 by_cases h2 : 2 < ps.length
 · have hB : barS s = none := by
    obtain ⟨b, hb⟩ := isNum_ex s
    rw [<- HBQ.out b hb]
    unfold barQ
    rw [<- HPS.out]
    match ps, h2 with
    | _ :: _ :: _ :: _, _ => rfl
   have HB := Lib.hid hB
   obtain ⟨⟨k0, k1, f0, f1⟩, hbw⟩ := HKR.out w1 hb1
   clear hB
   go_wp2_with fail
   refine bodyPost_ret (v := .tuple #[.agg #[.int .i64 0, .int .i64 0], .bool false]) (by simp [results, Tryz.results145, go_sem, k0, k1]) rfl ?_
   refine ⟨⟨0, 0, by rw [HB.out]; rfl, fun x hx => ?_⟩, (hbw.setCell (Nat.le_refl _) _).setCell (Nat.le_refl _) _⟩
   rw [HB.out] at hx; cases hx
 · have h2' : ¬ ((2 : Int) < (ps.length : Int)) := by omega
   go_wp2_with fail
   refine (HCK.out w1).mono ?_
   rintro e w2 ⟨⟨b, rfl, hn⟩, hb2⟩
   have HQ := Lib.hid (HBQ.out b hn)
   have HC2 := Lib.hid (HC1.out.below hb2 (Nat.le_refl _))
   have hb12 := hb1.trans (hb2.mono hb1.size)
   obtain ⟨⟨k0, k1, f0, f1⟩, hbw⟩ := HKR.out w2 hb12
   clear hn hb1 hb2
   cases b
   · have hB : barS s = none := by
      rw [<- HQ.out]
      unfold barQ
      split <;> rfl
     have HB := Lib.hid hB
     clear hB
     go_wp2_with fail
     refine bodyPost_ret (v := .tuple #[.agg #[.int .i64 0, .int .i64 0], .bool false]) (by simp [results, Tryz.results145, go_sem, k0, k1]) rfl ?_
     refine ⟨⟨0, 0, by rw [HB.out]; rfl, fun x hx => ?_⟩, (hbw.setCell (Nat.le_refl _) _).setCell (Nat.le_refl _) _⟩
     rw [HB.out] at hx; cases hx
   · have hps : (∃ x, ps = [x]) ∨ ∃ x y, ps = [x, y] := by
      have hne : ps ≠ [] := by rw [HPS.out]; exact cutB_ne _
      match ps, hne, h2 with
      | [x], _, _ => exact .inl ⟨x, rfl⟩
      | [x, y], _, _ => exact .inr ⟨x, y, rfl⟩
      | _ :: _ :: _ :: _, _, h => simp at h
     have hlx : ∀ x ∈ ps, x.length <= 1048576 := fun x hx => by
      rw [HPS.out] at hx
      have h1 := cutB_len _ x hx
      have h2 : s.data.toList.length = s.size := rfl
      omega
     rcases hps with ⟨x, rfl⟩ | ⟨x, y, rfl⟩
     · obtain ⟨bb, off, rfl⟩ := HC2.out.addr (by simp [strs])
       have c0 : w2.cell? ⟨bb, off, none⟩ = some (.string ⟨x.toArray⟩) := HC2.out.at (j := 0) rfl
       have hna := fun W => refNatural_any ⟨x.toArray⟩ W (by rw [arr_size]; exact hlx x (by simp))
       have hB : barS s = (match natS x with | some n => if n <= 1 then some (n, 1) else none | none => none) := by
        rw [<- HQ.out]; unfold barQ; rw [<- HPS.out]; rfl
       have HNA := Lib.hid hna; have HB0 := Lib.hid hB
       clear hna hB hlx
       simp only [List.length_cons, List.length_nil] at *
       go_wp2_with fail
       refine (HNA.out w2).mono ?_
       rintro e w3 ⟨⟨n, rfl, hn⟩, rfl⟩
       rcases hnx : natS x with _ | m
       · have hB : barS s = none := by rw [HB0.out, hnx]
         have HB := Lib.hid hB
         clear hB hn
         simp only [Option.isSome_none]
         go_wp2_with fail
         refine bodyPost_ret (v := .tuple #[.agg #[.int .i64 n, .int .i64 1], .bool false]) (by simp [results, Tryz.results145, go_sem, k0, k1]) rfl ?_
         refine ⟨⟨n, 1, by rw [HB.out]; rfl, fun x hx => ?_⟩, (hbw.setCell (Nat.le_refl _) _).setCell (Nat.le_refl _) _⟩
         rw [HB.out] at hx; cases hx
       · obtain rfl : n = m := hn m hnx
         simp only [Option.isSome_some]
         by_cases hn1 : n <= 1
         · have hB : barS s = some (n, 1) := by rw [HB0.out, hnx]; show (if n <= 1 then _ else _) = _; rw [if_pos hn1]
           have HB := Lib.hid hB
           have hn1i : (n : Int) <= 1 := by omega
           clear hB hn
           go_wp2_with fail
           refine bodyPost_ret (v := .tuple #[.agg #[.int .i64 n, .int .i64 1], .bool true]) (by simp [results, Tryz.results145, go_sem, k0, k1]) rfl ?_
           refine ⟨⟨n, 1, by rw [HB.out]; rfl, fun x hx => ?_⟩, (hbw.setCell (Nat.le_refl _) _).setCell (Nat.le_refl _) _⟩
           rw [HB.out] at hx; exact Option.some.inj hx
         · have hB : barS s = none := by rw [HB0.out, hnx]; show (if n <= 1 then _ else _) = _; rw [if_neg hn1]
           have HB := Lib.hid hB
           have hn1i : ¬ ((n : Int) <= 1) := by omega
           clear hB hn
           go_wp2_with fail
           refine bodyPost_ret (v := .tuple #[.agg #[.int .i64 n, .int .i64 1], .bool false]) (by simp [results, Tryz.results145, go_sem, k0, k1]) rfl ?_
           refine ⟨⟨n, 1, by rw [HB.out]; rfl, fun x hx => ?_⟩, (hbw.setCell (Nat.le_refl _) _).setCell (Nat.le_refl _) _⟩
           rw [HB.out] at hx; cases hx
     · obtain ⟨bb, off, rfl⟩ := HC2.out.addr (by simp [strs])
       have c0 : w2.cell? ⟨bb, off, none⟩ = some (.string ⟨x.toArray⟩) := HC2.out.at (j := 0) rfl
       have c1 : w2.cell? ⟨bb, off + 1, none⟩ = some (.string ⟨y.toArray⟩) := HC2.out.at (j := 1) rfl
       have hna := fun W => refNatural_any ⟨x.toArray⟩ W (by rw [arr_size]; exact hlx x (by simp))
       have hnb := fun W => refNatural_any ⟨y.toArray⟩ W (by rw [arr_size]; exact hlx y (by simp))
       have hB : barS s = (match natS x, natS y with | some n, some d => if n <= d then some (n, d) else none | _, _ => none) := by
        rw [<- HQ.out]; unfold barQ; rw [<- HPS.out]; rfl
       have HNA := Lib.hid hna; have HNB := Lib.hid hnb; have HB0 := Lib.hid hB
       clear hna hnb hB hlx
       simp only [List.length_cons, List.length_nil] at *
       go_wp2_with fail
       refine (HNA.out w2).mono ?_
       rintro e w3 ⟨⟨n, rfl, hn⟩, rfl⟩
       go_wp2_with fail
       refine (HNB.out w2).mono ?_
       rintro e w3 ⟨⟨d, rfl, hd⟩, rfl⟩
       rcases hnx : natS x with _ | m
       · have hB : barS s = none := by rw [HB0.out, hnx]
         have HB := Lib.hid hB
         clear hB hn hd
         simp only [Option.isSome_none]
         go_wp2_with fail
         refine bodyPost_ret (v := .tuple #[.agg #[.int .i64 n, .int .i64 d], .bool false]) (by simp [results, Tryz.results145, go_sem, k0, k1]) rfl ?_
         refine ⟨⟨n, d, by rw [HB.out]; rfl, fun x hx => ?_⟩, (hbw.setCell (Nat.le_refl _) _).setCell (Nat.le_refl _) _⟩
         rw [HB.out] at hx; cases hx
       · obtain rfl : n = m := hn m hnx
         simp only [Option.isSome_some]
         rcases hny : natS y with _ | q
         · have hB : barS s = none := by rw [HB0.out, hnx, hny]
           have HB := Lib.hid hB
           clear hB hn hd
           simp only [Option.isSome_none]
           go_wp2_with fail
           refine bodyPost_ret (v := .tuple #[.agg #[.int .i64 n, .int .i64 d], .bool false]) (by simp [results, Tryz.results145, go_sem, k0, k1]) rfl ?_
           refine ⟨⟨n, d, by rw [HB.out]; rfl, fun x hx => ?_⟩, (hbw.setCell (Nat.le_refl _) _).setCell (Nat.le_refl _) _⟩
           rw [HB.out] at hx; cases hx
         · obtain rfl : d = q := hd q hny
           simp only [Option.isSome_some]
           by_cases hn1 : n <= d
           · have hB : barS s = some (n, d) := by rw [HB0.out, hnx, hny]; show (if n <= d then _ else _) = _; rw [if_pos hn1]
             have HB := Lib.hid hB
             clear hB hn hd
             go_wp2_with fail
             refine bodyPost_ret (v := .tuple #[.agg #[.int .i64 n, .int .i64 d], .bool true]) (by simp [results, Tryz.results145, go_sem, k0, k1]) rfl ?_
             refine ⟨⟨n, d, by rw [HB.out]; rfl, fun x hx => ?_⟩, (hbw.setCell (Nat.le_refl _) _).setCell (Nat.le_refl _) _⟩
             rw [HB.out] at hx; exact Option.some.inj hx
           · have hB : barS s = none := by rw [HB0.out, hnx, hny]; show (if n <= d then _ else _) = _; rw [if_neg hn1]
             have HB := Lib.hid hB
             clear hB hn hd
             go_wp2_with fail
             refine bodyPost_ret (v := .tuple #[.agg #[.int .i64 n, .int .i64 d], .bool false]) (by simp [results, Tryz.results145, go_sem, k0, k1]) rfl ?_
             refine ⟨⟨n, d, by rw [HB.out]; rfl, fun x hx => ?_⟩, (hbw.setCell (Nat.le_refl _) _).setCell (Nat.le_refl _) _⟩
             rw [HB.out] at hx; cases hx
end Go.Proofs.YtdpjdifoonfcdaaGreatDoor

namespace Go.Proofs.YtdpjdifoonfcdaaGreatDoor
open Go.RowKit
theorem rin2_any (n lo hi : Int) (w : World) :
 Calls Tryz.prog 210 #[.int .i64 n, .int .i64 lo, .int .i64 hi] w fun e w' => e = .returned (.bool (inB lo n hi)) /\ w = w' := by
 by_cases h1 : lo <= n
 · go_enter Tryz.func210, Tryz.ntmps210
   go_wp2
   go_ret
   exact ⟨ret_bool (by simp [inB]; try omega), rfl⟩
 · go_enter Tryz.func210, Tryz.ntmps210
   go_wp2
   go_ret
   exact ⟨ret_bool (by simp [inB]; try omega), rfl⟩
end Go.Proofs.YtdpjdifoonfcdaaGreatDoor

namespace Go.Proofs.YtdpjdifoonfcdaaGreatDoor
open Go.RowKit
set_option maxRecDepth 100000 in
set_option maxHeartbeats 4000000 in
theorem refFamily_any (L a b c d : Int) (w : World) :
 Calls Tryz.prog 143 #[.agg #[.int .i64 L, .int .i64 a, .int .i64 b, .int .i64 c, .int .i64 d]] w fun e w' => e = .returned (.bool (famOK L a b c d)) /\ Below w.heap.size w w' := by
 have hal := (Below.refl w.heap.size w).alloc (Nat.le_refl _) (.cells #[.int .i64 L, .int .i64 a, .int .i64 b, .int .i64 c, .int .i64 d] 43)
 have HAL := Lib.hid hal
 clear hal
 obtain ⟨R, hR⟩ : ∃ R, R = famOK L a b c d := ⟨_, rfl⟩
 rw [<- hR]
 have hin := fun (n lo hi : Int) (W : World) => rin2_any n lo hi W
 have HIN := Lib.hid hin
 clear hin
 unfold famOK at hR
 by_cases h1 : inB 4 L 64 = true
 · by_cases h2 : inB 0 a b = true
   · by_cases h3 : 63 < b
     · have e : R = false := by rw [hR]; simp only [inB, decide_eq_true_eq] at h1 h2; simp; omega
       subst e
       have H1 := Lib.hid h1; have H2 := Lib.hid h2
       clear hR h1 h2
       go_enter Tryz.func143, Tryz.ntmps143
       go_wp2_with fail
       refine (HIN.out _ _ _ _).mono ?_
       rintro e w1 ⟨rfl, rfl⟩
       rw [H1.out]
       go_wp2_with fail
       refine (HIN.out _ _ _ _).mono ?_
       rintro e w1 ⟨rfl, rfl⟩
       rw [H2.out]
       go_wp2_with fail
       go_ret
       exact ⟨rfl, HAL.out⟩
     · by_cases h4 : inB 0 c d = true
       · by_cases h5 : 63 < d
         · have e : R = false := by rw [hR]; simp only [inB, decide_eq_true_eq] at h1 h2 h4; simp; omega
           subst e
           have H1 := Lib.hid h1; have H2 := Lib.hid h2; have H4 := Lib.hid h4
           clear hR h1 h2 h4
           go_enter Tryz.func143, Tryz.ntmps143
           go_wp2_with fail
           refine (HIN.out _ _ _ _).mono ?_
           rintro e w1 ⟨rfl, rfl⟩
           rw [H1.out]
           go_wp2_with fail
           refine (HIN.out _ _ _ _).mono ?_
           rintro e w1 ⟨rfl, rfl⟩
           rw [H2.out]
           go_wp2_with fail
           refine (HIN.out _ _ _ _).mono ?_
           rintro e w1 ⟨rfl, rfl⟩
           rw [H4.out]
           go_wp2_with fail
           go_ret
           exact ⟨rfl, HAL.out⟩
         · have hb : 0 <= a /\ a <= b /\ b < 64 /\ 0 <= c /\ c <= d /\ d < 64 := by simp only [inB, decide_eq_true_eq] at h2 h4; omega
           have e : R = decide ((b - a + 1) * (d - c + 1) <= 400) := by rw [hR, h1, decide_eq_true hb]; rfl
           obtain ⟨b1, b2, b3, b4, b5, b6⟩ := hb
           have m1 : 0 <= (b - a + 1) * (d - c + 1) := Int.mul_nonneg (by omega) (by omega)
           have m2 : (b - a + 1) * (d - c + 1) <= 64 * (d - c + 1) := Int.mul_le_mul_of_nonneg_right (by omega) (by omega)
           have w1 : IntKind.i64.wrap (b - a) = b - a := IntWalk.i64_in _ (by omega)
           have w2 : IntKind.i64.wrap (b - a + 1) = b - a + 1 := IntWalk.i64_in _ (by omega)
           have w3 : IntKind.i64.wrap (d - c) = d - c := IntWalk.i64_in _ (by omega)
           have w4 : IntKind.i64.wrap (d - c + 1) = d - c + 1 := IntWalk.i64_in _ (by omega)
           have w5 : IntKind.i64.wrap ((b - a + 1) * (d - c + 1)) = (b - a + 1) * (d - c + 1) := IntWalk.i64_in _ (by omega)
           have H1 := Lib.hid h1; have H2 := Lib.hid h2; have H4 := Lib.hid h4; have HE := Lib.hid e
           clear hR h1 h2 h4 e m1 m2 b1 b2 b3 b4 b5 b6
           go_enter Tryz.func143, Tryz.ntmps143
           go_wp2_with fail
           refine (HIN.out _ _ _ _).mono ?_
           rintro e w1 ⟨rfl, rfl⟩
           rw [H1.out]
           go_wp2_with fail
           refine (HIN.out _ _ _ _).mono ?_
           rintro e w1 ⟨rfl, rfl⟩
           rw [H2.out]
           go_wp2_with fail
           refine (HIN.out _ _ _ _).mono ?_
           rintro e w1 ⟨rfl, rfl⟩
           rw [H4.out]
           go_wp2_with fail
           go_ret
           exact ⟨ret_bool HE.out.symm, HAL.out⟩
       · have e : R = false := by rw [hR]; simp only [inB, decide_eq_true_eq] at h1 h2 h4; simp; omega
         have h4 : inB 0 c d = false := by simpa using h4
         subst e
         have H1 := Lib.hid h1; have H2 := Lib.hid h2; have H4 := Lib.hid h4
         clear hR h1 h2 h4
         go_enter Tryz.func143, Tryz.ntmps143
         go_wp2_with fail
         refine (HIN.out _ _ _ _).mono ?_
         rintro e w1 ⟨rfl, rfl⟩
         rw [H1.out]
         go_wp2_with fail
         refine (HIN.out _ _ _ _).mono ?_
         rintro e w1 ⟨rfl, rfl⟩
         rw [H2.out]
         go_wp2_with fail
         refine (HIN.out _ _ _ _).mono ?_
         rintro e w1 ⟨rfl, rfl⟩
         rw [H4.out]
         go_wp2_with fail
         go_ret
         exact ⟨rfl, HAL.out⟩
   · have e : R = false := by rw [hR]; simp only [inB, decide_eq_true_eq] at h1 h2; simp; omega
     have h2 : inB 0 a b = false := by simpa using h2
     subst e
     have H1 := Lib.hid h1; have H2 := Lib.hid h2
     clear hR h1 h2
     go_enter Tryz.func143, Tryz.ntmps143
     go_wp2_with fail
     refine (HIN.out _ _ _ _).mono ?_
     rintro e w1 ⟨rfl, rfl⟩
     rw [H1.out]
     go_wp2_with fail
     refine (HIN.out _ _ _ _).mono ?_
     rintro e w1 ⟨rfl, rfl⟩
     rw [H2.out]
     go_wp2_with fail
     go_ret
     exact ⟨rfl, HAL.out⟩
 · have h1 : inB 4 L 64 = false := by simpa using h1
   have e : R = false := by rw [hR, h1]; rfl
   subst e
   have H1 := Lib.hid h1
   clear hR h1
   go_enter Tryz.func143, Tryz.ntmps143
   go_wp2_with fail
   refine (HIN.out _ _ _ _).mono ?_
   rintro e w1 ⟨rfl, rfl⟩
   rw [H1.out]
   go_wp2_with fail
   go_ret
   exact ⟨rfl, HAL.out⟩
end Go.Proofs.YtdpjdifoonfcdaaGreatDoor

namespace Go.Proofs.YtdpjdifoonfcdaaGreatDoor
open Go.RowKit
theorem rin_any (n lo hi : Int) (w : World) :
 Calls Tryz.prog 210 #[.int .i64 n, .int .i64 lo, .int .i64 hi] w fun e w' => e = .returned (.bool (inB lo n hi)) /\ w = w' := by
 by_cases h1 : lo <= n
 · go_enter Tryz.func210, Tryz.ntmps210
   go_wp2
   go_ret
   exact ⟨ret_bool (by simp [inB]; try omega), rfl⟩
 · go_enter Tryz.func210, Tryz.ntmps210
   go_wp2
   go_ret
   exact ⟨ret_bool (by simp [inB]; try omega), rfl⟩
theorem refCheckChirp_any (L p q : Int) (w : World) :
 Calls Tryz.prog 211 #[.int .i64 L, .agg #[.int .i64 p, .int .i64 q]] w fun e w' => e = .returned (.int .i64 (wavE L p q)) /\ Below w.heap.size w w' := by
 have hE : wavE L p q = if waveOK L p q then 0 else 70 := rfl
 generalize wavE L p q = E at *
 cases h1 : inB 4 L 64
 · have HE : Hid (E = 70) := by rw [hE]; simp only [waveOK, h1]; exact Lib.hid rfl
   clear hE
   go_enter Tryz.func211, Tryz.ntmps211
   go_wp2_with (go_at_call 210; refine (rin_any _ _ _ _).mono ?_; rintro e w' ⟨rfl, rfl⟩)
   go_ret
   exact ⟨by rw [HE.out]; rfl, (Below.refl _ _).alloc (Nat.le_refl _) _⟩
 cases h2 : inB 0 p 63
 · have HE : Hid (E = 70) := by rw [hE]; simp only [waveOK, h1, h2]; exact Lib.hid rfl
   clear hE
   go_enter Tryz.func211, Tryz.ntmps211
   go_wp2_with (go_at_call 210; refine (rin_any _ _ _ _).mono ?_; rintro e w' ⟨rfl, rfl⟩)
   go_ret
   exact ⟨by rw [HE.out]; rfl, (Below.refl _ _).alloc (Nat.le_refl _) _⟩
 cases h3 : inB 0 q 63
 · have HE : Hid (E = 70) := by rw [hE]; simp only [waveOK, h1, h2, h3]; exact Lib.hid rfl
   clear hE
   go_enter Tryz.func211, Tryz.ntmps211
   go_wp2_with (go_at_call 210; refine (rin_any _ _ _ _).mono ?_; rintro e w' ⟨rfl, rfl⟩)
   go_ret
   exact ⟨by rw [HE.out]; rfl, (Below.refl _ _).alloc (Nat.le_refl _) _⟩
 · have HE : Hid (E = 0) := by rw [hE]; simp only [waveOK, h1, h2, h3]; exact Lib.hid rfl
   clear hE
   go_enter Tryz.func211, Tryz.ntmps211
   go_wp2_with (go_at_call 210; refine (rin_any _ _ _ _).mono ?_; rintro e w' ⟨rfl, rfl⟩)
   go_ret
   exact ⟨by rw [HE.out]; rfl, (Below.refl _ _).alloc (Nat.le_refl _) _⟩
theorem cells_block (w : World) (cs : List Value) (T : TypeId) : Cells (w.alloc (.cells cs.toArray T)) (some ⟨w.heap.size, 0, none⟩) cs :=
 .inr ⟨w.heap.size, 0, rfl, fun j u hu => by
  rw [cell_of_row _ _ _ _ _ _ (heap_alloc_new _ _), Nat.zero_add]; simpa using hu⟩
theorem refQuarter_any (w : World) :
 Calls Tryz.prog 251 #[] w fun e w' => (∃ b, e = .returned (.slice (some ⟨b, 0, none⟩) 17 17) /\ Cells w' (some ⟨b, 0, none⟩) (quart.map (Value.int .i64))) /\ Below w.heap.size w w' := by
 have hc := cells_block w (quart.map (Value.int .i64)) 3
 have HC := Lib.hid hc; clear hc
 go_enter Tryz.func251, Tryz.ntmps251
 go_wp2
 go_ret
 exact ⟨⟨_, rfl, HC.out⟩, (Below.refl _ _).alloc (Nat.le_refl _) _⟩
set_option maxRecDepth 100000 in
theorem refTable_low (k : Nat) (w : World) (h : k < 32) :
 Calls Tryz.prog 216 #[.int .i64 k] w fun e w' => e = .returned (.int .i64 (half0 k)) /\ Below w.heap.size w w' := by
 by_cases h2 : k <= 16
 · obtain ⟨x, hx⟩ := get_of_lt (show k < quart.length by simp [quart]; omega)
   have hh : half0 k = x := by simp only [half0, Int.toNat_natCast]; rw [if_pos (by omega), List.getD_eq_getElem?_getD, hx]; rfl
   have HX := Lib.hid hx; have HH := Lib.hid hh
   clear hx hh
   go_enter Tryz.func216, Tryz.ntmps216
   go_wp2_with (go_at_call 251; refine (refQuarter_any _).mono ?_; rintro e w1 ⟨⟨b, rfl, hc⟩, hb⟩; have hcx := hc.int HX.out; rw [Nat.zero_add] at hcx; have HC := Lib.hid hc; clear hc)
   go_ret
   exact ⟨by rw [HH.out]; rfl, hb⟩
 · obtain ⟨x, hx⟩ := get_of_lt (show 32 - k < quart.length by simp [quart]; omega)
   have hh : half0 k = x := by simp only [half0]; rw [if_neg (by omega), show (32 - (k : Int)).toNat = 32 - k by omega, List.getD_eq_getElem?_getD, hx]; rfl
   have e1 : (32 - (k : Int)).toNat = 32 - k := by omega
   have HX := Lib.hid hx; have HH := Lib.hid hh
   clear hx hh
   go_enter Tryz.func216, Tryz.ntmps216
   go_wp2_with (go_at_call 251; refine (refQuarter_any _).mono ?_; rintro e w1 ⟨⟨b, rfl, hc⟩, hb⟩; have hcx := hc.int HX.out; rw [Nat.zero_add] at hcx; have HC := Lib.hid hc; clear hc)
   go_ret
   exact ⟨by rw [HH.out]; rfl, hb⟩
set_option maxRecDepth 100000 in
theorem refTable_any (k : Nat) (w : World) (h : k < 64) :
 Calls Tryz.prog 216 #[.int .i64 k] w fun e w' => e = .returned (.int .i64 (tab k)) /\ Below w.heap.size w w' := by
 by_cases h1 : k < 32
 · have e : tab k = half0 k := by simp only [tab]; rw [show (k : Int) % 64 = k by omega, if_pos (by omega)]
   rw [e]
   exact refTable_low k w h1
 · have e : tab k = -half0 ((k - 32 : Nat) : Int) := by simp only [tab]; rw [show (k : Int) % 64 = k by omega, if_neg (by omega), show (k : Int) - 32 = ((k - 32 : Nat) : Int) by omega]
   have hlow := fun w => refTable_low (k - 32) w (by omega)
   rw [<- show (k : Int) - 32 = ((k - 32 : Nat) : Int) by omega] at hlow e
   have hb := half0_pos ((k : Int) - 32)
   generalize half0 ((k : Int) - 32) = y at *
   have HL := Lib.hid hlow; have HE := Lib.hid e
   clear hlow e
   go_enter Tryz.func216, Tryz.ntmps216
   go_wp2_with (go_at_call 216; refine (HL.out _).mono ?_; rintro e w1 ⟨rfl, hb1⟩)
   go_ret
   exact ⟨by rw [HE.out]; rfl, hb1⟩
end Go.Proofs.YtdpjdifoonfcdaaGreatDoor

namespace Go.Proofs.YtdpjdifoonfcdaaGreatDoor
open Go.RowKit
theorem tab_mod (x : Nat) : tab ((x % 64 : Nat) : Int) = tab x := by
 unfold tab
 rw [show ((x % 64 : Nat) : Int) % 64 = (x : Int) % 64 by omega]
theorem wav_take {L p q : Int} {k : Nat} (h : k < L.toNat) (hL : L <= 64) : ((wav L p q).take (k + 1)) = (wav L p q).take k ++ [tab (p.toNat * k + q.toNat * k * k : Nat)] := by
 have hk : (wav L p q)[k]? = some (tab (p.toNat * k + q.toNat * k * k : Nat)) := by
  unfold wav
  rw [smp_at _ _ _ _ (by omega), if_pos h]
 exact take_get hk
set_option maxRecDepth 100000 in
set_option maxHeartbeats 2000000 in
theorem refWaveO_any (L p q : Int) (w : World) (h : waveOK L p q = true) :
 Calls Tryz.prog 147 #[.int .i64 L, .agg #[.int .i64 p, .int .i64 q]] w fun e w' => (∃ v, e = .returned v /\ w'.ownsRow (w.heap.size + 1) 3 1 v L.toNat (((wav L p q).take L.toNat).map (Value.int .i64))) /\ Below w.heap.size w w' := by
 have hL := waveOK_true h
 obtain ⟨M, hM⟩ : ∃ M : Nat, L = (M : Int) := ⟨L.toNat, by omega⟩
 obtain ⟨P, hP⟩ : ∃ P : Nat, p = (P : Int) := ⟨p.toNat, by omega⟩
 obtain ⟨Q, hQ⟩ : ∃ Q : Nat, q = (Q : Int) := ⟨q.toNat, by omega⟩
 have hMt : L.toNat = M := by omega
 have hw : ∀ k, k < M -> (wav L p q).take (k + 1) = (wav L p q).take k ++ [tab (P * k + Q * k * k : Nat)] := by
  intro k hk
  have := wav_take (p := p) (q := q) (show k < L.toNat by omega) (by omega)
  rwa [show p.toNat = P by omega, show q.toNat = Q by omega] at this
 rw [hMt]
 generalize wav L p q = xs at *
 have b0 : P <= 63 /\ Q <= 63 /\ M <= 64 /\ 4 <= M := by omega
 subst hM; subst hP; subst hQ
 clear h hL hMt
 obtain ⟨b1, b2, b3, b4⟩ := b0
 obtain ⟨i0, hi, hz0, hz1, hz2⟩ := info_parts Tryz.infoInt
 have HW := Lib.hid hw; clear hw
 go_enter Tryz.func147, Tryz.ntmps147
 go_wp2
 go_loopw [5, 6] (fun v i wr => ∃ k : Nat, k <= M /\ i = .int .i64 (k : Int) /\ wr.ownsRow (w.heap.size + 1) 3 1 v k ((xs.take k).map (Value.int .i64)) /\ Below (w.heap.size + 1) (w.alloc (.cells #[.int .i64 (P : Int), .int .i64 (Q : Int)] 23)) wr) (fun _ i _ => M - (intOf i).toNat)
 case atStart => exact ⟨0, Nat.zero_le _, rfl, World.ownsRow_nil _ _ _ _, Below.refl _ _⟩
 case round =>
  obtain ⟨k, hk, rfl, hown, hb⟩ := hrel
  have hc0 : wr.cell? ⟨w.heap.size, 0, none⟩ = some (.int .i64 (P : Int)) := box_keep hb (by simp) 0
  have hc1 : wr.cell? ⟨w.heap.size, 1, none⟩ = some (.int .i64 (Q : Int)) := box_keep hb (by simp) 1
  have hsz : w.heap.size + 1 <= wr.heap.size := by have := hb.size; simpa using this
  have hbw : Below w.heap.size w wr := ((Below.refl _ _).alloc (Nat.le_refl _) _).trans (hb.mono (by omega))
  by_cases hlt : k < M
  · have m1 : P * k <= 64 * 64 := Nat.mul_le_mul (by omega) (by omega)
    have m2 : Q * k <= 64 * 64 := Nat.mul_le_mul (by omega) (by omega)
    have m3 : Q * k * k <= 64 * 64 * 64 := Nat.mul_le_mul m2 (by omega)
    have c1 : 0 <= (P : Int) * k /\ (P : Int) * k <= 4096 := by rw [<- Int.natCast_mul]; omega
    have c2 : 0 <= (Q : Int) * k /\ (Q : Int) * k <= 4096 := by rw [<- Int.natCast_mul]; omega
    have c3 : 0 <= (Q : Int) * k * k /\ (Q : Int) * k * k <= 262144 := by rw [<- Int.natCast_mul, <- Int.natCast_mul]; omega
    have q1 : IntKind.i64.wrap ((P : Int) * k) = (P : Int) * k := IntWalk.i64_in _ (by omega)
    have q2 : IntKind.i64.wrap ((Q : Int) * k) = (Q : Int) * k := IntWalk.i64_in _ (by omega)
    have q3 : IntKind.i64.wrap ((Q : Int) * k * k) = (Q : Int) * k * k := IntWalk.i64_in _ (by omega)
    have q4 : IntKind.i64.wrap ((P : Int) * k + (Q : Int) * k * k) = (P : Int) * k + (Q : Int) * k * k := IntWalk.i64_in _ (by omega)
    obtain ⟨t, ht⟩ : ∃ t : Nat, t = (P * k + Q * k * k) % 64 := ⟨_, rfl⟩
    have q5 : ((P : Int) * k + (Q : Int) * k * k) % 64 = (t : Int) := by rw [ht]; push_cast; rfl
    have q6 : Int.tmod ((P : Int) * k + (Q : Int) * k * k) 64 = (t : Int) := by rw [Int.tmod_eq_emod_of_nonneg (by omega)]; exact q5
    have hy : tab (P * k + Q * k * k : Nat) = tab t := by rw [ht, tab_mod]
    have htb := fun w => refTable_any t w (by omega)
    have e1 : (xs.take (k + 1)).map (Value.int .i64) = (xs.take k).map (Value.int .i64) ++ [.int .i64 (tab t)] := by rw [HW.out k hlt, List.map_append, hy]; rfl
    have HT := Lib.hid htb; have E1 := Lib.hid e1
    have HOB : Hid (∀ j, u5.ownBlock = some j -> w.heap.size + 1 <= j) := fun j e => (hown.lt j e).1
    clear htb e1 hy ht m1 m2 m3
    generalize tab t = y at *
    go_wp2_with (first
     | (go_at_call 216; refine (HT.out _).mono ?_; rintro e w1 ⟨rfl, hb1⟩)
     | (at_builtin; refine wpList_append_own _ rfl _ _ 24 rfl (w.heap.size + 1) 3 i0 (.int .i64 0) 1 8 Tryz.underlying24 hi hz0 hz1 hz2 rfl (by decide) _ _ _ rfl ((own_belowK hown hb1 (Nat.le_refl _)).alloc _) ⟨w1.heap.size, 0, none⟩ 1 1 [.int .i64 y] rfl rfl (news1 _ _ _) (by simp [Value.oneCell']) (by unfold maxLen; omega) (by omega) (by have := hb1.size; simp; omega) ?_; intro v1 wz hown1 hgrow _))
    have hfin := hown1
    rw [<- E1.out] at hfin
    have hs1 := hb1.size
    have hbz := ((hb.trans (hb1.mono hsz)).alloc (by omega) (.cells #[.int .i64 y] 3)).grown hgrow (by simp; omega) HOB.out
    clear hown1 hgrow hown
    have HFIN := Lib.hid hfin; clear hfin
    go_roundw
    case rel => exact ⟨k + 1, by omega, by go_num, HFIN.out, hbz⟩
    case measure => simp [intOf]; omega
  · obtain rfl : k = M := by omega
    have HCS := Lib.hid hown; clear hown
    go_wp2
    go_ret
    exact ⟨⟨_, rfl, HCS.out⟩, hbw⟩
theorem refWaveL_any (L p q : Int) (w : World) (h : waveOK L p q = true) :
 Calls Tryz.prog 147 #[.int .i64 L, .agg #[.int .i64 p, .int .i64 q]] w fun e w' => (∃ b c, e = .returned (.slice b L.toNat c) /\ Cells w' b (((wav L p q).take L.toNat).map (Value.int .i64))) /\ Below w.heap.size w w' := by
 refine (refWaveO_any L p q w h).mono fun e w' ⟨⟨v, he, hv⟩, hb⟩ => ?_
 obtain ⟨a, c, rfl, hc⟩ := own_cells hv
 exact ⟨⟨a, c, he, hc⟩, hb⟩
set_option maxRecDepth 100000 in
set_option maxHeartbeats 2000000 in
theorem refNorm_any (xs : List Int) (L : Nat) (ao : Option Addr) (cap : Nat) (w : World) (hx : xs.length = 64) (hL : L <= 64) (h1 : ∀ x ∈ xs, -127 <= x /\ x <= 127) (hc : Cells w ao ((xs.take L).map (Value.int .i64))) :
 Calls Tryz.prog 146 #[.slice ao L cap] w fun e w' => e = .returned (.int .i64 (sqTo xs 0 L)) /\ Below w.heap.size w w' := by
 have hp : Calls Tryz.prog 215 #[.slice ao L cap, .slice ao L cap] w fun e w' => e = .returned (.int .i64 (sqTo xs 0 L)) /\ Below w.heap.size w w' := by
  have HC := Lib.hid hc; have H1 := Lib.hid h1
  clear hc h1
  go_enter Tryz.func215, Tryz.ntmps215
  go_wp2
  go_loopw [5, 6] (fun s i wr => ∃ k : Nat, k <= L /\ i = .int .i64 (k : Int) /\ s = .int .i64 (sqTo xs 0 k) /\ Below w.heap.size w wr) (fun _ i _ => L - (intOf i).toNat)
  case atStart => exact ⟨0, Nat.zero_le _, rfl, rfl, Below.refl _ _⟩
  case round =>
   obtain ⟨k, hk, rfl, rfl, hb⟩ := hrel
   by_cases hlt : k < L
   · obtain ⟨x, hxx⟩ := get_of_lt (show k < xs.length by omega)
     have hxt : (xs.take L)[k]? = some x := by rw [List.getElem?_take, if_pos hlt]; exact hxx
     obtain ⟨b, off, rfl⟩ := HC.out.addr (by intro h; rw [List.map_eq_nil_iff] at h; rw [h] at hxt; simp at hxt)
     have hcx := cell_keep (HC.out.int hxt) hb (Nat.le_refl _)
     have m1 := H1.out x (List.mem_of_getElem? hxx)
     have pd := ov_prod m1.1 m1.2 m1.1 m1.2
     have bs := sqTo_bd H1.out 0 k
     have e1 : sqTo xs 0 (k + 1) = sqTo xs 0 k + x * x := by simp [sqTo, hxx]
     have E1 := Lib.hid e1; clear e1 hxx hxt
     have q1 : IntKind.i64.wrap (x * x) = x * x := IntWalk.i64_in _ (by omega)
     have q2 : IntKind.i64.wrap (sqTo xs 0 k + x * x) = sqTo xs 0 k + x * x := IntWalk.i64_in _ (by omega)
     have i1 : (k : Int) < L := by omega
     have i2 : (0 : Int) <= k := by omega
     go_wp2
     go_quiet (fail)
     clear q1 q2
     go_wp2
     go_roundw
     case rel => exact ⟨k + 1, by omega, by go_num, by rw [E1.out], bel_drewN hb _⟩
     case measure => simp [intOf]; omega
   · obtain rfl : k = L := by omega
     go_wp2
     go_ret
     exact ⟨rfl, hb⟩
 have HP := Lib.hid hp; clear hp hc h1
 go_enter Tryz.func146, Tryz.ntmps146
 go_wp2_with (go_at_call 215; refine HP.out.mono ?_; rintro e w1 ⟨rfl, hb1⟩)
 go_ret
 exact ⟨rfl, hb1⟩
end Go.Proofs.YtdpjdifoonfcdaaGreatDoor

namespace Go.Proofs.YtdpjdifoonfcdaaGreatDoor
open Go.RowKit
theorem ovl_sqTo (xs : List Int) (L : Nat) : ovl xs xs L 0 = sqTo xs 0 L := by
 rw [ovl_self, Int.toNat_natCast]
 induction L with
 | zero => rfl
 | succ n ih =>
   simp only [ovTo, sqTo, ih, Int.add_zero, Int.zero_add, Int.toNat_natCast, Nat.zero_add]
end Go.Proofs.YtdpjdifoonfcdaaGreatDoor

namespace Go.Proofs.YtdpjdifoonfcdaaGreatDoor
open Go.RowKit
theorem silent_zero {xs : List Int} (h : silentB xs = true) (L : Nat) : ovl xs xs L 0 = 0 := by
 have he : xs = smp 0 0 0 := by simpa [silentB] using h
 subst he
 have hz : ∀ i, (smp 0 0 0).getD i 0 = 0 := by
  intro i
  rw [List.getD_eq_getElem?_getD]
  by_cases hi : i < 64
  · rw [smp_at 0 0 0 i hi, if_neg (by omega)]; rfl
  · rw [List.getElem?_eq_none (by rw [smp_length]; omega)]; rfl
 rw [ovl_sqTo]
 induction L with
 | zero => rfl
 | succ n ih => simp only [sqTo]; rw [ih, hz]; rfl
end Go.Proofs.YtdpjdifoonfcdaaGreatDoor

namespace Go.Proofs.YtdpjdifoonfcdaaGreatDoor
open Go.RowKit
theorem norm_silent {L p q : Int} (hL : 0 <= L) : (sqTo (wav L p q) 0 L.toNat == 0) = silentB (wav L p q) := by
 cases hs : silentB (wav L p q) with
 | true =>
   have h := silent_zero hs L.toNat
   rw [ovl_sqTo] at h
   rw [h]; rfl
 | false =>
   have h := norm_pos hs
   have h2 := ovl_sqTo (wav L p q) L.toNat
   rw [show ((L.toNat : Nat) : Int) = L by omega] at h2
   rw [h2] at h
   rw [Bool.eq_false_iff]
   intro h3
   rw [beq_iff_eq] at h3
   omega
theorem nodup_snoc {cs : List (Int × Int)} {k : Nat} {c : Int × Int} (h : cs[k]? = some c) (hn : (cs.take k).Nodup) (hm : c ∉ cs.take k) : (cs.take (k + 1)).Nodup := by
 rw [take_get h, List.nodup_append]
 refine ⟨hn, by simp, fun a ha b hb => ?_⟩
 rw [List.mem_singleton] at hb
 subst hb
 intro e
 subst e
 exact hm ha
set_option maxRecDepth 100000 in
set_option maxHeartbeats 4000000 in
theorem refBank_any (L : Int) (cs : List (Int × Int)) (ao : Option Addr) (cap : Nat) (w : World) (hc : Cells w ao (prs cs)) (hl : cs.length <= 9223372036854775807) :
 Calls Tryz.prog 144 #[.int .i64 L, .slice ao cs.length cap] w fun e w' => e = .returned (.bool (bankOK L cs)) /\ Below w.heap.size w w' := by
 have HC := Lib.hid hc; clear hc
 go_enter Tryz.func144, Tryz.ntmps144
 go_wp2_with fail
 go_loopw [5] (fun iv wr => ∃ k : Nat, k <= cs.length /\ iv = .int .i64 k /\ (cs.take k).all (chOK L) = true /\ (cs.take k).Nodup /\ Below w.heap.size w wr) (fun iv _ => cs.length - (intOf iv).toNat)
 case atStart => exact ⟨0, Nat.zero_le _, rfl, by simp, by simp, Below.refl _ _⟩
 case round =>
  obtain ⟨k, hk, rfl, hall, hnd, hbe⟩ := hrel
  have HALL := Lib.hid hall; have HND := Lib.hid hnd
  clear hall hnd
  by_cases hlt : k < cs.length
  · obtain ⟨⟨p, q⟩, hx⟩ := get_of_lt hlt
    obtain ⟨b, off, rfl⟩ := HC.out.addr (prs_ne (by omega))
    have c1 := cell_keep (HC.out.at (prs_fst hx)) hbe (Nat.le_refl _)
    have c2 := cell_keep (HC.out.at (prs_snd hx)) hbe (Nat.le_refl _)
    rw [<- Nat.add_assoc] at c2
    simp only at c1 c2
    have hck := fun W => refCheckChirp_any L p q W
    have i1 : (k : Int) < (cs.length : Int) := by omega
    have i2 : (0 : Int) <= (k : Int) := by omega
    have HX := Lib.hid hx
    clear hx
    cases hok : waveOK L p q with
    | false =>
      have hE : wavE L p q = 70 := by unfold wavE; rw [hok]; rfl
      have hbo : bankOK L cs = false := bankOK_not HX.out (.inl (by rw [chOK, hok]; rfl))
      rw [hE] at hck
      have HCK := Lib.hid hck; have HBO := Lib.hid hbo
      clear hck hbo hok hE
      go_wp2_with fail
      refine (HCK.out _).mono ?_
      rintro e w1 ⟨rfl, hb1⟩
      go_wp2_with fail
      go_ret
      exact ⟨ret_bool HBO.out.symm, hbe.trans (hb1.mono hbe.size)⟩
    | true =>
      have hE : wavE L p q = 0 := by unfold wavE; rw [hok]; rfl
      rw [hE] at hck
      have hL := waveOK_true hok
      have hwv := fun W => refWaveL_any L p q W hok
      have hnm := fun (ao : Option Addr) (c : Nat) (W : World) h => refNorm_any (wav L p q) L.toNat ao c W (wav_length _ _ _) (by omega) (wav_bd _ _ _) h
      have hns : (sqTo (wav L p q) 0 L.toNat == 0) = silentB (wav L p q) := norm_silent (by omega)
      have HCK := Lib.hid hck; have HWV := Lib.hid hwv; have HNM := Lib.hid hnm
      clear hck hwv hnm hE
      cases hsl : silentB (wav L p q) with
      | true =>
        rw [hsl] at hns
        have hbo : bankOK L cs = false := bankOK_not HX.out (.inl (by rw [chOK, hsl]; simp))
        have HBO := Lib.hid hbo
        generalize sqTo (wav L p q) 0 L.toNat = N at *
        clear hbo hsl hok
        go_wp2_with fail
        refine (HCK.out _).mono ?_
        rintro e w1 ⟨rfl, hb1⟩
        have hbe1 := hbe.trans (hb1.mono hbe.size)
        clear c1 c2
        have c1 := cell_keep (HC.out.at (prs_fst HX.out)) hbe1 (Nat.le_refl _)
        have c2 := cell_keep (HC.out.at (prs_snd HX.out)) hbe1 (Nat.le_refl _)
        rw [<- Nat.add_assoc] at c2
        simp only at c1 c2
        go_wp2_with fail
        refine (HWV.out _).mono ?_
        rintro e w2 ⟨⟨bw, cw, rfl, hcw⟩, hb2⟩
        have HCW := Lib.hid hcw
        clear hcw
        go_wp2_with fail
        refine (HNM.out _ _ _ HCW.out).mono ?_
        rintro e w3 ⟨rfl, hb3⟩
        have hbw := hbe1.trans ((hb2.trans (hb3.mono hb2.size)).mono hbe1.size)
        go_wp2_with fail
        go_ret
        exact ⟨ret_bool HBO.out.symm, hbw⟩
      | false =>
        rw [hsl] at hns
        have hch : (cs.take (k + 1)).all (chOK L) = true := by rw [take_get HX.out, List.all_append, HALL.out]; simp [chOK, hok, hsl]
        have HCH := Lib.hid hch
        generalize sqTo (wav L p q) 0 L.toNat = N at *
        clear hch hsl hok
        go_wp2_with fail
        refine (HCK.out _).mono ?_
        rintro e w1 ⟨rfl, hb1⟩
        have hbe1 := hbe.trans (hb1.mono hbe.size)
        clear c1 c2
        have c1 := cell_keep (HC.out.at (prs_fst HX.out)) hbe1 (Nat.le_refl _)
        have c2 := cell_keep (HC.out.at (prs_snd HX.out)) hbe1 (Nat.le_refl _)
        rw [<- Nat.add_assoc] at c2
        simp only at c1 c2
        go_wp2_with fail
        refine (HWV.out _).mono ?_
        rintro e w2 ⟨⟨bw, cw, rfl, hcw⟩, hb2⟩
        have HCW := Lib.hid hcw
        clear hcw
        go_wp2_with fail
        refine (HNM.out _ _ _ HCW.out).mono ?_
        rintro e w3 ⟨rfl, hb3⟩
        have hbw := hbe1.trans ((hb2.trans (hb3.mono hb2.size)).mono hbe1.size)
        clear c1 c2
        have d1 := cell_keep (HC.out.at (prs_fst HX.out)) hbw (Nat.le_refl _)
        have d2 := cell_keep (HC.out.at (prs_snd HX.out)) hbw (Nat.le_refl _)
        rw [<- Nat.add_assoc] at d2
        simp only at d1 d2
        have HBW := Lib.hid hbw
        clear hb1 hb2 hb3 hbe1 hbw
        go_wp2_with fail
        clear d1 d2 hns
        go_loopw [6] (fun jv wr => ∃ j : Nat, j <= k /\ jv = .int .i64 j /\ (p, q) ∉ cs.take j /\ Below w.heap.size w wr) (fun jv _ => k - (intOf jv).toNat)
        case atStart => exact ⟨0, Nat.zero_le _, rfl, by simp, HBW.out⟩
        case round =>
         obtain ⟨j, hj, rfl, hm, hbj⟩ := hrel
         have HM := Lib.hid hm
         clear hm
         by_cases hjk : j < k
         · obtain ⟨⟨r, s⟩, hy⟩ := get_of_lt (show j < cs.length by omega)
           have e1 := cell_keep (HC.out.at (prs_fst hy)) hbj (Nat.le_refl _)
           have e2 := cell_keep (HC.out.at (prs_snd hy)) hbj (Nat.le_refl _)
           have d1 := cell_keep (HC.out.at (prs_fst HX.out)) hbj (Nat.le_refl _)
           have d2 := cell_keep (HC.out.at (prs_snd HX.out)) hbj (Nat.le_refl _)
           rw [<- Nat.add_assoc] at e2 d2
           simp only at e1 e2 d1 d2
           have HY := Lib.hid hy
           clear hy
           have j1 : (j : Int) < (k : Int) := by omega
           have j2 : (0 : Int) <= (j : Int) := by omega
           have j3 : (j : Int) < (cs.length : Int) := by omega
           by_cases heq : r = p /\ s = q
           · obtain ⟨rfl, rfl⟩ := heq
             have hbo : bankOK L cs = false := bankOK_not HX.out (.inr (by
              rw [List.contains_iff_mem]
              exact List.mem_of_getElem? (i := j) (by rw [List.getElem?_take, if_pos hjk]; exact HY.out)))
             have HBO := Lib.hid hbo
             clear hbo
             go_wp2
             go_quiet (fail)
             go_wp2
             go_ret
             exact ⟨ret_bool HBO.out.symm, bel_drewN hbj _⟩
           · have hm2 : (p, q) ∉ cs.take (j + 1) := by
              rw [take_get HY.out, List.mem_append, List.mem_singleton]
              rintro (h | h)
              · exact HM.out h
              · cases h; exact heq ⟨rfl, rfl⟩
             have HM2 := Lib.hid hm2
             clear hm2
             by_cases hr : r = p
             · subst hr
               have hb1 : (s == q) = false := by simpa using heq
               clear heq
               go_wp2
               go_quiet (fail)
               go_wp2
               go_roundw
               case rel => exact ⟨j + 1, by omega, by go_num, HM2.out, bel_drewN hbj _⟩
               case measure => simp [intOf]; omega
             · have hb1 : (r == p) = false := by simpa using hr
               clear heq hr
               go_wp2
               go_quiet (fail)
               go_wp2
               go_roundw
               case rel => exact ⟨j + 1, by omega, by go_num, HM2.out, bel_drewN hbj _⟩
               case measure => simp [intOf]; omega
         · obtain rfl : j = k := by omega
           have hnd2 := nodup_snoc HX.out HND.out HM.out
           have HN2 := Lib.hid hnd2
           have j1 : ¬ ((j : Int) < (j : Int)) := by omega
           clear hnd2
           go_wp2
           go_roundw
           case rel => exact ⟨j + 1, by omega, by go_num, HCH.out, HN2.out, hbj⟩
           case measure => simp [intOf]; omega
  · obtain rfl : k = cs.length := by omega
    have hb : bankOK L cs = decide (cs.length <= 64) := by
     have h1 := HALL.out
     have h2 := HND.out
     rw [List.take_length] at h1 h2
     simp [bankOK, h1, h2]
    have HB := Lib.hid hb
    have i1 : ¬ ((cs.length : Int) < (cs.length : Int)) := by omega
    clear hb
    have he : decide ((cs.length : Int) <= 64) = decide (cs.length <= 64) := by rw [Bool.eq_iff_iff, decide_eq_true_iff, decide_eq_true_iff]; omega
    have HE := Lib.hid he
    clear he
    go_wp2
    go_ret
    exact ⟨ret_bool (by first | exact HE.out.trans HB.out.symm | (rw [HB.out]; simp; omega)), hbe⟩
end Go.Proofs.YtdpjdifoonfcdaaGreatDoor

namespace Go.Proofs.YtdpjdifoonfcdaaGreatDoor
open Go.RowKit
set_option maxRecDepth 100000 in
set_option maxHeartbeats 4000000 in
theorem refPoints_any (L a b c d : Int) (w : World) (hf : famOK L a b c d = true) :
 Calls Tryz.prog 77 #[.agg #[.int .i64 L, .int .i64 a, .int .i64 b, .int .i64 c, .int .i64 d]] w fun e w' => (∃ b' c', e = .returned (.slice b' (ptsAll L a c (d - c + 1).toNat (b - a + 1).toNat).length c') /\ Cells w' b' (prs (pairsOf (ptsAll L a c (d - c + 1).toNat (b - a + 1).toNat)))) /\ Below w.heap.size w w' := by
 have hfm := fam_true hf
 obtain ⟨i0, hi, hz0, hz1, hz2⟩ := info_parts Tryz.infoChirp
 obtain ⟨m, hm⟩ : ∃ m : Nat, m = (d - c + 1).toNat := ⟨_, rfl⟩
 obtain ⟨k, hk⟩ : ∃ k : Nat, k = (b - a + 1).toNat := ⟨_, rfl⟩
 rw [<- hm, <- hk] at hfm
 rw [<- hm, <- hk]
 have hd : d = c + m - 1 := by omega
 have hbb : b = a + k - 1 := by omega
 obtain ⟨l1, l2, a1, a2, a3, c1, c2, c3, h400⟩ := hfm
 obtain ⟨W0, hW0⟩ : ∃ W0, w.alloc (.cells #[.int .i64 L, .int .i64 a, .int .i64 b, .int .i64 c, .int .i64 d] 43) = W0 := ⟨_, rfl⟩
 have hb0 : Below w.heap.size w W0 := by rw [<- hW0]; exact (Below.refl _ w).alloc (Nat.le_refl _) _
 have hs0 : W0.heap.size = w.heap.size + 1 := by rw [<- hW0]; simp
 have q0 : Blk W0 w.heap.size 43 #[.int .i64 L, .int .i64 a, .int .i64 b, .int .i64 c, .int .i64 d] := by rw [<- hW0]; exact heap_alloc_new w _
 have hkr : ∀ W, Below W0.heap.size W0 W -> (W.cell? ⟨w.heap.size, 0, none⟩ = some (.int .i64 L) /\ W.cell? ⟨w.heap.size, 1, none⟩ = some (.int .i64 a) /\ W.cell? ⟨w.heap.size, 2, none⟩ = some (.int .i64 b) /\ W.cell? ⟨w.heap.size, 3, none⟩ = some (.int .i64 c) /\ W.cell? ⟨w.heap.size, 4, none⟩ = some (.int .i64 d)) /\ Below w.heap.size w W := fun W h => by
  have hq := q0.below h (by omega)
  exact ⟨⟨hq.cell 0, hq.cell 1, hq.cell 2, hq.cell 3, hq.cell 4⟩, hb0.trans (h.mono hb0.size)⟩
 have HKR := Lib.hid hkr; have HW0 := Lib.hid hW0; have HM := Lib.hid hm; have HK := Lib.hid hk; have HDD := Lib.hid hd; have HBB := Lib.hid hbb
 obtain ⟨⟨k0, k1, k2, k3, k4⟩, -⟩ := HKR.out W0 (Below.refl _ _)
 rw [<- HW0.out] at k0 k1 k2 k3 k4
 clear hkr hb0 q0 hW0 hm hk hd hbb hf
 go_enter Tryz.func77, Tryz.ntmps77
 go_wp2_with fail
 rw [HW0.out]
 clear k0 k1 k2 k3 k4
 go_loopw [3, 4] (fun ov pv wr => ∃ j : Nat, j <= k /\ pv = .int .i64 (a + j) /\ wr.ownsRow W0.heap.size 23 2 ov (ptsAll L a c m j).length (prs (pairsOf (ptsAll L a c m j))) /\ Below W0.heap.size W0 wr) (fun _ pv _ => (b + 1 - intOf pv).toNat)
 case atStart => exact ⟨0, Nat.zero_le _, by simp, World.ownsRow_nil _ _ _ _, Below.refl _ _⟩
 case round =>
  obtain ⟨j, hj, rfl, hown, hbe⟩ := hrel
  obtain ⟨⟨k0, k1, k2, k3, k4⟩, hbw⟩ := HKR.out wr hbe
  have HOWN := Lib.hid hown
  clear hown
  by_cases hjk : j < k
  · have i1 : a + (j : Int) <= b := by have := HBB.out; omega
    have hjp : 0 <= a + (j : Int) /\ a + (j : Int) <= 63 := by omega
    generalize hP : a + (j : Int) = P at *
    have hPj : P = a + (j : Int) := hP.symm
    have HPJ := Lib.hid hPj
    clear hP hPj
    go_wp2_with fail
    have HKK : Hid (P <= b) := Lib.hid i1
    have HWK : Hid (Below W0.heap.size W0 wr) := Lib.hid hbe
    clear hbe hbw k0 k1 k2 k3 k4 i1
    go_loopw [3, 5] (fun ov qv wr => ∃ i : Nat, i <= m /\ qv = .int .i64 (c + i) /\ wr.ownsRow W0.heap.size 23 2 ov (ptsTo L a c m j i).length (prs (pairsOf (ptsTo L a c m j i))) /\ Below W0.heap.size W0 wr) (fun _ qv _ => (d + 1 - intOf qv).toNat)
    case atStart => exact ⟨0, Nat.zero_le _, by simp, by rw [ptsTo_zero]; exact HOWN.out, HWK.out⟩
    case round =>
     obtain ⟨i, hi', rfl, hown, hbe⟩ := hrel
     obtain ⟨⟨k0, k1, k2, k3, k4⟩, hbw⟩ := HKR.out wr hbe
     have HOB : Hid (∀ j, u3.ownBlock = some j -> W0.heap.size <= j) := fun j e => (hown.lt j e).1
     have HO := Lib.hid hown
     clear hown
     by_cases him : i < m
     · have i1 : c + (i : Int) <= d := by have := HDD.out; omega
       have hqp : 0 <= c + (i : Int) /\ c + (i : Int) <= 63 := by omega
       have hts := ptsTo_succ L a c m j i
       have htl := ptsTo_len L a c m hjk him
       rw [<- HPJ.out] at hts
       generalize hQ : c + (i : Int) = Q at *
       have hok : waveOK L P Q = true := by simp only [waveOK, inB, Bool.and_eq_true, decide_eq_true_eq]; omega
       have hwv := fun W => refWaveL_any L P Q W hok
       have hnm := fun (ao : Option Addr) (c : Nat) (W : World) h => refNorm_any (wav L P Q) L.toNat ao c W (wav_length _ _ _) (by omega) (wav_bd _ _ _) h
       have hnn := norm_nn (wav L P Q) L
       have hns : (sqTo (wav L P Q) 0 L.toNat == 0) = silentB (wav L P Q) := norm_silent (by omega)
       have hov := ovl_sqTo (wav L P Q) L.toNat
       rw [show ((L.toNat : Nat) : Int) = L by omega] at hov
       rw [hov] at hnn
       have HWV := Lib.hid hwv; have HNM := Lib.hid hnm; have HTS := Lib.hid hts
       have HQ : Hid (Q + 1 = c + ((i + 1 : Nat) : Int)) := Lib.hid (by rw [<- hQ]; omega)
       obtain ⟨wq, hwq⟩ : ∃ wq, wr.alloc (.cells #[.int .i64 P, .int .i64 Q] 23) = wq := ⟨_, rfl⟩
       have hbq : Below wr.heap.size wr wq := by rw [<- hwq]; exact (Below.refl wr.heap.size wr).alloc (Nat.le_refl _) _
       have hsq : wq.heap.size = wr.heap.size + 1 := by rw [<- hwq]; simp
       have hkq : Blk wq wr.heap.size 23 #[.int .i64 P, .int .i64 Q] := by rw [<- hwq]; exact heap_alloc_new wr _
       have hbeq := hbe.trans (hbq.mono hbe.size)
       obtain ⟨⟨y0, y1, y2, y3, y4⟩, -⟩ := HKR.out wq hbeq
       have z0 : wq.cell? ⟨wr.heap.size, 0, none⟩ = some (.int .i64 P) := hkq.cell 0
       have z1 : wq.cell? ⟨wr.heap.size, 1, none⟩ = some (.int .i64 Q) := hkq.cell 1
       have HBQ := Lib.hid hbq; have HKQ := Lib.hid hkq; have HBE := Lib.hid hbe
       clear hwv hnm hov hts hQ hok hbq hkq hbeq hbw k0 k1 k3
       cases hsl : silentB (wav L P Q) with
       | true =>
         rw [hsl] at hns
         have hN : sqTo (wav L P Q) 0 L.toNat = 0 := by simpa using hns
         have hpt : ptsAt L P Q = [] := ptsAt_no (fun h => by rw [h.2] at hsl; cases hsl)
         rw [hpt, List.append_nil] at HTS
         rw [hN] at HNM
         clear hns hN hpt hnn hsl
         go_wp2_with fail
         refine (HWV.out _).mono ?_
         rintro e w2 ⟨⟨bw, cw, rfl, hcw⟩, hb2⟩
         have HCW := Lib.hid hcw
         clear hcw hwq y0 y1 y2 y3 y4 z0 z1
         go_wp2_with fail
         refine (HNM.out _ _ _ HCW.out).mono ?_
         rintro e w3 ⟨rfl, hb3⟩
         have hbq3 := hb2.trans (hb3.mono hb2.size)
         have hbr := HBQ.out.trans (hbq3.mono HBQ.out.size)
         have hbe3 := HBE.out.trans (hbr.mono HBE.out.size)
         have hown3 := own_belowK HO.out hbr (Nat.le_refl _)
         rw [<- HTS.out] at hown3
         go_wp2_with fail
         go_roundw
         case rel => exact ⟨i + 1, by omega, by first | rfl | (rw [<- HQ.out]) | (rw [HQ.out]), hown3, hbe3⟩
         case measure => simp [intOf]; omega
       | false =>
         rw [hsl] at hns
         have hN : (0 : Int) < sqTo (wav L P Q) 0 L.toNat := by
          have : sqTo (wav L P Q) 0 L.toNat ≠ 0 := by simpa using hns
          omega
         have hpt : ptsAt L P Q = [⟨(P, Q), ⟨by simp only [waveOK, inB, Bool.and_eq_true, decide_eq_true_eq]; omega, hsl⟩⟩] := ptsAt_yes _
         rw [hpt] at HTS
         clear hns hpt hnn
         generalize sqTo (wav L P Q) 0 L.toNat = NN at *
         go_wp2_with fail
         refine (HWV.out _).mono ?_
         rintro e w2 ⟨⟨bw, cw, rfl, hcw⟩, hb2⟩
         have HCW := Lib.hid hcw
         clear hcw hwq y0 y1 y2 y3 y4 z0 z1
         go_wp2_with fail
         refine (HNM.out _ _ _ HCW.out).mono ?_
         rintro e w3 ⟨rfl, hb3⟩
         have hbq3 := hb2.trans (hb3.mono hb2.size)
         have hbr := HBQ.out.trans (hbq3.mono HBQ.out.size)
         have hbe3 := HBE.out.trans (hbr.mono HBE.out.size)
         have hown3 := own_belowK HO.out hbr (Nat.le_refl _)
         have hk3 := HKQ.out.below hbq3 (by omega)
         have z0 : w3.cell? ⟨wr.heap.size, 0, none⟩ = some (.int .i64 P) := hk3.cell 0
         have z1 : w3.cell? ⟨wr.heap.size, 1, none⟩ = some (.int .i64 Q) := hk3.cell 1
         have hlen : (ptsTo L a c m j i).length <= 400 := by omega
         have hz3 := hbe3.size
         clear hk3
         go_wp2_with (at_builtin; refine wpList_append_own _ rfl _ _ 44 rfl W0.heap.size 23 i0 (.agg #[.int .i64 0, .int .i64 0]) 2 16 Tryz.underlying44 hi hz0 hz1 hz2 rfl (by decide) _ _ _ rfl (hown3.alloc _) ⟨w3.heap.size, 0, none⟩ 1 1 [.int .i64 P, .int .i64 Q] rfl rfl (cells_two_new _ _ _ _) (by simp [Value.oneCell']) (by unfold maxLen; omega) (by omega) (by simp; omega) ?_; intro v1 wz hown1 hgrow _)
         have hfin := hown1
         rw [show prs (pairsOf (ptsTo L a c m j i)) ++ [.int .i64 P, .int .i64 Q] = prs (pairsOf (ptsTo L a c m j (i + 1))) from by rw [HTS.out, prs_pairs_snoc], show (ptsTo L a c m j i).length + 1 = (ptsTo L a c m j (i + 1)).length from by rw [HTS.out, List.length_append]; rfl] at hfin
         have hbz := (hbe3.alloc hbe3.size (.cells #[.int .i64 P, .int .i64 Q] 23)).grown hgrow (by simp; have := hbe3.size; omega) HOB.out
         clear hown1 hgrow hown3 z0 z1
         have HFIN := Lib.hid hfin; clear hfin
         go_wp2_with fail
         go_roundw
         case rel => exact ⟨i + 1, by omega, by first | rfl | (rw [<- HQ.out]) | (rw [HQ.out]), HFIN.out, hbz⟩
         case measure => simp [intOf]; omega
     · obtain rfl : i = m := by omega
       have i1 : ¬ (c + (i : Int) <= d) := by have := HDD.out; omega
       have hfull := ptsTo_full L a c i j
       have hown2 := HO.out
       rw [hfull] at hown2
       have HO2 := Lib.hid hown2
       clear hfull hown2 hbw
       go_wp2_with fail
       go_roundw
       case rel => exact ⟨j + 1, by omega, by rw [HPJ.out]; first | rfl | (congr 1; omega) | (simp; omega), HO2.out, hbe⟩
       case measure => simp [intOf]; have := HKK.out; omega
  · obtain rfl : j = k := by omega
    have i1 : ¬ (a + (j : Int) <= b) := by have := HBB.out; omega
    obtain ⟨g, cc, rfl, hcs, -, -⟩ := own_cap HOWN.out
    have HCS := Lib.hid hcs
    clear hcs
    go_wp2_with fail
    go_ret
    exact ⟨⟨g, ⟨cc, rfl⟩, HCS.out⟩, hbw⟩
end Go.Proofs.YtdpjdifoonfcdaaGreatDoor

namespace Go.Proofs.YtdpjdifoonfcdaaGreatDoor
open Go.RowKit
def ovR (xs ys : List Int) (L : Nat) (s : Int) : Nat -> Int
 | 0 => 0
 | n + 1 => ovR xs ys L s n + if inB 0 ((n : Int) + s) ((L : Int) - 1) then xs.getD n 0 * ys.getD ((n : Int) + s).toNat 0 else 0
theorem ovR_eq (xs ys : List Int) (L : Nat) (s : Int) (n : Nat) (h : n <= L) : ovR xs ys L s n = ovTo xs ys s (max 0 (-s)) (min (n : Int) (min (L : Int) (L - s)) - max 0 (-s)).toNat := by
 induction n with
 | zero => rw [show (min ((0 : Nat) : Int) (min (L : Int) (L - s)) - max 0 (-s)).toNat = 0 by omega]; rfl
 | succ n ih =>
   simp only [ovR]
   rw [ih (by omega)]
   by_cases hin : inB 0 ((n : Int) + s) ((L : Int) - 1) = true
   · rw [if_pos hin]
     have h2 : 0 <= (n : Int) + s /\ (n : Int) + s <= (L : Int) - 1 := by simpa [inB] using hin
     obtain ⟨m, hm⟩ : ∃ m, m = (min (n : Int) (min (L : Int) (L - s)) - max 0 (-s)).toNat := ⟨_, rfl⟩
     rw [<- hm, show (min ((n + 1 : Nat) : Int) (min (L : Int) (L - s)) - max 0 (-s)).toNat = m + 1 by omega]
     simp only [ovTo]
     rw [show (max 0 (-s) + (m : Int)).toNat = n by omega, show max 0 (-s) + (m : Int) + s = (n : Int) + s by omega]
   · rw [if_neg hin, Int.add_zero]
     have h2 : ¬ (0 <= (n : Int) + s /\ (n : Int) + s <= (L : Int) - 1) := by simpa [inB] using hin
     congr 1
     omega
theorem ovR_full (xs ys : List Int) (L : Nat) (s : Int) : ovR xs ys L s L = ovl xs ys L s := by
 rw [ovR_eq _ _ _ _ _ (Nat.le_refl _)]
 unfold ovl
 congr 1
 omega
theorem ovR_bd {xs ys : List Int} (h1 : ∀ x ∈ xs, -127 <= x /\ x <= 127) (h2 : ∀ x ∈ ys, -127 <= x /\ x <= 127) (L : Nat) (s : Int) (n : Nat) : -(16129 * (n : Int)) <= ovR xs ys L s n /\ ovR xs ys L s n <= 16129 * (n : Int) := by
 induction n with
 | zero => simp [ovR]
 | succ n ih =>
   have g1 := getD_in (by omega) h1 n
   have g2 := getD_in (by omega) h2 ((n : Int) + s).toNat
   have := ov_prod g1.1 g1.2 g2.1 g2.2
   simp only [ovR]
   split <;> omega
set_option maxRecDepth 100000 in
set_option maxHeartbeats 4000000 in
theorem refOverlapL_any (xs ys : List Int) (L : Nat) (s : Int) (ao : Option Addr) (ca : Nat) (bo : Option Addr) (cb : Nat) (w : World) (hx : xs.length = 64) (hy : ys.length = 64) (hL1 : 1 <= L) (hL : L <= 64) (hs1 : -1000 <= s) (hs2 : s <= 1000) (h1 : ∀ x ∈ xs, -127 <= x /\ x <= 127) (h2 : ∀ x ∈ ys, -127 <= x /\ x <= 127)
 (hc : Cells w ao ((xs.take L).map (Value.int .i64))) (hd : Cells w bo ((ys.take L).map (Value.int .i64))) :
 Calls Tryz.prog 252 #[.slice ao L ca, .slice bo L cb, .int .i64 s] w fun e w' => e = .returned (.int .i64 (ovl xs ys L s)) /\ Below w.heap.size w w' := by
 have hf := ovR_full xs ys L s
 have HF := Lib.hid hf; have HC := Lib.hid hc; have HD := Lib.hid hd; have H1 := Lib.hid h1; have H2 := Lib.hid h2
 clear hf hc hd h1 h2
 go_enter Tryz.func252, Tryz.ntmps252
 go_wp2
 go_loopw [7, 8] (fun v i wr => ∃ k : Nat, k <= L /\ i = .int .i64 (k : Int) /\ v = .int .i64 (ovR xs ys L s k) /\ Below w.heap.size w wr) (fun _ i _ => L - (intOf i).toNat)
 case atStart => exact ⟨0, Nat.zero_le _, rfl, rfl, Below.refl _ _⟩
 case round =>
  obtain ⟨k, hk, rfl, rfl, hb⟩ := hrel
  by_cases hlt : k < L
  · obtain ⟨x, hxx⟩ := get_of_lt (show k < xs.length by omega)
    have hxt : (xs.take L)[k]? = some x := by rw [List.getElem?_take, if_pos hlt]; exact hxx
    obtain ⟨b, off, rfl⟩ := HC.out.addr (by intro h; rw [List.map_eq_nil_iff] at h; rw [h] at hxt; simp at hxt)
    have hcx := cell_keep (HC.out.int hxt) hb (Nat.le_refl _)
    have bs := ovR_bd H1.out H2.out L s k
    have i1 : (k : Int) < L := by omega
    have i2 : (0 : Int) <= k := by omega
    have hin := fun w => rin_any ((k : Int) + s) 0 ((L : Int) - 1) w
    by_cases hi : inB 0 ((k : Int) + s) ((L : Int) - 1) = true
    · have h3 : 0 <= (k : Int) + s /\ (k : Int) + s <= (L : Int) - 1 := by simpa [inB] using hi
      obtain ⟨m, hm⟩ : ∃ m : Nat, (k : Int) + s = (m : Int) := ⟨((k : Int) + s).toNat, by omega⟩
      obtain ⟨y, hyy⟩ := get_of_lt (show m < ys.length by omega)
      have hyt : (ys.take L)[m]? = some y := by rw [List.getElem?_take, if_pos (by omega)]; exact hyy
      obtain ⟨b2, off2, rfl⟩ := HD.out.addr (by intro h; rw [List.map_eq_nil_iff] at h; rw [h] at hyt; simp at hyt)
      have hcy := cell_keep (HD.out.int hyt) hb (Nat.le_refl _)
      have m1 := H1.out x (List.mem_of_getElem? hxx)
      have m2 := H2.out y (List.mem_of_getElem? hyy)
      have pd := ov_prod m1.1 m1.2 m2.1 m2.2
      have e1 : ovR xs ys L s (k + 1) = ovR xs ys L s k + x * y := by
       simp only [ovR]
       rw [if_pos hi, hm, Int.toNat_natCast, List.getD_eq_getElem?_getD, List.getD_eq_getElem?_getD, hxx, hyy]; rfl
      rw [hi] at hin
      have E1 := Lib.hid e1; have HIN := Lib.hid hin
      have q0 : IntKind.i64.wrap ((k : Int) + s) = (k : Int) + s := IntWalk.i64_in _ (by omega)
      have q1 : IntKind.i64.wrap (x * y) = x * y := IntWalk.i64_in _ (by omega)
      have q2 : IntKind.i64.wrap (ovR xs ys L s k + x * y) = ovR xs ys L s k + x * y := IntWalk.i64_in _ (by omega)
      have q3 : 0 <= (k : Int) + s := h3.1
      have q4 : (k : Int) + s < L := by omega
      have q5 : ((k : Int) + s).toNat = m := by omega
      clear e1 hin hxx hyy hxt hyt hi hm
      go_wp2_with (go_at_call 210; refine (HIN.out _).mono ?_; rintro e w' ⟨rfl, rfl⟩)
      go_quiet (fail)
      clear q0 q1 q2 q3 q4 q5
      go_wp2
      go_roundw
      case rel => exact ⟨k + 1, by omega, by go_num, by rw [E1.out], bel_drewN hb _⟩
      case measure => simp [intOf]; omega
    · have hi : inB 0 ((k : Int) + s) ((L : Int) - 1) = false := by simpa using hi
      have e1 : ovR xs ys L s (k + 1) = ovR xs ys L s k := by
       simp only [ovR]
       rw [hi]; simp
      rw [hi] at hin
      have E1 := Lib.hid e1; have HIN := Lib.hid hin
      clear e1 hin hxx hxt hi
      go_wp2_with (go_at_call 210; refine (HIN.out _).mono ?_; rintro e w' ⟨rfl, rfl⟩)
      go_roundw
      case rel => exact ⟨k + 1, by omega, by go_num, by rw [E1.out], hb⟩
      case measure => simp [intOf]; omega
  · obtain rfl : k = L := by omega
    rw [HF.out]
    go_wp2
    go_ret
    exact ⟨rfl, hb⟩
end Go.Proofs.YtdpjdifoonfcdaaGreatDoor

namespace Go.Proofs.YtdpjdifoonfcdaaGreatDoor
open Go.RowKit
set_option maxRecDepth 100000 in
set_option maxHeartbeats 4000000 in
theorem refReaches_any (n d : Int) (L : Nat) (xs ys : List Int) (s : Int) (ao : Option Addr) (ca : Nat) (bo : Option Addr) (cb : Nat) (w : World) (hx : xs.length = 64) (hy : ys.length = 64) (hL1 : 1 <= L) (hL : L <= 64) (h1 : ∀ x ∈ xs, -127 <= x /\ x <= 127) (h2 : ∀ x ∈ ys, -127 <= x /\ x <= 127)
 (s1 : -1000 <= s) (s2 : s <= 1000) (n1 : 0 <= n) (n2 : n <= 999999) (d1 : 0 <= d) (d2 : d <= 999999) (hc : Cells w ao ((xs.take L).map (Value.int .i64))) (hd : Cells w bo ((ys.take L).map (Value.int .i64))) :
 Calls Tryz.prog 217 #[.slice ao L ca, .slice bo L cb, .int .i64 s, .agg #[.int .i64 n, .int .i64 d]] w fun e w' => e = .returned (.bool (rchB n d xs ys L s)) /\ Below w.heap.size w w' := by
 obtain ⟨W0, hW0⟩ : ∃ W0, w.alloc (.cells #[.int .i64 n, .int .i64 d] 163) = W0 := ⟨_, rfl⟩
 have hb0 : Below w.heap.size w W0 := by rw [<- hW0]; exact (Below.refl _ w).alloc (Nat.le_refl _) _
 have hs0 : W0.heap.size = w.heap.size + 1 := by rw [<- hW0]; simp
 have q0 : Blk W0 w.heap.size 163 #[.int .i64 n, .int .i64 d] := by rw [<- hW0]; exact heap_alloc_new w _
 have hkr : ∀ W, Below W0.heap.size W0 W -> (W.cell? ⟨w.heap.size, 0, none⟩ = some (.int .i64 n) /\ W.cell? ⟨w.heap.size, 1, none⟩ = some (.int .i64 d)) /\ Below w.heap.size w W := fun W h => by
  have hq := q0.below h (by omega)
  exact ⟨⟨hq.cell 0, hq.cell 1⟩, hb0.trans (h.mono hb0.size)⟩
 have ho := fun W (h : Below w.heap.size w W) => refOverlapL_any xs ys L s ao ca bo cb W hx hy hL1 hL s1 s2 h1 h2 (hc.below h (Nat.le_refl _)) (hd.below h (Nat.le_refl _))
 have hn1 := fun W (h : Below w.heap.size w W) => refNorm_any xs L ao ca W hx hL h1 (hc.below h (Nat.le_refl _))
 have hn2 := fun W (h : Below w.heap.size w W) => refNorm_any ys L bo cb W hy hL h2 (hd.below h (Nat.le_refl _))
 rw [<- ovl_sqTo] at hn1 hn2
 have b0 := ovl_bd h1 h2 L s (by omega)
 have b1 := ovl_bd h1 h1 L 0 (by omega)
 have b2 := ovl_bd h2 h2 L 0 (by omega)
 have c1 := norm_nn xs L
 have c2 := norm_nn ys L
 have hR : rchB n d xs ys L s = (decide (0 < ovl xs ys L s) && decide (ovl xs xs L 0 * ovl ys ys L 0 * n <= ovl xs ys L s * ovl xs ys L s * d)) := rfl
 rw [hR]
 clear hR
 generalize ovl xs ys L s = N at *
 generalize ovl xs xs L 0 = m1 at *
 generalize ovl ys ys L 0 = m2 at *
 have b0' : -1032256 <= N /\ N <= 1032256 := by omega
 have b1' : m1 <= 1032256 := by omega
 have b2' : m2 <= 1032256 := by omega
 have HO := Lib.hid ho; have HN1 := Lib.hid hn1; have HN2 := Lib.hid hn2; have HW0 := Lib.hid hW0; have HKR := Lib.hid hkr
 clear ho hn1 hn2 b0 b1 b2 h1 h2 hc hd hW0 hb0 q0 hkr hx hy
 obtain ⟨⟨k0, k1⟩, hbw⟩ := HKR.out W0 (Below.refl _ _)
 rw [<- HW0.out] at k0 k1
 by_cases hN : 0 < N
 · have p1 : 0 <= N * N /\ N * N <= 1065552449536 := ⟨Int.mul_nonneg (by omega) (by omega), by
    have := Int.mul_le_mul_of_nonneg_right b0'.2 (by omega : 0 <= N); omega⟩
   have p2 : 0 <= N * N * d /\ N * N * d <= 1065552449536 * 999999 := ⟨Int.mul_nonneg p1.1 d1, by
    have h3 := Int.mul_le_mul_of_nonneg_left d2 p1.1
    have h4 := Int.mul_le_mul_of_nonneg_right p1.2 (by omega : (0 : Int) <= 999999); omega⟩
   have p3 : 0 <= n * m1 /\ n * m1 <= 999999 * 1032256 := ⟨Int.mul_nonneg n1 c1, by
    have h3 := Int.mul_le_mul_of_nonneg_left b1' n1; omega⟩
   have p4 : 0 <= n * m1 * m2 /\ n * m1 * m2 <= 999999 * 1032256 * 1032256 := ⟨Int.mul_nonneg p3.1 c2, by
    have h3 := Int.mul_le_mul_of_nonneg_left b2' p3.1; omega⟩
   have e1 : IntKind.i64.wrap (N * N) = N * N := IntWalk.i64_in _ (by omega)
   have e2 : IntKind.i64.wrap (N * N * d) = N * N * d := IntWalk.i64_in _ (by omega)
   have e3 : IntKind.i64.wrap (n * m1) = n * m1 := IntWalk.i64_in _ (by omega)
   have e4 : IntKind.i64.wrap (n * m1 * m2) = n * m1 * m2 := IntWalk.i64_in _ (by omega)
   have hres : (decide (0 < N) && decide (m1 * m2 * n <= N * N * d)) = decide (n * m1 * m2 <= N * N * d) := by
    rw [decide_eq_true hN, Bool.true_and, show m1 * m2 * n = n * m1 * m2 by rw [Int.mul_comm (m1 * m2) n, <- Int.mul_assoc]]
   have HRES := Lib.hid hres
   clear p1 p2 p3 p4 hres b0' b1' b2' c1 c2 n1 n2 d1 d2
   go_enter Tryz.func217, Tryz.ntmps217
   go_wp2_with fail
   rw [HW0.out]
   refine (HO.out _ hbw).mono ?_
   rintro e wa ⟨rfl, hba⟩
   obtain ⟨⟨x0, x1⟩, hbwa⟩ := HKR.out wa hba
   obtain ⟨⟨y0, y1⟩, hbwad⟩ := HKR.out wa.drew hba.drew
   have HBA := Lib.hid hba
   clear k0 k1 hba hbw
   go_wp2_with fail
   go_region_held3 (fun w' => w'.cell? ⟨w.heap.size, 0, none⟩ = some (.int .i64 n) /\ w'.cell? ⟨w.heap.size, 1, none⟩ = some (.int .i64 d))
    (first | with_reducible exact ⟨x0, x1⟩ | with_reducible exact ⟨y0, y1⟩ | with_reducible exact ⟨z0, z1⟩ | with_reducible exact ⟨t0, t1⟩ | go_keep)
    (first
     | (go_at_call 146; (with_reducible refine Calls.mono (HN1.out wa.drew hbwad) ?_); rintro e wb ⟨rfl, hbb⟩; have hbb := HBA.out.drew.trans (hbb.mono HBA.out.size); have HBB := Lib.hid hbb; obtain ⟨⟨z0, z1⟩, hbwb⟩ := HKR.out wb hbb; clear hbb)
     | (go_at_call 146; (with_reducible refine Calls.mono (HN2.out wa.drew hbwad) ?_); rintro e wb ⟨rfl, hbb⟩; have hbb := HBA.out.drew.trans (hbb.mono HBA.out.size); have HBB := Lib.hid hbb; obtain ⟨⟨z0, z1⟩, hbwb⟩ := HKR.out wb hbb; clear hbb)
     | (go_at_call 146; (with_reducible refine Calls.mono (HN1.out wb hbwb) ?_); rintro e wc ⟨rfl, hbc⟩; have hbc := HBB.out.trans (hbc.mono HBB.out.size); obtain ⟨⟨t0, t1⟩, hbwc⟩ := HKR.out wc hbc; clear hbc)
     | (go_at_call 146; (with_reducible refine Calls.mono (HN2.out wb hbwb) ?_); rintro e wc ⟨rfl, hbc⟩; have hbc := HBB.out.trans (hbc.mono HBB.out.size); obtain ⟨⟨t0, t1⟩, hbwc⟩ := HKR.out wc hbc; clear hbc))
   all_goals
    go_wp2_with fail
    go_ret
    exact ⟨ret_bool HRES.out.symm, hbwc⟩
 · have hres : (decide (0 < N) && decide (m1 * m2 * n <= N * N * d)) = false := by rw [decide_eq_false hN]; rfl
   have HRES := Lib.hid hres
   have hNb : decide (0 < N) = false := decide_eq_false hN
   clear hres b0' b1' b2' c1 c2 n1 n2 d1 d2 hN
   go_enter Tryz.func217, Tryz.ntmps217
   go_wp2_with fail
   rw [HW0.out]
   refine (HO.out _ hbw).mono ?_
   rintro e wa ⟨rfl, hba⟩
   obtain ⟨⟨x0, x1⟩, hbwa⟩ := HKR.out wa hba
   clear k0 k1 hba hbw
   go_wp2_with fail
   go_quiet (fail)
   go_wp2_with fail
   go_ret
   exact ⟨ret_bool HRES.out.symm, bel_drewN hbwa _⟩
end Go.Proofs.YtdpjdifoonfcdaaGreatDoor

namespace Go.Proofs.YtdpjdifoonfcdaaGreatDoor
open Go.RowKit
set_option maxRecDepth 100000 in
set_option maxHeartbeats 4000000 in
theorem refFit_any (n d : Int) (L : Nat) (xs ys : List Int) (ao : Option Addr) (ca : Nat) (bo : Option Addr) (cb : Nat) (w : World) (hx : xs.length = 64) (hy : ys.length = 64) (hL1 : 1 <= L) (hL : L <= 64) (h1 : ∀ x ∈ xs, -127 <= x /\ x <= 127) (h2 : ∀ x ∈ ys, -127 <= x /\ x <= 127)
 (n1 : 0 <= n) (n2 : n <= 999999) (d1 : 0 <= d) (d2 : d <= 999999) (hc : Cells w ao ((xs.take L).map (Value.int .i64))) (hd : Cells w bo ((ys.take L).map (Value.int .i64))) :
 Calls Tryz.prog 148 #[.slice ao L ca, .slice bo L cb, .agg #[.int .i64 n, .int .i64 d]] w fun e w' => e = .returned (.tuple #[.int .i64 (fstV (rchB n d xs ys L) (shl L (2 * L - 1))), .bool (fstS (rchB n d xs ys L) (shl L (2 * L - 1))).isSome]) /\ Below w.heap.size w w' := by
 obtain ⟨W0, hW0⟩ : ∃ W0, w.alloc (.cells #[.int .i64 n, .int .i64 d] 163) = W0 := ⟨_, rfl⟩
 have hb0 : Below w.heap.size w W0 := by rw [<- hW0]; exact (Below.refl _ w).alloc (Nat.le_refl _) _
 have hs0 : W0.heap.size = w.heap.size + 1 := by rw [<- hW0]; simp
 have q0 : Blk W0 w.heap.size 163 #[.int .i64 n, .int .i64 d] := by rw [<- hW0]; exact heap_alloc_new w _
 have hkr : ∀ W, Below W0.heap.size W0 W -> (W.cell? ⟨w.heap.size, 0, none⟩ = some (.int .i64 n) /\ W.cell? ⟨w.heap.size, 1, none⟩ = some (.int .i64 d)) /\ Below w.heap.size w W := fun W h => by
  have hq := q0.below h (by omega)
  exact ⟨⟨hq.cell 0, hq.cell 1⟩, hb0.trans (h.mono hb0.size)⟩
 have hre := fun (s : Int) W (s1 : -1000 <= s) (s2 : s <= 1000) (h : Below w.heap.size w W) => refReaches_any n d L xs ys s ao ca bo cb W hx hy hL1 hL h1 h2 s1 s2 n1 n2 d1 d2 (hc.below h (Nat.le_refl _)) (hd.below h (Nat.le_refl _))
 generalize rchB n d xs ys L = f at *
 have HRE := Lib.hid hre; have HKR := Lib.hid hkr; have HW0 := Lib.hid hW0
 clear hre hkr hW0 hb0 q0 hc hd h1 h2 hx hy n1 n2 d1 d2
 have hnone : (∀ y ∈ shl L (2 * L - 1), f y.1 = false) -> fstV f (shl L (2 * L - 1)) = 0 /\ fstS f (shl L (2 * L - 1)) = none := fun h => by
  have h3 := fstS_none h
  unfold fstV
  rw [h3]
  exact ⟨rfl, rfl⟩
 have hsome : ∀ j, j < 2 * L - 1 -> (∀ y ∈ shl L j, f y.1 = false) -> f (1 - (L : Int) + j) = true -> fstV f (shl L (2 * L - 1)) = 1 - (L : Int) + j /\ (fstS f (shl L (2 * L - 1))).isSome = true := fun j hj h hf => by
  obtain ⟨t, ht⟩ := shl_prefix L (show j + 1 <= 2 * L - 1 by omega)
  have hv : (mkS (1 - (L : Int) + (j : Int))).1 = 1 - (L : Int) + j := mkS_val (by omega) (by omega)
  have h3 : fstS f (shl L (2 * L - 1)) = some (mkS (1 - (L : Int) + (j : Int))) := by
   rw [<- ht, shl_succ]
   unfold fstS
   rw [List.append_assoc, List.find?_append, List.find?_eq_none.2 (fun x hx => by rw [h x hx]; decide)]
   simp only [Option.none_or, List.singleton_append, List.find?_cons]
   rw [hv, hf]
  unfold fstV
  rw [h3]
  exact ⟨hv, rfl⟩
 have HNONE := Lib.hid hnone; have HSOME := Lib.hid hsome
 clear hnone hsome
 go_enter Tryz.func148, Tryz.ntmps148
 go_wp2_with fail
 rw [HW0.out]
 go_loopw [8] (fun sv wr => ∃ j : Nat, j <= 2 * L - 1 /\ sv = .int .i64 (1 - (L : Int) + j) /\ (∀ y ∈ shl L j, f y.1 = false) /\ Below W0.heap.size W0 wr) (fun sv _ => ((L : Int) - intOf sv).toNat)
 case atStart => exact ⟨0, Nat.zero_le _, by simp, by simp [shl], Below.refl _ _⟩
 case round =>
  obtain ⟨j, hj, rfl, hno, hbe⟩ := hrel
  obtain ⟨⟨k0, k1⟩, hbw⟩ := HKR.out wr hbe
  have HNO := Lib.hid hno
  clear hno
  by_cases hlt : j < 2 * L - 1
  · have i1 : 1 - (L : Int) + (j : Int) < (L : Int) := by omega
    have hr1 : -1000 <= 1 - (L : Int) + (j : Int) := by omega
    have hr2 : 1 - (L : Int) + (j : Int) <= 1000 := by omega
    have hv : (mkS (1 - (L : Int) + (j : Int))).1 = 1 - (L : Int) + j := mkS_val (by omega) (by omega)
    have HV := Lib.hid hv
    clear hv
    cases hf : f (1 - (L : Int) + (j : Int)) with
    | true =>
      obtain ⟨s1, s2⟩ := HSOME.out j hlt HNO.out hf
      have hre := HRE.out _ wr hr1 hr2 hbw
      rw [hf] at hre
      have HR := Lib.hid hre; have H1 := Lib.hid s1; have H2 := Lib.hid s2
      clear hre s1 s2 hf
      go_wp2_with fail
      refine HR.out.mono ?_
      rintro e w1 ⟨rfl, hb1⟩
      go_wp2_with fail
      go_ret2
      rw [H1.out, H2.out]
      exact ⟨rfl, hbw.trans (hb1.mono hbw.size)⟩
    | false =>
      have hre := HRE.out _ wr hr1 hr2 hbw
      rw [hf] at hre
      have hno2 : ∀ y ∈ shl L (j + 1), f y.1 = false := by
       rw [shl_succ]
       intro y hy
       rcases List.mem_append.1 hy with h | h
       · exact HNO.out y h
       · rw [List.mem_singleton.1 h, HV.out]; exact hf
      have HR := Lib.hid hre; have HN2 := Lib.hid hno2
      have HS : Hid (1 - (L : Int) + (j : Int) + 1 = 1 - (L : Int) + ((j + 1 : Nat) : Int)) := Lib.hid (by omega)
      clear hre hf hno2
      go_wp2_with fail
      refine HR.out.mono ?_
      rintro e w1 ⟨rfl, hb1⟩
      have hbe1 := hbe.trans (hb1.mono hbe.size)
      go_wp2_with fail
      go_roundw
      case rel => exact ⟨j + 1, by omega, by first | (rw [<- HS.out]) | (rw [HS.out]) | rfl, HN2.out, hbe1⟩
      case measure => simp [intOf]; omega
  · obtain rfl : j = 2 * L - 1 := by omega
    obtain ⟨s1, s2⟩ := HNONE.out HNO.out
    have i1 : ¬ (1 - (L : Int) + ((2 * L - 1 : Nat) : Int) < (L : Int)) := by omega
    have H1 := Lib.hid s1; have H2 := Lib.hid s2
    clear s1 s2
    go_wp2_with fail
    go_ret2
    rw [H1.out, H2.out]
    exact ⟨rfl, hbw⟩
end Go.Proofs.YtdpjdifoonfcdaaGreatDoor
