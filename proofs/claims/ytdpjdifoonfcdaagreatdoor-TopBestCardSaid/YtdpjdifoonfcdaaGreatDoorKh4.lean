/- Parts of a proof, in build order: N7, N8, M2, M3, M4, M5, Cg, Ci. -/
import Derived.Test.YtdpjdifoonfcdaaGreatDoorKh3

namespace Go.Proofs.YtdpjdifoonfcdaaGreatDoor
open Go.RowKit
theorem zero_any (v : Value) (s : Bool) (n d : Nat) (w : World) (hv : RatV w v s n d) :
 Calls Tryz.prog 164 #[v] w fun e w' => e = .returned (.bool (decide (n = 0))) /\ Below w.heap.size w w' := by
 obtain ⟨vn, vd, rfl, hn, hd⟩ := hv
 obtain ⟨an, cn, rfl⟩ := hn.cases
 obtain ⟨ad, cd, rfl⟩ := hd.cases
 have hl : decide (n = 0) = (((dig n).length : Int) == 0) := by
  rw [Bool.eq_iff_iff, decide_eq_true_iff, beq_iff_eq, <- dig_len_pos]; omega
 have HL := Lib.hid hl; clear hl hn hd
 go_enter Tryz.func164, Tryz.ntmps164
 go_wp2
 go_ret
 exact ⟨ret_bool HL.out.symm, (Below.refl _ _).alloc (Nat.le_refl _) _⟩
end Go.Proofs.YtdpjdifoonfcdaaGreatDoor

namespace Go.Proofs.YtdpjdifoonfcdaaGreatDoor
open Go.RowKit
theorem isReal_any (v : Value) (s1 s2 : Bool) (n1 d1 n2 d2 : Nat) (w : World) (hv : ValV w v s1 n1 d1 s2 n2 d2) :
 Calls Tryz.prog 161 #[v] w fun e w' => e = .returned (.bool (decide (n2 = 0))) /\ Below w.heap.size w w' := by
 obtain ⟨va, vb, vc, vd, rfl, ha, hb, hc, hd⟩ := hv
 obtain ⟨aa, ca, rfl⟩ := ha.cases
 obtain ⟨ab, cb, rfl⟩ := hb.cases
 have HC := Lib.hid hc; have HD := Lib.hid hd
 obtain ⟨ac, cc, rfl⟩ := hc.cases
 obtain ⟨ad, cd, rfl⟩ := hd.cases
 clear ha hb hc hd
 go_enter Tryz.func161, Tryz.ntmps161
 go_wp2_with fail
 refine (zero_any _ s2 n2 d2 _ ⟨_, _, rfl, HC.out.below ((Below.refl _ _).alloc (Nat.le_refl _) _) (Nat.le_refl _), HD.out.below ((Below.refl _ _).alloc (Nat.le_refl _) _) (Nat.le_refl _)⟩).mono ?_
 rintro e w1 ⟨rfl, hb1⟩
 go_wp2
 go_ret
 exact ⟨rfl, ((Below.refl _ _).alloc (Nat.le_refl _) _).trans (hb1.mono (by simp))⟩
set_option maxRecDepth 100000 in
theorem whole_pos (n : Nat) (w : World) (h : n < 9223372036854775808) :
 Calls Tryz.prog 82 #[.int .i64 (n : Nat)] w fun e w' => (∃ v, e = .returned v /\ RatV w' v false n 1) /\ Below w.heap.size w w' := by
 have h0 : (0 : Int) <= n := by omega
 have hn := fun wx => natural_any n wx (by omega)
 have HN := Lib.hid hn; clear hn
 have hle : (n : Int) <= 9223372036854775807 := by omega
 go_enter Tryz.func82, Tryz.ntmps82
 go_wp2_with fail
 refine (HN.out _).mono ?_
 rintro e w1 ⟨⟨a, c, rfl, hc, hc1, hc2⟩, hb1⟩
 have H1 : Hid (NatV w1 (.slice a (dig n).length c) n) := ⟨a, c, rfl, hc, hc1, hc2⟩
 clear hc
 have hbw : Below w.heap.size w w1 := ((Below.refl _ _).alloc (Nat.le_refl _) _).trans (hb1.mono (by simp))
 go_wp2_with fail
 refine (one_any _).mono ?_
 rintro e w2 ⟨⟨v1, rfl, h1⟩, hb2⟩
 have hbx := hb1.trans (hb2.mono hb1.size)
 have hbw2 : Below w.heap.size w w2 := hbw.trans (hb2.mono hbw.size)
 have H2 := Lib.hid (H1.out.below hb2 (Nat.le_refl _))
 have H3 := Lib.hid h1
 obtain ⟨a1, c1, hv1⟩ := h1.cases
 rw [dig_1] at hv1
 subst hv1
 clear h1
 have q0 : w2.cell? ⟨w.heap.size, 0, none⟩ = some (.bool false) := box_keep hbx (by simp) 0
 have q1 : w2.cell? ⟨w.heap.size, 1, none⟩ = some (.slice none 0 0) := box_keep hbx (by simp) 1
 have q2 : w2.cell? ⟨w.heap.size, 2, none⟩ = some (.slice none 0 0) := box_keep hbx (by simp) 2
 have f0 := box_free hbx (by simp) 0
 have f1 := box_free hbx (by simp) 1
 have f2 := box_free hbx (by simp) 2
 go_wp2
 refine bodyPost_ret (v := .agg #[.bool false, .slice a (dig n).length c, .slice a1 1 c1]) (by simp [results, Tryz.results82, go_sem, q0, q1, q2]) rfl ?_
 exact ⟨⟨_, rfl, _, _, rfl, H2.out.box3 q0 q1 q2 trivial trivial trivial, H3.out.box3 q0 q1 q2 trivial trivial trivial⟩, ((hbw2.setCell (Nat.le_refl _) _).setCell (Nat.le_refl _) _).setCell (Nat.le_refl _) _⟩
end Go.Proofs.YtdpjdifoonfcdaaGreatDoor

namespace Go.Proofs.YtdpjdifoonfcdaaGreatDoor
open Go.RowKit
def decB (n : Nat) : ByteArray := ⟨(Lib.decDigits n).toArray⟩
theorem decB_size (n : Nat) : (decB n).size = Lib.nDigits n := by
 rw [<- Lib.decDigits_length]; simp [decB, ByteArray.size]
theorem dec_zero : Lib.decDigits 0 = [48] := Lib.decDigits_one (by decide)
set_option maxRecDepth 100000 in
theorem size_any (v : Value) (n : Nat) (w : World) (hv : NatV w v n) (ht : Tab w) (hl : (dig n).length <= 17592186044416) :
 Calls Tryz.prog 218 #[v] w fun e w' => e = .returned (.int .i64 (Lib.nDigits n)) /\ Below w.heap.size w w' := by
 by_cases h0 : n = 0
 · subst h0
   obtain ⟨a, c, rfl⟩ := hv.cases
   have hl0 : (dig 0).length = 0 := by rw [dig_zero]; rfl
   rw [hl0]
   clear hv hl0
   go_enter Tryz.func218, Tryz.ntmps218
   go_wp2
   go_ret
   exact ⟨by rw [Lib.nDigits_small (by decide)]; rfl, Below.refl _ _⟩
 · obtain ⟨a, c, rfl, hc, _⟩ := hv
   obtain ⟨L, hL⟩ : ∃ L, (dig n).length = L + 1 := ⟨(dig n).length - 1, by have := mt dig_len_pos.1 h0; omega⟩
   obtain ⟨t, htd⟩ := get_of_lt (show L < (dig n).length by omega)
   have hsz := size_dig_eq (n := n) (t := t) (by rw [hL]; exact htd)
   have htb : t <= 999999999 := sm_get (sm_dig n) htd
   obtain ⟨b, off, rfl⟩ := hc.addr (dgs_ne (by omega))
   have c0 : w.cell? ⟨b, off + L, none⟩ = some (.int .u64 (t : Nat)) := hc.dgs htd
   rw [hL] at hsz hl ⊢
   simp only [Nat.add_sub_cancel] at hsz
   have hn9 := nDigits_le 8 t (by omega)
   have hff := fmtU_any t w (by omega) ht
   have hs : (⟨(Lib.decDigits t).toArray⟩ : ByteArray).size = Lib.nDigits t := decB_size t
   have e1 : IntKind.i64.wrap (((L + 1 : Nat) : Int) - 1) = (L : Int) := by rw [show ((L + 1 : Nat) : Int) - 1 = (L : Int) from by omega]; exact IntWalk.i64_in _ (by omega)
   have e2 : (L : Int).toNat = L := by omega
   have e3 : IntKind.i64.wrap (9 * (L : Int)) = 9 * (L : Int) := IntWalk.i64_in _ (by omega)
   have e4 : IntKind.i64.wrap (9 * (L : Int) + (Lib.nDigits t : Int)) = (Lib.nDigits n : Int) := by rw [show 9 * (L : Int) + (Lib.nDigits t : Int) = (Lib.nDigits n : Int) from by omega]; exact IntWalk.i64_in _ (by omega)
   have HFF := Lib.hid hff
   clear hff hc ht htd hsz hL
   go_enter Tryz.func218, Tryz.ntmps218
   go_wp2_with (go_at_call 253; refine HFF.out.mono ?_; rintro e w' ⟨rfl, hb⟩)
   go_ret
   exact ⟨rfl, hb⟩
theorem builder_below {T e : TypeId} {B b C : Nat} {p : Value} {bs : List Value} {w w' : World} (h : Lib.BuilderAt T e B b p bs w) (hb : Below C w w') (hC : w.heap.size <= C) : Lib.BuilderAt T e B b p bs w' := by
 have hlt := h.lt
 obtain ⟨hB, v, hk, hown, hne⟩ := h
 refine ⟨hB, v, by rw [hb.block b (by omega)]; exact hk, ?_, hne⟩
 exact hown.kept (row := none) ⟨hb.os, hb.tape, hb.output, hb.size, fun k hk _ => hb.block k (by omega)⟩ (by cases hv : v.ownBlock <;> simp)
theorem repeat_zero (c : Nat) : Lib.repeatL [48] c = List.replicate c 48 := by
 induction c with
 | zero => rfl
 | succ c ih => rw [Lib.repeatL, ih, List.replicate_succ]; rfl
theorem cat_cells {rs : ByteArray} {k x : Nat} (h : rs.data.toList = List.replicate k 48) : Lib.strCells (rs ++ ⟨(Lib.decDigits x).toArray⟩) = Lib.byteCells (List.replicate k 48 ++ Lib.decDigits x) := by
 rw [Lib.strCells_eq]
 simp [ByteArray.data_append, h]
set_option maxRecDepth 100000 in
set_option maxHeartbeats 4000000 in
theorem natText_any (v : Value) (n : Nat) (w : World) (hv : NatV w v n) (ht : Tab w) (hl : (dig n).length <= 8796093022208) :
 Calls Tryz.prog 254 #[v] w fun e w' => e = .returned (.string (decB n)) /\ Below w.heap.size w w' := by
 by_cases h0 : n = 0
 · subst h0
   obtain ⟨a, c, rfl⟩ := hv.cases
   have hl0 : (dig 0).length = 0 := by rw [dig_zero]; rfl
   rw [hl0]
   clear hv hl0
   go_enter Tryz.func254, Tryz.ntmps254
   go_wp2
   go_ret
   have hz : decB 0 = ⟨#[48]⟩ := by unfold decB; rw [dec_zero]
   rw [hz]
   exact ⟨rfl, Below.refl _ _⟩
 · obtain ⟨a, c, rfl, hc, _⟩ := hv
   obtain ⟨L, hL⟩ : ∃ L, (dig n).length = L + 1 := ⟨(dig n).length - 1, by have := mt dig_len_pos.1 h0; omega⟩
   obtain ⟨t, htd⟩ := get_of_lt (show L < (dig n).length by omega)
   have htd' : (dig n)[(dig n).length - 1]? = some t := by rw [hL]; exact htd
   have hsz := size_dig_eq htd'
   have htp := top_pos htd'
   have hvt := val_top htd'
   have hdp := drop_pos htd' htp
   have htb : t <= 999999999 := sm_get (sm_dig n) htd
   obtain ⟨b, off, rfl⟩ := hc.addr (dgs_ne (by omega))
   rw [hL] at hsz hl hvt hdp ⊢
   simp only [Nat.add_sub_cancel] at hsz hvt
   have hn9 := nDigits_le 8 t (by omega)
   have c0 : w.cell? ⟨b, off + L, none⟩ = some (.int .u64 (t : Nat)) := hc.dgs htd
   have hal := (Below.refl w.heap.size w).alloc (Nat.le_refl _) (.cells #[.pointer none, .slice none 0 0] 382)
   have c1 := cell_keep c0 hal (Nat.le_refl _)
   have htab1 := ht.below hal (Nat.le_refl _)
   have hbu : Lib.BuilderAt 382 5 w.heap.size w.heap.size (.pointer none) [] (w.alloc (.cells #[.pointer none, .slice none 0 0] 382)) :=
    ⟨Nat.le_refl _, .slice none 0 0, heap_alloc_new w _, World.ownsRow_nil _ _ _ _, by simp [Value.ownBlock]⟩
   have hff := fmtU_any t _ (by omega) htab1
   have HFF := Lib.hid hff; have HBU := Lib.hid hbu; have HC := Lib.hid hc; have HT := Lib.hid ht; have HVT := Lib.hid hvt; have HDP := Lib.hid hdp; have HSZ := Lib.hid hsz; have HL := Lib.hid hL
   clear hff hbu hc ht htd htd' hvt hdp c0 htab1
   have e1 : IntKind.i64.wrap (((L + 1 : Nat) : Int) - 1) = (L : Int) := by rw [show ((L + 1 : Nat) : Int) - 1 = (L : Int) from by omega]; exact IntWalk.i64_in _ (by omega)
   have e2 : (L : Int).toNat = L := by omega
   have e3 : IntKind.i64.wrap (((L + 1 : Nat) : Int) - 2) = (L : Int) - 1 := by rw [show ((L + 1 : Nat) : Int) - 2 = (L : Int) - 1 from by omega]; exact IntWalk.i64_in _ (by omega)
   go_enter Tryz.func254, Tryz.ntmps254
   go_wp2_with fail
   refine HFF.out.mono ?_
   rintro e w1 ⟨rfl, hb1⟩
   go_wp2_with fail
   refine (writeString_any w.heap.size w.heap.size [] (decB t) _ (.inl (builder_below HBU.out hb1 (Nat.le_refl _))) (by rw [decB_size]; show (0 : Nat) + _ <= _; omega) (Nat.le_trans hal.size hb1.size)).mono ?_
   rintro e w2 ⟨rfl, h2, hb2⟩
   have hb3 : Below w.heap.size w w2 := (hal.trans (hb1.mono hal.size)).trans hb2
   rw [List.nil_append, show Lib.strCells (decB t) = Lib.byteCells (Lib.decDigits t) from rfl] at h2
   have H2 := Lib.hid h2; have HB3 := Lib.hid hb3
   clear h2 hb3 hb1 hb2 HFF HBU c1 hal
   go_wp2_with fail
   go_loopw [4] (fun iv wr => ∃ j : Nat, j <= L /\ iv = .int .i64 ((j : Int) - 1) /\ Lib.BuilderAt 382 5 w.heap.size w.heap.size (.pointer (some ⟨w.heap.size, 0, none⟩)) (Lib.byteCells (Lib.decDigits (val ((dig n).drop j)))) wr /\ Below w.heap.size w wr) (fun iv _ => (intOf iv + 1).toNat)
   case atStart => exact ⟨L, Nat.le_refl _, congrArg (Value.int .i64) (by omega), by rw [HVT.out]; exact H2.out, HB3.out⟩
   case round =>
    clear H2 HB3
    obtain ⟨j, hj, rfl, hbu, hbr⟩ := hrel
    have HBU := Lib.hid hbu; have HBR := Lib.hid hbr
    clear hbu hbr
    rcases Nat.eq_zero_or_pos j with hj0 | hj0
    · subst hj0
      have hst := Tryz.Builder_String w.heap.size w.heap.size (Lib.decDigits n) wr (.inr (by have := HBU.out; rwa [List.drop_zero, val_dig] at this)) (by intro h; have := congrArg List.length h; rw [Lib.decDigits_length] at this; have := Lib.nDigits_pos n; simp at *; omega)
      have HST := Lib.hid hst; clear hst
      go_wp2_with fail
      refine HST.out.mono ?_
      rintro e w3 ⟨rfl, hb4⟩
      go_wp2
      go_ret
      exact ⟨rfl, HBR.out.trans hb4⟩
    · obtain ⟨i, rfl⟩ : ∃ i, j = i + 1 := ⟨j - 1, by omega⟩
      obtain ⟨x, hx⟩ := get_of_lt (show i < (dig n).length by rw [HL.out]; omega)
      have hxb : x <= 999999999 := sm_get (sm_dig n) hx
      have hdv := val_drop hx
      have hhp := HDP.out (i + 1) (by omega)
      have hdd := (dec_digit hhp (show x < B by simp only [B]; omega))
      have hx9 := hdd.2
      have hxp := Lib.nDigits_pos x
      have hlen := HBU.out
      have hdl : Lib.nDigits (val ((dig n).drop (i + 1))) <= 79164837199872 := by
       have h1 := nDigits_val (sm_dropM (sm_dig n) (i + 1)) (by rw [List.length_drop, HL.out]; omega)
       rw [List.length_drop, HL.out] at h1
       omega
      have c0 : wr.cell? ⟨b, off + i, none⟩ = some (.int .u64 (x : Nat)) := (HC.out.below HBR.out (Nat.le_refl _)).dgs hx
      have hff := fmtU_any x wr (by omega) (HT.out.below HBR.out (Nat.le_refl _))
      have e1 : (((i + 1 : Nat) : Int) - 1) = (i : Int) := by omega
      have e2 : (i : Int).toNat = i := by omega
      have e4 : (0 : Int) <= i := by omega
      have e5 : (i : Int) < ((L + 1 : Nat) : Int) := by omega
      have e6 : IntKind.i64.wrap (9 - (Lib.nDigits x : Int)) = ((9 - Lib.nDigits x : Nat) : Int) := by rw [show 9 - (Lib.nDigits x : Int) = ((9 - Lib.nDigits x : Nat) : Int) from by omega]; exact IntWalk.i64_in _ (by omega)
      have e7 : IntKind.i64.wrap ((i : Int) - 1) = (i : Int) - 1 := IntWalk.i64_in _ (by omega)
      have hs : (⟨(Lib.decDigits x).toArray⟩ : ByteArray).size = Lib.nDigits x := decB_size x
      rw [e1]
      have HFF := Lib.hid hff; have HDD := Lib.hid hdd.1; have HDV := Lib.hid hdv
      clear hff hdd hdv hx e1 hhp hlen
      go_wp2_with fail
      refine HFF.out.mono ?_
      rintro e w3 ⟨rfl, hb4⟩
      go_wp2_with fail
      refine (Tryz.strings_Repeat ⟨#[48]⟩ (9 - Lib.nDigits x) _ (by omega) (by show 1 * _ <= _; omega)).mono ?_
      rintro e w4 ⟨rfl, hb5⟩
      obtain ⟨rs, hrs⟩ : ∃ rs : ByteArray, rs = ⟨(Lib.repeatL (⟨#[48]⟩ : ByteArray).data.toList (9 - Lib.nDigits x)).toArray⟩ := ⟨_, rfl⟩
      rw [<- hrs]
      have hrl : rs.data.toList = List.replicate (9 - Lib.nDigits x) 48 := by rw [hrs]; exact repeat_zero _
      have hrz : rs.size = 9 - Lib.nDigits x := by have := congrArg List.length hrl; rw [List.length_replicate, Array.length_toList] at this; exact this
      have HRL := Lib.hid hrl
      clear hrs hrl
      go_wp2_with fail
      refine (writeString_any w.heap.size w.heap.size _ _ _ (.inr (builder_below (builder_below HBU.out hb4 (Nat.le_refl _)) hb5 (Nat.le_refl _))) ?_ (Nat.le_trans HBR.out.size (Nat.le_trans hb4.size hb5.size))).mono ?_
      · rw [Lib.byteCells_length, Lib.decDigits_length]
        simp only [ByteArray.size_append]
        rw [hrz, hs]
        omega
      rintro e w5 ⟨rfl, h5, hb6⟩
      have hb7 := ((HBR.out.trans (hb4.mono HBR.out.size)).trans (hb5.mono (Nat.le_trans HBR.out.size hb4.size))).trans hb6
      have H5 := Lib.hid h5; have HB7 := Lib.hid hb7
      clear h5 hb7 hb4 hb5 hb6
      go_wp2
      go_roundw
      case rel => exact ⟨i, by omega, rfl, by rw [HDV.out, HDD.out, Lib.byteCells_append, <- cat_cells HRL.out]; exact H5.out, HB7.out⟩
      case measure => simp [intOf]
end Go.Proofs.YtdpjdifoonfcdaaGreatDoor

namespace Go.Proofs.YtdpjdifoonfcdaaGreatDoor
open Go.RowKit
def sgT (s : Bool) (n : Nat) : ByteArray := if s = true then ⟨#[45]⟩ ++ decB n else decB n
def ratT (s : Bool) (n d : Nat) : ByteArray := if d = 1 then sgT s n else sgT s n ++ (⟨#[47]⟩ ++ decB d)
theorem len_of_digits {n : Nat} (h : Lib.nDigits n <= 10000) : (dig n).length <= 1112 := by
 by_cases h0 : n = 0
 · subst h0; rw [dig_zero]; simp
 · have hp : 0 < (dig n).length := by have := mt dig_len_pos.1 h0; omega
   obtain ⟨t, ht⟩ := get_of_lt (show (dig n).length - 1 < (dig n).length by omega)
   have h1 := size_dig_eq ht
   have h2 := Lib.nDigits_pos t
   omega
set_option maxRecDepth 100000 in
set_option maxHeartbeats 2000000 in
theorem ratText_any (v : Value) (s : Bool) (n d : Nat) (w : World) (hv : RatV w v s n d) (ht : Tab w) (h : Lib.nDigits n <= 10000) (h2 : Lib.nDigits d <= 10000) (h3 : d ≠ 0) :
 Calls Tryz.prog 219 #[v] w fun e w' => e = .returned (.string (ratT s n d)) /\ Below w.heap.size w w' := by
 obtain ⟨vn, vd, rfl, hn, hd⟩ := hv
 have HN := Lib.hid hn; have HD := Lib.hid hd
 obtain ⟨an, cn, rfl⟩ := hn.cases
 obtain ⟨ad, cd, rfl, hdc, _⟩ := hd
 have hl1 := len_of_digits h
 have hl2 := len_of_digits h2
 have hdp := dig_pos h3
 have hdl : (dig d).length = (dig (d / B)).length + 1 := by rw [hdp]; rfl
 obtain ⟨b, off, rfl⟩ := hdc.addr (dgs_ne (by omega))
 have h0d : (dig d)[0]? = some (d % B) := by rw [hdp]; rfl
 have HDC : Hid (∀ w1 : World, Below w.heap.size w w1 -> w1.cell? ⟨b, off, none⟩ = some (.int .u64 (d % B : Nat))) := fun w1 hb => by
  have := (hdc.below hb (Nat.le_refl _)).dgs h0d; exact this
 have hs1 : (decB n).size = Lib.nDigits n := decB_size n
 have hs2 : (decB d).size = Lib.nDigits d := decB_size d
 have hs3 : (⟨#[45]⟩ : ByteArray).size = 1 := rfl
 have hs4 : (⟨#[47]⟩ : ByteArray).size = 1 := rfl
 have hD1 : d = 1 ↔ ((dig (d / B)).length = 0 /\ d % B = 1) := by
  rw [dig_len_pos]
  have hB := B_pos
  constructor
  · rintro rfl; decide
  · rintro ⟨h5, h6⟩
    have := Nat.div_add_mod d B
    rw [h5, h6] at this
    omega
 have hx0 : (dig (d / B)).length = 0 -> d % B ≠ 0 := by
  intro h5 h6
  rw [dig_len_pos] at h5
  have := Nat.div_add_mod d B
  rw [h5, h6] at this
  omega
 have HTX := fun w1 (hb : Below w.heap.size w w1) => Lib.hid (natText_any (.slice an (dig n).length cn) n w1 (HN.out.below hb (Nat.le_refl _)) (ht.below hb (Nat.le_refl _)) (by omega))
 have HTD := fun w1 (hb : Below w.heap.size w w1) => Lib.hid (natText_any (.slice (some ⟨b, off, none⟩) (dig d).length cd) d w1 (HD.out.below hb (Nat.le_refl _)) (ht.below hb (Nat.le_refl _)) (by omega))
 have HTN := Lib.hid HTX; have HTE := Lib.hid HTD
 clear HTX HTD hdc h0d
 rw [hdl] at *
 clear hn hdp hdl ht HN HD
 generalize (dig (d / B)).length = M at *
 generalize d % B = x at *
 go_enter Tryz.func219, Tryz.ntmps219
 go_wp2_with fail
 refine (HTN.out _ ((Below.refl _ _).alloc (Nat.le_refl _) _)).out.mono ?_
 rintro e w1 ⟨rfl, hb1⟩
 have q0 : w1.cell? ⟨w.heap.size, 0, none⟩ = some (.bool s) := box_keep hb1 (by simp) 0
 have q1 : w1.cell? ⟨w.heap.size, 1, none⟩ = some (.slice an (dig n).length cn) := box_keep hb1 (by simp) 1
 have q2 : w1.cell? ⟨w.heap.size, 2, none⟩ = some (.slice (some ⟨b, off, none⟩) (M + 1) cd) := box_keep hb1 (by simp) 2
 have hbw : Below w.heap.size w w1 := ((Below.refl _ _).alloc (Nat.le_refl _) _).trans (hb1.mono (by simp))
 have c0 := HDC.out w1 hbw
 have hte := HTE.out w1 hbw
 obtain ⟨st, hst⟩ : ∃ st, st = decB n := ⟨_, rfl⟩
 obtain ⟨dt, hdt⟩ : ∃ dt, dt = decB d := ⟨_, rfl⟩
 have hsg : (s = true -> sgT s n = ⟨#[45]⟩ ++ st) /\ (s = false -> sgT s n = st) := by rw [hst]; unfold sgT; exact ⟨fun h => by rw [if_pos h], fun h => by rw [h]; rfl⟩
 have hrt : ratT s n d = if M = 0 /\ x = 1 then sgT s n else sgT s n ++ (⟨#[47]⟩ ++ dt) := by
  unfold ratT; rw [hdt]; by_cases h5 : d = 1
  · rw [if_pos h5, if_pos (hD1.1 h5)]
  · rw [if_neg h5, if_neg (fun h6 => h5 (hD1.2 h6))]
 have HRT := Lib.hid hrt; have HSG := Lib.hid hsg
 rw [<- hst] at hs1
 rw [<- hdt] at hs2
 rw [<- hst]
 rw [<- hdt] at hte
 clear hst hdt hrt hsg hD1 HTN HTE HDC hb1
 rcases Bool.eq_false_or_eq_true s with hs | hs
 · subst hs
   have hs5 := HSG.out.1 rfl
   by_cases hM : M = 0
   · have hx := hx0 hM
     simp only [hM, Nat.zero_add] at hte
     have i1 : ¬ (1 : Int) < ((M + 1 : Nat) : Int) := by omega
     have i1' : ¬ (0 : Int) < M := by omega
     by_cases hx1 : x = 1
     · have i2 : ¬ (1 : Int) < (x : Int) := by omega
       go_wp2
       go_ret
       rw [HRT.out, if_pos ⟨hM, hx1⟩, hs5]
       exact ⟨rfl, hbw⟩
     · have i2 : (1 : Int) < (x : Int) := by omega
       go_wp2_with fail
       refine hte.out.mono ?_
       rintro e w2 ⟨rfl, hb2⟩
       go_wp2
       go_ret
       rw [HRT.out, if_neg (fun h5 => hx1 h5.2), hs5]
       exact ⟨rfl, hbw.trans (hb2.mono hbw.size)⟩
   · have i1 : (1 : Int) < ((M + 1 : Nat) : Int) := by omega
     have i1' : (0 : Int) < M := by omega
     go_wp2_with fail
     refine hte.out.mono ?_
     rintro e w2 ⟨rfl, hb2⟩
     go_wp2
     go_ret
     rw [HRT.out, if_neg (fun h5 => hM h5.1), hs5]
     exact ⟨rfl, hbw.trans (hb2.mono hbw.size)⟩
 · subst hs
   have hs5 := HSG.out.2 rfl
   by_cases hM : M = 0
   · have hx := hx0 hM
     simp only [hM, Nat.zero_add] at hte
     have i1 : ¬ (1 : Int) < ((M + 1 : Nat) : Int) := by omega
     have i1' : ¬ (0 : Int) < M := by omega
     by_cases hx1 : x = 1
     · have i2 : ¬ (1 : Int) < (x : Int) := by omega
       go_wp2
       go_ret
       rw [HRT.out, if_pos ⟨hM, hx1⟩, hs5]
       exact ⟨rfl, hbw⟩
     · have i2 : (1 : Int) < (x : Int) := by omega
       go_wp2_with fail
       refine hte.out.mono ?_
       rintro e w2 ⟨rfl, hb2⟩
       go_wp2
       go_ret
       rw [HRT.out, if_neg (fun h5 => hx1 h5.2), hs5]
       exact ⟨rfl, hbw.trans (hb2.mono hbw.size)⟩
   · have i1 : (1 : Int) < ((M + 1 : Nat) : Int) := by omega
     have i1' : (0 : Int) < M := by omega
     go_wp2_with fail
     refine hte.out.mono ?_
     rintro e w2 ⟨rfl, hb2⟩
     go_wp2
     go_ret
     rw [HRT.out, if_neg (fun h5 => hM h5.1), hs5]
     exact ⟨rfl, hbw.trans (hb2.mono hbw.size)⟩
end Go.Proofs.YtdpjdifoonfcdaaGreatDoor

namespace Go.Proofs.YtdpjdifoonfcdaaGreatDoor
open Go.RowKit
def bigQ (n d : Nat) : Bool := decide (2000 < Lib.nDigits n) || decide (2000 < Lib.nDigits d)
set_option maxRecDepth 100000 in
theorem big_any (v : Value) (s : Bool) (n d : Nat) (w : World) (hv : RatV w v s n d) (ht : Tab w) (h : (dig n).length <= 17592186044416) (h2 : (dig d).length <= 17592186044416) :
 Calls Tryz.prog 150 #[v] w fun e w' => e = .returned (.bool (bigQ n d)) /\ Below w.heap.size w w' := by
 obtain ⟨vn, vd, rfl, hn, hd⟩ := hv
 have hsn := size_any vn n _ (hn.below ((Below.refl w.heap.size w).alloc (Nat.le_refl _) (.cells #[.bool s, vn, vd] 146)) (Nat.le_refl _)) (ht.below ((Below.refl w.heap.size w).alloc (Nat.le_refl _) _) (Nat.le_refl _)) h
 have hsd := fun w1 (hb : Below w.heap.size w w1) => size_any vd d w1 (hd.below hb (Nat.le_refl _)) (ht.below hb (Nat.le_refl _)) h2
 have HSN := Lib.hid hsn; have HSD := Lib.hid hsd
 obtain ⟨an, cn, rfl⟩ := hn.cases
 obtain ⟨ad, cd, rfl⟩ := hd.cases
 clear hn hd hsn hsd ht
 have hbq : bigQ n d = (decide ((2000 : Int) < (Lib.nDigits n : Nat)) || decide ((2000 : Int) < (Lib.nDigits d : Nat))) := by
  unfold bigQ; congr 1 <;> (rw [Bool.eq_iff_iff, decide_eq_true_iff, decide_eq_true_iff]; omega)
 have HBQ := Lib.hid hbq
 clear hbq
 by_cases hb : (2000 : Int) < (Lib.nDigits n : Nat)
 · go_enter Tryz.func150, Tryz.ntmps150
   go_wp2_with fail
   refine HSN.out.mono ?_
   rintro e w1 ⟨rfl, hb1⟩
   have hbw : Below w.heap.size w w1 := ((Below.refl _ _).alloc (Nat.le_refl _) _).trans (hb1.mono (by simp))
   go_wp2
   go_ret
   rw [HBQ.out]
   exact ⟨by rw [decide_eq_true hb]; rfl, hbw⟩
 · go_enter Tryz.func150, Tryz.ntmps150
   go_wp2_with fail
   refine HSN.out.mono ?_
   rintro e w1 ⟨rfl, hb1⟩
   have hbw : Below w.heap.size w w1 := ((Below.refl _ _).alloc (Nat.le_refl _) _).trans (hb1.mono (by simp))
   have q2 : w1.cell? ⟨w.heap.size, 2, none⟩ = some (.slice ad (dig d).length cd) := box_keep hb1 (by simp) 2
   go_wp2_with fail
   refine (HSD.out w1 hbw).mono ?_
   rintro e w2 ⟨rfl, hb2⟩
   go_wp2
   go_ret
   rw [HBQ.out]
   exact ⟨by rw [decide_eq_false (Int.not_lt.2 hb)]; rfl, hbw.trans (hb2.mono hbw.size)⟩
set_option maxRecDepth 100000 in
theorem valText_any (v : Value) (s : Bool) (n d : Nat) (s2 : Bool) (d2 : Nat) (w : World) (hv : ValV w v s n d s2 0 d2) (ht : Tab w) (h : Lib.nDigits n <= 10000) (h2 : Lib.nDigits d <= 10000) (h3 : d ≠ 0) :
 Calls Tryz.prog 151 #[v] w fun e w' => e = .returned (.string (ratT s n d)) /\ Below w.heap.size w w' := by
 have HV := Lib.hid hv
 obtain ⟨va, vb, vc, vd, rfl, ha, hb, hc, hd⟩ := hv
 have HA := Lib.hid ha; have HB := Lib.hid hb
 obtain ⟨aa, ca, rfl⟩ := ha.cases
 obtain ⟨ab, cb, rfl⟩ := hb.cases
 obtain ⟨ac, cc, rfl⟩ := hc.cases
 obtain ⟨ad, cd, rfl⟩ := hd.cases
 clear ha hb hc hd
 go_enter Tryz.func151, Tryz.ntmps151
 go_wp2_with fail
 refine (isReal_any _ s s2 n d 0 d2 _ (HV.out.below ((Below.refl _ _).alloc (Nat.le_refl _) _) (Nat.le_refl _))).mono ?_
 rintro e w1 ⟨rfl, hb1⟩
 have hbw : Below w.heap.size w w1 := ((Below.refl _ _).alloc (Nat.le_refl _) _).trans (hb1.mono (by simp))
 have q0 : w1.cell? ⟨w.heap.size, 0, none⟩ = some (.bool s) := box_keep hb1 (by simp) 0
 have q1 : w1.cell? ⟨w.heap.size, 1, none⟩ = some (.slice aa (dig n).length ca) := box_keep hb1 (by simp) 1
 have q2 : w1.cell? ⟨w.heap.size, 2, none⟩ = some (.slice ab (dig d).length cb) := box_keep hb1 (by simp) 2
 go_wp2_with fail
 refine (ratText_any _ s n d _ ⟨_, _, rfl, HA.out.below hbw (Nat.le_refl _), HB.out.below hbw (Nat.le_refl _)⟩ (ht.below hbw (Nat.le_refl _)) h h2 h3).mono ?_
 rintro e w2 ⟨rfl, hb2⟩
 go_wp2
 go_ret
 exact ⟨rfl, hbw.trans (hb2.mono hbw.size)⟩
def putT (s : Bool) (n d : Nat) : ByteArray := if bigQ n d then ⟨#[]⟩ else ratT s n d
def putE (n d : Nat) : Int := if bigQ n d then 11 else 0
theorem big_one : bigQ 0 1 = false := by
 unfold bigQ; rw [Lib.nDigits_small (by decide), Lib.nDigits_small (by decide)]; rfl
set_option maxRecDepth 100000 in
theorem put_any (v : Value) (s : Bool) (n d : Nat) (s2 : Bool) (w : World) (hv : ValV w v s n d s2 0 1) (ht : Tab w) (h : (dig n).length <= 17592186044416) (h2 : (dig d).length <= 17592186044416) (h3 : d ≠ 0) :
 Calls Tryz.prog 83 #[v] w fun e w' => e = .returned (.tuple #[.string (putT s n d), .int .i64 (putE n d)]) /\ Below w.heap.size w w' := by
 have HV := Lib.hid hv
 obtain ⟨va, vb, vc, vd, rfl, ha, hb, hc, hd⟩ := hv
 have HA := Lib.hid ha; have HB := Lib.hid hb; have HC := Lib.hid hc; have HD := Lib.hid hd
 obtain ⟨aa, ca, rfl⟩ := ha.cases
 obtain ⟨ab, cb, rfl⟩ := hb.cases
 obtain ⟨ac, cc, rfl⟩ := hc.cases
 obtain ⟨ad, cd, rfl⟩ := hd.cases
 clear ha hb hc hd
 have HT := Lib.hid ht; clear ht
 go_enter Tryz.func83, Tryz.ntmps83
 go_wp2_with fail
 refine (big_any _ s n d _ ⟨_, _, rfl, HA.out.below ((Below.refl _ _).alloc (Nat.le_refl _) _) (Nat.le_refl _), HB.out.below ((Below.refl _ _).alloc (Nat.le_refl _) _) (Nat.le_refl _)⟩ (HT.out.below ((Below.refl _ _).alloc (Nat.le_refl _) _) (Nat.le_refl _)) h h2).mono ?_
 rintro e w1 ⟨rfl, hb1⟩
 have hbw : Below w.heap.size w w1 := ((Below.refl _ _).alloc (Nat.le_refl _) _).trans (hb1.mono (by simp))
 rcases Bool.eq_false_or_eq_true (bigQ n d) with hq | hq
 · have hpt : putT s n d = ⟨#[]⟩ := by unfold putT; rw [if_pos hq]
   have hpe : putE n d = 11 := by unfold putE; rw [if_pos hq]
   have HPT := Lib.hid hpt; have HPE := Lib.hid hpe
   clear hpt hpe
   rw [hq]
   clear hq
   go_wp2
   go_ret2
   rw [HPT.out, HPE.out]
   exact ⟨rfl, hbw⟩
 have hpt : putT s n d = ratT s n d := by unfold putT; rw [hq]; rfl
 have hpe : putE n d = 0 := by unfold putE; rw [hq]; rfl
 have HPT := Lib.hid hpt; have HPE := Lib.hid hpe
 have hd1 : Lib.nDigits n <= 10000 /\ Lib.nDigits d <= 10000 := by
  unfold bigQ at hq
  rw [Bool.or_eq_false_iff, decide_eq_false_iff_not, decide_eq_false_iff_not] at hq
  omega
 rw [hq]
 clear hpt hpe hq
 have q3 : w1.cell? ⟨w.heap.size, 3, none⟩ = some (.bool s2) := box_keep hb1 (by simp) 3
 have q4 : w1.cell? ⟨w.heap.size, 4, none⟩ = some (.slice ac (dig 0).length cc) := box_keep hb1 (by simp) 4
 have q5 : w1.cell? ⟨w.heap.size, 5, none⟩ = some (.slice ad (dig 1).length cd) := box_keep hb1 (by simp) 5
 go_wp2_with fail
 refine (big_any _ s2 0 1 _ ⟨_, _, rfl, HC.out.below hbw (Nat.le_refl _), HD.out.below hbw (Nat.le_refl _)⟩ (HT.out.below hbw (Nat.le_refl _)) (by rw [dig_zero]; simp) (by rw [dig_1]; simp)).mono ?_
 rw [big_one]
 rintro e w2 ⟨rfl, hb2⟩
 have hbx := hb1.trans (hb2.mono hb1.size)
 have hbw2 : Below w.heap.size w w2 := hbw.trans (hb2.mono hbw.size)
 clear q3 q4 q5
 have q0 : w2.cell? ⟨w.heap.size, 0, none⟩ = some (.bool s) := box_keep hbx (by simp) 0
 have q1 : w2.cell? ⟨w.heap.size, 1, none⟩ = some (.slice aa (dig n).length ca) := box_keep hbx (by simp) 1
 have q2 : w2.cell? ⟨w.heap.size, 2, none⟩ = some (.slice ab (dig d).length cb) := box_keep hbx (by simp) 2
 have q3 : w2.cell? ⟨w.heap.size, 3, none⟩ = some (.bool s2) := box_keep hbx (by simp) 3
 have q4 : w2.cell? ⟨w.heap.size, 4, none⟩ = some (.slice ac (dig 0).length cc) := box_keep hbx (by simp) 4
 have q5 : w2.cell? ⟨w.heap.size, 5, none⟩ = some (.slice ad (dig 1).length cd) := box_keep hbx (by simp) 5
 go_wp2_with fail
 refine (valText_any _ s n d s2 1 _ (HV.out.below hbw2 (Nat.le_refl _)) (HT.out.below hbw2 (Nat.le_refl _)) hd1.1 hd1.2 h3).mono ?_
 rintro e w3 ⟨rfl, hb3⟩
 go_wp2
 go_ret2
 rw [HPT.out, HPE.out]
 exact ⟨rfl, hbw2.trans (hb3.mono hbw2.size)⟩
end Go.Proofs.YtdpjdifoonfcdaaGreatDoor

namespace Go.Proofs.YtdpjdifoonfcdaaGreatDoor
open Go.RowKit
set_option maxRecDepth 100000 in
theorem whole_neg (m : Nat) (w : World) (h : m < 9223372036854775808) :
 Calls Tryz.prog 82 #[.int .i64 (-(m : Int) - 1)] w fun e w' => (∃ v, e = .returned v /\ RatV w' v true (m + 1) 1) /\ Below w.heap.size w w' := by
 have h0 : ¬ (0 : Int) <= -(m : Int) - 1 := by omega
 have h0' : -(m : Int) - 1 < 0 := by omega
 have hn := fun wx => natural_any (m + 1) wx (by omega)
 have HN := Lib.hid hn; clear hn
 have e1 : IntKind.i64.wrap (-(m : Int) - 1 + 1) = -(m : Int) := by rw [show -(m : Int) - 1 + 1 = -(m : Int) from by omega]; exact IntWalk.i64_in _ (by omega)
 have e2 : IntKind.i64.wrap (m : Int) = m := IntWalk.i64_in _ (by omega)
 have e3 : IntKind.u64.wrap (m : Int) = m := IntWalk.u64_in _ (by omega)
 have e4 : IntKind.u64.wrap ((m : Int) + 1) = ((m + 1 : Nat) : Int) := by rw [show (m : Int) + 1 = ((m + 1 : Nat) : Int) from by omega]; exact IntWalk.u64_in _ (by omega)
 go_enter Tryz.func82, Tryz.ntmps82
 go_wp2_with fail
 refine (HN.out _).mono ?_
 rintro e w1 ⟨⟨a, c, rfl, hc, hc1, hc2⟩, hb1⟩
 have H1 : Hid (NatV w1 (.slice a (dig (m + 1)).length c) (m + 1)) := ⟨a, c, rfl, hc, hc1, hc2⟩
 clear hc
 have hbw : Below w.heap.size w w1 := ((Below.refl _ _).alloc (Nat.le_refl _) _).trans (hb1.mono (by simp))
 go_wp2_with fail
 refine (one_any _).mono ?_
 rintro e w2 ⟨⟨v1, rfl, h1⟩, hb2⟩
 have hbx := hb1.trans (hb2.mono hb1.size)
 have hbw2 : Below w.heap.size w w2 := hbw.trans (hb2.mono hbw.size)
 have H2 := Lib.hid (H1.out.below hb2 (Nat.le_refl _))
 have H3 := Lib.hid h1
 obtain ⟨a1, c1, hv1⟩ := h1.cases
 rw [dig_1] at hv1
 subst hv1
 clear h1
 have q0 : w2.cell? ⟨w.heap.size, 0, none⟩ = some (.bool false) := box_keep hbx (by simp) 0
 have q1 : w2.cell? ⟨w.heap.size, 1, none⟩ = some (.slice none 0 0) := box_keep hbx (by simp) 1
 have q2 : w2.cell? ⟨w.heap.size, 2, none⟩ = some (.slice none 0 0) := box_keep hbx (by simp) 2
 have f0 := box_free hbx (by simp) 0
 have f1 := box_free hbx (by simp) 1
 have f2 := box_free hbx (by simp) 2
 go_wp2
 refine bodyPost_ret (v := .agg #[.bool true, .slice a (dig (m + 1)).length c, .slice a1 1 c1]) (by simp [results, Tryz.results82, go_sem, q0, q1, q2]) rfl ?_
 exact ⟨⟨_, rfl, _, _, rfl, H2.out.box3 q0 q1 q2 trivial trivial trivial, H3.out.box3 q0 q1 q2 trivial trivial trivial⟩, ((hbw2.setCell (Nat.le_refl _) _).setCell (Nat.le_refl _) _).setCell (Nat.le_refl _) _⟩
theorem whole_any (n : Int) (w : World) (h : -9223372036854775808 <= n) (h2 : n <= 9223372036854775807) :
 Calls Tryz.prog 82 #[.int .i64 n] w fun e w' => (∃ v, e = .returned v /\ RatV w' v (decide (n < 0)) n.natAbs 1) /\ Below w.heap.size w w' := by
 rcases (show n < 0 ∨ 0 <= n from by omega) with hn | hn
 · obtain ⟨m, rfl⟩ : ∃ m : Nat, n = -(m : Int) - 1 := ⟨(-n - 1).toNat, by omega⟩
   have e1 : (-(m : Int) - 1).natAbs = m + 1 := by omega
   rw [decide_eq_true hn, e1]
   exact whole_neg m w (by omega)
 · obtain ⟨m, rfl⟩ : ∃ m : Nat, n = (m : Int) := ⟨n.toNat, by omega⟩
   rw [decide_eq_false (by omega), Int.natAbs_natCast]
   exact whole_pos m w (by omega)
def ofS (n d : Int) : Bool := (decide (n < 0) != decide (d < 0)) && decide (n.natAbs ≠ 0)
def ofN (n d : Int) : Nat := n.natAbs / Nat.gcd n.natAbs d.natAbs
def ofD (n d : Int) : Nat := d.natAbs / Nat.gcd n.natAbs d.natAbs
theorem ofD_pos {n d : Int} (h : d ≠ 0) : ofD n d ≠ 0 := by
 unfold ofD
 have h1 := Nat.gcd_dvd_right n.natAbs d.natAbs
 have h2 : 0 < d.natAbs := by omega
 have h3 : 0 < Nat.gcd n.natAbs d.natAbs := Nat.gcd_pos_of_pos_right _ h2
 have := Nat.div_pos (Nat.le_of_dvd h2 h1) h3
 omega
theorem digits_u64 {n : Nat} (h : n < 18446744073709551616) : Lib.nDigits n <= 20 := by
 exact nDigits_le 19 n (by omega)
theorem of_small (n d : Int) (h : -9223372036854775808 <= n) (h2 : n <= 9223372036854775807) (h3 : -9223372036854775808 <= d) (h4 : d <= 9223372036854775807) : bigQ (ofN n d) (ofD n d) = false := by
 have e1 : ofN n d <= n.natAbs := Nat.div_le_self _ _
 have e2 : ofD n d <= d.natAbs := Nat.div_le_self _ _
 have e3 := digits_u64 (show ofN n d < 18446744073709551616 by omega)
 have e4 := digits_u64 (show ofD n d < 18446744073709551616 by omega)
 unfold bigQ
 rw [Bool.or_eq_false_iff, decide_eq_false_iff_not, decide_eq_false_iff_not]
 omega
set_option maxRecDepth 100000 in
set_option maxHeartbeats 1000000 in
theorem of_any (n d : Int) (w : World) (ht : Tab w) (h : -9223372036854775808 <= n) (h2 : n <= 9223372036854775807) (h3 : -9223372036854775808 <= d) (h4 : d <= 9223372036854775807) (h0 : d ≠ 0) :
 Calls Tryz.prog 25 #[.int .i64 n, .int .i64 d] w fun e w' => e = .returned (.tuple #[.string (ratT (ofS n d) (ofN n d) (ofD n d)), .int .i64 0]) /\ Below w.heap.size w w' := by
 have hl1 : (dig n.natAbs).length <= 17592186044415 := Nat.le_trans (dig_len_u64 (by omega)) (by decide)
 have hl2 : (dig d.natAbs).length <= 17592186044415 := Nat.le_trans (dig_len_u64 (by omega)) (by decide)
 have hne : (d == 0) = false := by rw [beq_eq_false_iff_ne]; omega
 have hsm := of_small n d h h2 h3 h4
 have hpt : putT (ofS n d) (ofN n d) (ofD n d) = ratT (ofS n d) (ofN n d) (ofD n d) := by unfold putT; rw [hsm]; rfl
 have hpe : putE (ofN n d) (ofD n d) = 0 := by unfold putE; rw [hsm]; rfl
 have hn1 : (dig (ofN n d)).length <= 17592186044416 := Nat.le_trans (dig_len_mono (Nat.div_le_self _ _)) (by omega)
 have hd1 : (dig (ofD n d)).length <= 17592186044416 := Nat.le_trans (dig_len_mono (Nat.div_le_self _ _)) (by omega)
 have hd0 := ofD_pos (n := n) h0
 have hred := fun va vb wx ha hb => reduced_any (d.natAbs + 1) (overOK_all _) (decide (n < 0) != decide (d < 0)) va vb n.natAbs d.natAbs wx ha hb hl1 hl2 (by omega) (by omega)
 have hwn := fun wx => whole_any n wx h h2
 have hwd := fun wx => whole_any d wx h3 h4
 have HR := Lib.hid hred; have HWN := Lib.hid hwn; have HWD := Lib.hid hwd; have HT := Lib.hid ht; have HPT := Lib.hid hpt; have HPE := Lib.hid hpe
 clear hred hwn hwd ht hl1 hl2 hpt hpe hsm
 have hus : ((decide (n < 0) != decide (d < 0)) && decide (n.natAbs ≠ 0)) = ofS n d := rfl
 have hun : n.natAbs / Nat.gcd n.natAbs d.natAbs = ofN n d := rfl
 have hud : d.natAbs / Nat.gcd n.natAbs d.natAbs = ofD n d := rfl
 rw [hus, hun, hud] at HR
 clear hus hun hud
 generalize decide (n < 0) = sn at *
 generalize decide (d < 0) = sd at *
 go_enter Tryz.func25, Tryz.ntmps25
 go_wp2_with fail
 refine (HWN.out _).mono ?_
 rintro e w1 ⟨⟨v1, rfl, h1⟩, hb1⟩
 obtain ⟨v11, v12, rfl, h11, h12⟩ := h1
 go_wp2_with fail
 refine (HWD.out _).mono ?_
 rintro e w2 ⟨⟨v2, rfl, hv2⟩, hb2⟩
 obtain ⟨v21, v22, rfl, h21, h22⟩ := hv2
 have hbw : Below w.heap.size w w2 := hb1.trans (hb2.mono hb1.size)
 have H11 := Lib.hid (h11.below hb2 (Nat.le_refl _))
 have H21 := Lib.hid h21
 obtain ⟨a11, c11, rfl⟩ := h11.cases
 obtain ⟨a12, c12, rfl⟩ := h12.cases
 obtain ⟨a21, c21, rfl⟩ := h21.cases
 obtain ⟨a22, c22, rfl⟩ := h22.cases
 clear h11 h12 h21 h22
 go_wp2_with fail
 refine (HR.out _ _ _ (H11.out.below (((Below.refl w2.heap.size _).alloc (Nat.le_refl _) _).alloc (by simp) _) (Nat.le_refl _)) (H21.out.below (((Below.refl w2.heap.size _).alloc (Nat.le_refl _) _).alloc (by simp) _) (Nat.le_refl _))).mono ?_
 rintro e w3 ⟨⟨v3, rfl, h3'⟩, hb3⟩
 have hbw3 : Below w.heap.size w w3 := ((hbw.alloc hbw.size _).alloc (by have := hbw.size; simp; omega) _).trans (hb3.mono (by have := hbw.size; simp; omega))
 have H3 := Lib.hid h3'
 obtain ⟨v31, v32, rfl, h31, h32⟩ := h3'
 clear h31 h32
 go_wp2_with fail
 refine (plain_any _ _ _ _ _ H3.out).mono ?_
 rintro e w4 ⟨⟨v4, rfl, h4⟩, hb4⟩
 have hbw4 : Below w.heap.size w w4 := hbw3.trans (hb4.mono hbw3.size)
 have H4 := Lib.hid h4; clear h4
 go_wp2_with fail
 refine (put_any _ _ _ _ _ _ H4.out (HT.out.below hbw4 (Nat.le_refl _)) hn1 hd1 hd0).mono ?_
 rw [HPT.out, HPE.out]
 rintro e w5 ⟨rfl, hb5⟩
 go_wp2
 go_ret2
 exact ⟨rfl, hbw4.trans (hb5.mono hbw4.size)⟩
end Go.Proofs.YtdpjdifoonfcdaaGreatDoor

namespace Go.Proofs.YtdpjdifoonfcdaaGreatDoor
open Go.RowKit
theorem store_shape (V Z : Array Value) (hVs : V.size = 65) (hZs : Z.size = 65) (hV1 : ∀ v ∈ V.toList, v.oneCell' = true) (wx : World) :
 (storeCells ⟨wx.heap.size, 0, none⟩ V.toList 0).run Tryz.prog (wx.alloc (.cells Z 129)) = .ok () (wx.alloc (.cells V 129)) := by
 rw [run_storeCells_row _ _ 129 Z _ (heap_alloc_new _ _) (by rw [hZs, Array.length_toList, hVs]) hV1, Array.toArray_toList]
 congr 1
 exact World.setRow_alloc_new _ _ _ _
end Go.Proofs.YtdpjdifoonfcdaaGreatDoor

namespace Go.Proofs.YtdpjdifoonfcdaaGreatDoor
open Go.RowKit
theorem mul_self_nn (x : Int) : 0 <= x * x := by
 rcases Int.le_total 0 x with h | h
 · exact Int.mul_nonneg h h
 · have := Int.mul_nonneg (show 0 <= -x by omega) (show 0 <= -x by omega)
   rwa [Int.neg_mul_neg] at this
theorem ovl_self (xs : List Int) (L : Int) : ovl xs xs L 0 = ovTo xs xs 0 0 L.toNat := by
 simp only [ovl]
 rw [show max 0 (-(0 : Int)) = 0 by omega, show min L (L - 0) = L by omega, show L - 0 = L by omega]
end Go.Proofs.YtdpjdifoonfcdaaGreatDoor
