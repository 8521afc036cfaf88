/- Parts of a proof, in build order: Cl, Cn, M6, M7, M8, M9, Ma, Mb, Mc. -/
import Derived.Test.YtdpjdifoonfcdaaGreatDoorKh4
import Derived.Maps.AppendAt
import Derived.Lib.CutLaws
import Derived.Lib.IndexBytes

namespace Go.Proofs.YtdpjdifoonfcdaaGreatDoor
open Go.RowKit Go.Shelf
def KeepB (Bn : Nat) (W W' : World) : Prop := W'.heap[Bn]? = W.heap[Bn]? /\ W.heap.size <= W'.heap.size
theorem KeepB.refl (Bn : Nat) (W : World) : KeepB Bn W W := ⟨rfl, Nat.le_refl _⟩
theorem KeepB.trans {Bn : Nat} {A B C : World} (h : KeepB Bn A B) (k : KeepB Bn B C) : KeepB Bn A C := ⟨k.1.trans h.1, Nat.le_trans h.2 k.2⟩
theorem KeepB.of {Bn n : Nat} {A B : World} (h : Below n A B) (hn : Bn < n) : KeepB Bn A B := ⟨h.block Bn hn, h.size⟩
end Go.Proofs.YtdpjdifoonfcdaaGreatDoor

namespace Go.Proofs.YtdpjdifoonfcdaaGreatDoor
open Go.RowKit
def sqTo (xs : List Int) (a : Nat) : Nat -> Int
 | 0 => 0
 | n + 1 => sqTo xs a n + xs.getD (a + n) 0 * xs.getD (a + n) 0
theorem sqTo_nn (xs : List Int) (a n : Nat) : 0 <= sqTo xs a n := by
 induction n with
 | zero => simp [sqTo]
 | succ n ih =>
   have := mul_self_nn (xs.getD (a + n) 0)
   simp only [sqTo]; omega
theorem sqTo_bd {xs : List Int} (h1 : ∀ x ∈ xs, -127 <= x /\ x <= 127) (a n : Nat) : 0 <= sqTo xs a n /\ sqTo xs a n <= 16129 * (n : Int) := by
 refine ⟨sqTo_nn xs a n, ?_⟩
 induction n with
 | zero => simp [sqTo]
 | succ n ih =>
   have g1 := getD_in (by omega) h1 (a + n)
   have := ov_prod g1.1 g1.2 g1.1 g1.2
   simp only [sqTo]
   push_cast
   omega
def ofT (n d : Int) : ByteArray := ratT (ofS n d) (ofN n d) (ofD n d)
def partT (xs ds : List Int) (t a b : Nat) (sg : Int) : ByteArray := if sqTo xs a (b - a) = 0 then ofT 0 1 else ofT (sg * dotTo xs ds t a (b - a) * dotTo xs ds t a (b - a)) (sqTo xs a (b - a))
theorem ofT_zero : ofT 0 1 = ⟨#[48]⟩ := by decide +kernel
set_option maxRecDepth 100000 in
set_option maxHeartbeats 4000000 in
theorem ratio_any (L : Int) (xs ds : List Int) (ao : Option Addr) (cap t a b : Nat) (sg : Int) (bv bd bt : Nat) (w : World) (ht : Tab w) (hx : xs.length = 64) (hab : a < b) (hb : b <= 64) (htb : t + b <= ds.length) (hl : ds.length <= 512) (hsg : sg = 1 ∨ sg = -1)
 (h1 : ∀ x ∈ xs, -127 <= x /\ x <= 127) (h2 : ∀ x ∈ ds, -32768 <= x /\ x <= 32768) (hv : w.heap[bv]? = some (.cells (shp L xs) 129 (0, 0))) (hd : w.cell? ⟨bd, 0, none⟩ = some (.slice ao ds.length cap)) (hbt : w.cell? ⟨bt, 0, none⟩ = some (.int .i64 t)) (hc : Cells w ao (ds.map (Value.int .i64))) :
 Calls Tryz.prog 67 #[.int .i64 a, .int .i64 b, .int .i64 sg, .pointer (some ⟨bv, 0, none⟩), .pointer (some ⟨bd, 0, none⟩), .pointer (some ⟨bt, 0, none⟩)] w fun e w' => e = .returned (.tuple #[.string (partT xs ds t a b sg), .bool true]) /\ Below w.heap.size w w' := by
 have hout := fun wx hcx => output_any L xs ds ao cap t a b wx hx hcx (by omega) hb (by omega) hl h1 h2
 have bd1 := dotTo_bd h1 h2 t a (b - a)
 have bs1 := sqTo_bd h1 a (b - a)
 obtain ⟨s, hs⟩ : ∃ s, s = sqTo xs a (b - a) := ⟨_, rfl⟩
 obtain ⟨d, hd'⟩ : ∃ d, d = dotTo xs ds t a (b - a) := ⟨_, rfl⟩
 have hP : partT xs ds t a b sg = if s = 0 then ofT 0 1 else ofT (sg * d * d) s := by rw [hs, hd']; rfl
 rw [<- hd'] at hout bd1
 rw [<- hs] at bs1
 have HS := Lib.hid hs; clear hs hd'
 generalize partT xs ds t a b sg = PT at *
 have HP := Lib.hid hP; clear hP
 have hcell : ∀ i x, xs[i]? = some x -> w.cell? ⟨bv, 1 + i, none⟩ = some (.int .i64 x) := fun i x hxx => (cell_of_row w _ _ _ _ _ hv).trans (shp_succ L xs i x hxx)
 have HCE := Lib.hid hcell; clear hcell
 have hi : (Tryz.prog.info? 129).map (·.size) = some (shp L xs).size := by rw [shp_size, hx]; kernel_rfl
 have H1 := Lib.hid h1
 generalize hV : shp L xs = V at hout hv hi
 clear hV
 have HV := Lib.hid hv; clear hv
 have HI := Lib.hid hi; clear hi
 have HO := Lib.hid hout; clear hout
 have HC := Lib.hid hc; clear hc
 have HT := Lib.hid ht; clear ht
 have HBD := Lib.hid bd1; clear bd1
 have hsl := run_sliceAt_mid (P := Tryz.prog) (w := w) 127 3 64 ⟨bv, 1, none⟩ a b Tryz.underlying127 (Tryz.sizeOf3 w) (by omega) (by omega) hb
 rw [Addr.add_lit] at hsl
 clear h1 h2
 have hba : ((b - a : Nat) : Int) = (b : Int) - a := by omega
 clear hba
 go_enter Tryz.func67, Tryz.ntmps67
 go_wp2
 clear hsl
 go_loop [11, 22] (fun s i => ∃ n : Nat, n <= b - a /\ i = .int .i64 (n : Int) /\ s = .int .i64 (sqTo xs a n)) (fun _ i => b - a - (intOf i).toNat)
 case atStart => exact ⟨0, Nat.zero_le _, rfl, rfl⟩
 case round =>
  obtain ⟨n, hn, rfl, rfl⟩ := hrel
  by_cases hlt : n < b - a
  · obtain ⟨x, hxx⟩ := get_of_lt (show a + n < xs.length by omega)
    have hcx := HCE.out _ _ hxx
    rw [<- Nat.add_assoc] at hcx
    have m1 := H1.out x (List.mem_of_getElem? hxx)
    have pd := ov_prod m1.1 m1.2 m1.1 m1.2
    have bs2 := sqTo_bd H1.out a n
    have e1 : sqTo xs a (n + 1) = sqTo xs a n + x * x := by simp [sqTo, hxx]
    have E1 := Lib.hid e1; clear e1 hxx
    have q1 : IntKind.i64.wrap (x * x) = x * x := IntWalk.i64_in _ (by omega)
    have q2 : IntKind.i64.wrap (sqTo xs a n + x * x) = sqTo xs a n + x * x := IntWalk.i64_in _ (by omega)
    go_wp2
    go_round
    case rel => exact ⟨n + 1, by omega, by go_num, by rw [E1.out]⟩
    case measure => simp [intOf]; omega
  · obtain rfl : n = b - a := by omega
    clear hlt hn
    have hbd := HBD.out
    rw [<- HS.out]
    by_cases h0 : s = 0
    · have HP0 : Hid (PT = ofT 0 1) := by rw [HP.out, if_pos h0]; exact Lib.hid rfl
      subst h0
      go_wp2
      go_ret2
      exact ⟨by rw [HP0.out, ofT_zero]; rfl, Below.refl _ _⟩
    · have hs0 : 0 < s := by omega
      have hsd : -266338304 <= sg * d /\ sg * d <= 266338304 := by rcases hsg with rfl | rfl <;> omega
      have hdd : -70936092178972416 <= sg * d * d /\ sg * d * d <= 70936092178972416 := by
       have hA : (sg * d).natAbs <= 266338304 := by omega
       have hB : d.natAbs <= 266338304 := by omega
       have h := Nat.mul_le_mul hA hB
       rw [<- Int.natAbs_mul] at h
       omega
      have q1 : IntKind.i64.wrap (sg * d) = sg * d := IntWalk.i64_in _ (by omega)
      have q2 : IntKind.i64.wrap (sg * d * d) = sg * d * d := IntWalk.i64_in _ (by omega)
      have hof := fun wx hT => of_any (sg * d * d) s wx hT (by omega) (by omega) (by omega) (by omega) (by omega)
      have hR : ratT (ofS (sg * d * d) s) (ofN (sg * d * d) s) (ofD (sg * d * d) s) = ofT (sg * d * d) s := rfl
      rw [hR] at hof
      have HOF := Lib.hid hof; clear hof hR
      have h0' : (s == 0) = false := by simpa using h0
      have HS0 := Lib.hid h0; clear h0
      clear hdd hsd hsg
      go_wp2_with (first
       | (refine wpList_load_row (by rfl) 129 _ (by rfl) bv (by rfl) _ V _ _ HV.out Tryz.underlying129 (by rfl) HI.out ?_)
       | (go_at_call 68; refine (HO.out _ HC.out).mono ?_; rintro e w1 ⟨rfl, hb1⟩)
       | (go_at_call 25; refine (HOF.out _ (HT.out.below hb1 (Nat.le_refl _))).mono ?_; rintro e w2 ⟨rfl, hb2⟩))
      go_ret2
      exact ⟨by rw [HP.out, if_neg HS0.out]; rfl, hb1.trans (hb2.mono hb1.size)⟩
end Go.Proofs.YtdpjdifoonfcdaaGreatDoor

namespace Go.Proofs.YtdpjdifoonfcdaaGreatDoor
open Go.RowKit
theorem val_takeD (l : List Nat) (i : Nat) : val (l.take (i + 1)) = val (l.take i) + B ^ i * l.getD i 0 := by
 rcases Nat.lt_or_ge i l.length with h | h
 · obtain ⟨x, hx⟩ := get_of_lt h
   rw [take_get hx, val_snoc, List.length_take, Nat.min_eq_left (by omega)]
   simp [List.getD, hx]
 · rw [List.take_of_length_le (by omega), List.take_of_length_le h]
   simp [List.getD, List.getElem?_eq_none h]
theorem plus_step {la lb os : List Nat} {i x y c : Nat} (hx : la[i]? = some x) (hy : lb.getD i 0 = y) (hl : os.length = i) (h : val (la.take i) + val (lb.take i) = val os + B ^ i * c) :
 val (la.take (i + 1)) + val (lb.take (i + 1)) = val (os ++ [(c + x + y) % B]) + B ^ (i + 1) * ((c + x + y) / B) := by
 rw [val_takeD, val_takeD, hy, val_snoc, hl]
 have h1 : la.getD i 0 = x := by simp [List.getD, hx]
 have h2 := Nat.mod_add_div (c + x + y) B
 rw [h1, Nat.pow_succ, Nat.mul_assoc]
 have h3 : B ^ i * ((c + x + y) % B) + B ^ i * (B * ((c + x + y) / B)) = B ^ i * c + B ^ i * x + B ^ i * y := by rw [<- Nat.mul_add, h2, Nat.mul_add, Nat.mul_add]
 omega
theorem plus_end {m n c : Nat} {os : List Nat} (hs : Sm os) (hl : os.length = (dig m).length) (hle : (dig n).length <= (dig m).length) (hc : c <= 1) (h : val ((dig m).take (dig m).length) + val ((dig n).take (dig m).length) = val os + B ^ (dig m).length * c) :
 (c = 0 -> dig (m + n) = os) /\ (c = 1 -> dig (m + n) = os ++ [1]) := by
 rw [List.take_length, val_dig, List.take_of_length_le hle, val_dig] at h
 refine ⟨fun h0 => ?_, fun h1 => ?_⟩
 · subst h0
   rw [Nat.mul_zero, Nat.add_zero] at h
   have h1 := dig_take _ os rfl hs
   rw [<- h] at h1
   have h2 : (dig m).length <= (dig (m + n)).length := dig_len_mono (by omega)
   rw [h1, List.take_of_length_le (by omega)]
 · subst h1
   have e : m + n = val (os ++ [1]) := by rw [val_snoc, hl, h]
   rw [e]
   refine dig_val (sm_append hs (sm_one (by decide))) (by simp)
theorem natV_own2 {w : World} {b : Nat} {v : Value} {n k : Nat} {os : List Nat} (h : w.ownsRow b 208 1 v k (dgs os)) (he : dig n = os) (hk : k = os.length) : NatV w v n := by
 subst hk; subst he; exact natV_own h
set_option maxRecDepth 100000 in
set_option maxHeartbeats 2000000 in
theorem natPlus_any (va vb : Value) (m n : Nat) (w : World) (ha : NatV w va m) (hb : NatV w vb n) (hm : (dig m).length <= 17592186044410) (hn : (dig n).length <= 17592186044410) :
 Calls Tryz.prog 176 #[va, vb] w fun e w' => (∃ v, e = .returned v /\ NatV w' v (m + n)) /\ Below w.heap.size w w' := by
 obtain ⟨i0, hi, hz0, hz1, hz2⟩ := info_parts Tryz.infoU64
 obtain ⟨aa, ca, rfl, ha, hac, hac2⟩ := ha
 obtain ⟨ab, cb, rfl, hb0, hbc, hbc2⟩ := hb
 obtain ⟨S, hS⟩ : ∃ S, S = m + n := ⟨_, rfl⟩
 rw [<- hS]
 have hall : ∃ (M N : Nat) (xa xb : Option Addr) (xc xd : Nat), M + N = S /\ Cells w xa (dgs (dig M)) /\ Cells w xb (dgs (dig N)) /\ (dig N).length <= (dig M).length /\ (dig M).length <= 17592186044410 /\ ((¬ (dig m).length < (dig n).length /\ M = m /\ N = n /\ xa = aa /\ xb = ab /\ xc = ca /\ xd = cb) ∨ ((dig m).length < (dig n).length /\ M = n /\ N = m /\ xa = ab /\ xb = aa /\ xc = cb /\ xd = ca)) := by
  rcases Nat.lt_or_ge (dig m).length (dig n).length with h | h
  · exact ⟨n, m, ab, aa, cb, ca, by omega, hb0, ha, by omega, hn, .inr ⟨h, rfl, rfl, rfl, rfl, rfl, rfl⟩⟩
  · exact ⟨m, n, aa, ab, ca, cb, by omega, ha, hb0, h, hm, .inl ⟨by omega, rfl, rfl, rfl, rfl, rfl, rfl⟩⟩
 obtain ⟨M, N, xa, xb, xc, xd, hsum, hA, hB, hle, hM, hcase⟩ := hall
 have HA := Lib.hid hA; have HB := Lib.hid hB; have HSUM := Lib.hid hsum
 clear hA hB hsum ha hb0 hS
 have ezz : IntKind.i64.wrap (((dig M).length : Int) + 1) = (((dig M).length + 1 : Nat) : Int) := by rw [show ((dig M).length : Int) + 1 = (((dig M).length + 1 : Nat) : Int) from by omega]; exact IntWalk.i64_in _ (by omega)
 rcases hcase with ⟨hlt, rfl, rfl, rfl, rfl, rfl, rfl⟩ | ⟨hlt, rfl, rfl, rfl, rfl, rfl, rfl⟩
 all_goals
  go_enter Tryz.func176, Tryz.ntmps176
  go_wp2_with (at_make; refine wpList_make_own _ rfl _ _ 144 rfl w.heap.size 208 i0 (.int .u64 0) 1 Tryz.underlying144 hi hz0 hz1 .i64 .i64 _ ((dig M).length + 1) rfl rfl (by omega) (by rw [hz2]; omega) (by unfold maxLen; omega) (Nat.le_refl _) ?_; intro w1 hown1 hgrow1)
  have hb1 := (Below.refl w.heap.size w).grown hgrow1 (Nat.le_refl _) (fun _ h => by cases h)
  clear hgrow1 ezz
  have HO1 := Lib.hid hown1; clear hown1
  go_wp2
  go_loopw [5, 6, 22] (fun ov cv iv wr => ∃ (i : Nat) (os : List Nat) (c : Nat), i <= (dig M).length /\ iv = .int .i64 i /\ cv = .int .u64 c /\ c <= 1 /\ Sm os /\ val ((dig M).take i) + val ((dig N).take i) = val os + B ^ i * c /\ os.length = i /\ wr.ownsRow w.heap.size 208 1 ov i (dgs os) /\ Below w.heap.size w wr) (fun _ _ iv _ => (dig M).length - (intOf iv).toNat)
  case atStart => exact ⟨0, [], 0, Nat.zero_le _, rfl, rfl, by omega, fun d hd => by simp at hd, by simp [val], rfl, HO1.out, hb1⟩
  case round =>
   clear hb1 HO1
   obtain ⟨i, os, c, hi9, rfl, rfl, hc1, hsm, heq, hol, hown, hb⟩ := hrel
   have hsz := hb.size
   have HOB : Hid (∀ j, u5.ownBlock = some j -> w.heap.size <= j) := fun j e => (hown.lt j e).1
   by_cases hii : i = (dig M).length
   · have hpe := plus_end (by exact hsm) (by rw [hol, hii]) hle hc1 (by rw [<- hii]; exact heq)
     have HPE := Lib.hid hpe; have HOL := Lib.hid hol; have HII := Lib.hid hii
     have hi1 : ¬ i < (dig M).length := by omega
     have hi2 : (dig M).length <= i := by omega
     clear hpe hsm heq hol hii
     rcases Nat.eq_zero_or_pos c with hc0 | hc0
     · subst hc0
       obtain ⟨g, cc, rfl, hcs, hcc1, hcc2⟩ := own_cap hown
       have HF := Lib.hid (natV_own2 hown (HPE.out.1 (by trivial)) HOL.out.symm)
       clear hcs hown
       go_wp2
       go_ret
       rw [<- HSUM.out]
       exact ⟨⟨_, rfl, HF.out⟩, hb⟩
     · obtain rfl : c = 1 := by omega
       go_wp2_with (at_builtin; refine wpList_append_own _ rfl _ _ 144 rfl w.heap.size 208 i0 (.int .u64 0) 1 8 Tryz.underlying144 hi hz0 hz1 hz2 rfl (by decide) _ _ _ rfl (hown.alloc _) ⟨wr.heap.size, 0, none⟩ 1 1 [.int .u64 1] rfl rfl (news1 _ _ _) (by simp [Value.oneCell']) (by unfold maxLen; omega) (by omega) (by simp; omega) ?_; intro v1 wz hown1 hgrow _)
       have hfin := hown1
       rw [show dgs os ++ [.int .u64 1] = dgs (os ++ [1]) from by rw [dgs_append]; rfl] at hfin
       have hbz := (hb.alloc hsz (.cells #[.int .u64 1] 208)).grown hgrow (by simp; omega) HOB.out
       have HF := Lib.hid (natV_own2 hfin (HPE.out.2 (by trivial)) (by rw [List.length_append, HOL.out]; rfl))
       obtain ⟨g, cc, rfl, hcs, hcc1, hcc2⟩ := own_cap hfin
       clear hown1 hgrow hown hcs hfin
       go_wp2
       go_ret
       rw [<- HSUM.out]
       exact ⟨⟨_, rfl, HF.out⟩, hbz⟩
   · have hilt : i < (dig M).length := by omega
     obtain ⟨x, hx⟩ := get_of_lt hilt
     obtain ⟨ba, offa, rfl⟩ := HA.out.addr (dgs_ne (by omega))
     have cx := cell_keep (HA.out.dgs hx) hb (Nat.le_refl _)
     have hxb := sm_get (sm_dig M) hx
     have j0 : (i : Int) < (dig M).length := by omega
     have HHX := Lib.hid hx; have HHEQ := Lib.hid heq; have HHSM := Lib.hid hsm; have HHOL := Lib.hid hol
     clear hx heq hsm hol hii
     by_cases hib : i < (dig N).length
     · obtain ⟨y, hy⟩ := get_of_lt hib
       obtain ⟨bb, offb, rfl⟩ := HB.out.addr (dgs_ne (by omega))
       have cy := cell_keep (HB.out.dgs hy) hb (Nat.le_refl _)
       have hyb := sm_get (sm_dig N) hy
       have hyd : (dig N).getD i 0 = y := by simp [List.getD, hy]
       have j1 : (i : Int) < (dig N).length := by omega
       have HEQ := Lib.hid (plus_step HHX.out hyd HHOL.out HHEQ.out)
       have HSM := Lib.hid (sm_append HHSM.out (sm_one (Nat.mod_lt (c + x + y) B_pos)))
       have hcl : (c + x + y) / B <= 1 := by
        have : (c + x + y) / B < 2 := Nat.div_lt_of_lt_mul (by simp only [B]; omega)
        omega
       have e1 : ((c : Int) + x + y) % 1000000000 = (((c + x + y) % B : Nat) : Int) := by simp [B]
       have e2 : ((c : Int) + x + y) / 1000000000 = (((c + x + y) / B : Nat) : Int) := by simp [B]
       have E1 := Lib.hid e1; have E2 := Lib.hid e2
       have HOSL := HHOL
       clear hy hyd e1 e2
       go_wp2_with (at_builtin; refine wpList_append_own _ rfl _ _ 144 rfl w.heap.size 208 i0 (.int .u64 0) 1 8 Tryz.underlying144 hi hz0 hz1 hz2 rfl (by decide) _ _ _ rfl (hown.alloc _) ⟨wr.heap.size, 0, none⟩ 1 1 [.int .u64 (((c : Int) + x + y) % 1000000000)] rfl rfl (news1 _ _ _) (by simp [Value.oneCell']) (by unfold maxLen; omega) (by omega) (by simp; omega) ?_; intro v1 wz hown1 hgrow _)
       have hfin := hown1
       rw [show dgs os ++ [.int .u64 (((c : Int) + x + y) % 1000000000)] = dgs (os ++ [(c + x + y) % B]) from by rw [dgs_append, E1.out]; rfl] at hfin
       have hbz := (hb.alloc hsz (.cells #[.int .u64 (((c : Int) + x + y) % 1000000000)] 208)).grown hgrow (by simp; omega) HOB.out
       clear hown1 hgrow hown
       have HFIN := Lib.hid hfin; clear hfin
       go_wp2
       go_roundw
       case rel => exact ⟨i + 1, os ++ [(c + x + y) % B], (c + x + y) / B, by omega, by go_num, by rw [E2.out], hcl, HSM.out, HEQ.out, by rw [List.length_append, HOSL.out]; rfl, by simpa using HFIN.out, hbz⟩
       case measure => simp [intOf]; omega
     · have hyd : (dig N).getD i 0 = 0 := by simp [List.getD, List.getElem?_eq_none (show (dig N).length <= i by omega)]
       have j1 : ¬ (i : Int) < (dig N).length := by omega
       have HEQ := Lib.hid (plus_step HHX.out hyd HHOL.out HHEQ.out)
       have HSM := Lib.hid (sm_append HHSM.out (sm_one (Nat.mod_lt (c + x + 0) B_pos)))
       have hcl : (c + x + 0) / B <= 1 := by
        have : (c + x + 0) / B < 2 := Nat.div_lt_of_lt_mul (by simp only [B]; omega)
        omega
       have e1 : ((c : Int) + x) % 1000000000 = (((c + x + 0) % B : Nat) : Int) := by simp [B]
       have e2 : ((c : Int) + x) / 1000000000 = (((c + x + 0) / B : Nat) : Int) := by simp [B]
       have E1 := Lib.hid e1; have E2 := Lib.hid e2
       have HOSL := HHOL
       clear  hyd e1 e2
       go_wp2_with (at_builtin; refine wpList_append_own _ rfl _ _ 144 rfl w.heap.size 208 i0 (.int .u64 0) 1 8 Tryz.underlying144 hi hz0 hz1 hz2 rfl (by decide) _ _ _ rfl (hown.alloc _) ⟨wr.heap.size, 0, none⟩ 1 1 [.int .u64 (((c : Int) + x) % 1000000000)] rfl rfl (news1 _ _ _) (by simp [Value.oneCell']) (by unfold maxLen; omega) (by omega) (by simp; omega) ?_; intro v1 wz hown1 hgrow _)
       have hfin := hown1
       rw [show dgs os ++ [.int .u64 (((c : Int) + x) % 1000000000)] = dgs (os ++ [(c + x + 0) % B]) from by rw [dgs_append, E1.out]; rfl] at hfin
       have hbz := (hb.alloc hsz (.cells #[.int .u64 (((c : Int) + x) % 1000000000)] 208)).grown hgrow (by simp; omega) HOB.out
       clear hown1 hgrow hown
       have HFIN := Lib.hid hfin; clear hfin
       go_wp2
       go_roundw
       case rel => exact ⟨i + 1, os ++ [(c + x + 0) % B], (c + x + 0) / B, by omega, by go_num, by rw [E2.out], hcl, HSM.out, HEQ.out, by rw [List.length_append, HOSL.out]; rfl, by simpa using HFIN.out, hbz⟩
       case measure => simp [intOf]; omega
end Go.Proofs.YtdpjdifoonfcdaaGreatDoor

namespace Go.Proofs.YtdpjdifoonfcdaaGreatDoor
open Go.Lib
def isDg (c : UInt8) : Bool := decide (48 <= c.toNat) && decide (c.toNat <= 57)
def dval (l : List UInt8) : Nat := l.foldl (fun a c => 10 * a + (c.toNat - 48)) 0
theorem dval_foldl (l : List UInt8) (a : Nat) : l.foldl (fun a c => 10 * a + (c.toNat - 48)) a = a * 10 ^ l.length + dval l := by
 unfold dval
 induction l generalizing a with
 | nil => simp
 | cons c l ih =>
   rw [List.foldl_cons, List.foldl_cons, ih, ih (10 * 0 + _), List.length_cons, Nat.pow_succ]
   rw [Nat.add_mul, Nat.mul_zero, Nat.zero_add, Nat.mul_comm 10 a, Nat.mul_assoc, Nat.mul_comm 10 (10 ^ _)]
   omega
theorem dval_append (a b : List UInt8) : dval (a ++ b) = dval a * 10 ^ b.length + dval b := by
 rw [dval, List.foldl_append, dval_foldl]; rfl
theorem dval_snoc (a : List UInt8) (c : UInt8) : dval (a ++ [c]) = 10 * dval a + (c.toNat - 48) := by
 rw [dval, List.foldl_append]; rfl
theorem dval_cons (c : UInt8) (l : List UInt8) : dval (c :: l) = (c.toNat - 48) * 10 ^ l.length + dval l := by
 rw [show c :: l = [c] ++ l from rfl, dval_append, show dval [c] = c.toNat - 48 from by show 10 * 0 + _ = _; omega]
theorem dval_lt : ∀ (l : List UInt8), l.all isDg = true -> dval l < 10 ^ l.length := by
 intro l
 induction l with
 | nil => intro _; simp [dval]
 | cons c l ih =>
   intro h
   rw [List.all_cons, Bool.and_eq_true] at h
   have h1 := ih h.2
   have h2 := h.1
   simp only [isDg, Bool.and_eq_true, decide_eq_true_eq] at h2
   rw [dval_cons, List.length_cons, Nat.pow_succ]
   have : (c.toNat - 48) * 10 ^ l.length <= 9 * 10 ^ l.length := Nat.mul_le_mul_right _ (by omega)
   omega
def natP (l : List UInt8) : Option Nat := if l = [] then none else if l.all isDg then some (dval l) else none
theorem dg_of (d : Nat) (h : d < 10) : isDg (UInt8.ofNat (48 + d)) = true /\ (UInt8.ofNat (48 + d)).toNat = 48 + d := by
 have e : (UInt8.ofNat (48 + d)).toNat = 48 + d := by rw [UInt8.toNat_ofNat']; omega
 refine ⟨?_, e⟩
 rw [isDg, e]; simp; omega
theorem dec_read (n : Nat) : (decDigits n).all isDg = true /\ dval (decDigits n) = n /\ decDigits n ≠ [] := by
 induction n using Nat.strongRecOn with
 | ind n ih =>
   by_cases h : n < 10
   · have e : decDigits n = [UInt8.ofNat (48 + n)] := by rw [decDigits, dif_pos h]
     have h1 := dg_of n h
     rw [e]
     refine ⟨by rw [List.all_cons, h1.1]; rfl, ?_, by simp⟩
     show 10 * 0 + _ = n
     rw [h1.2]; omega
   · obtain ⟨i1, i2, i3⟩ := ih (n / 10) (by omega)
     have h1 := dg_of (n % 10) (by omega)
     rw [decDigits_step h]
     refine ⟨by rw [List.all_append, i1, List.all_cons, h1.1]; rfl, ?_, by simp⟩
     rw [dval_snoc, i2, h1.2]; omega
theorem natP_dec (n : Nat) : natP (decDigits n) = some n := by
 obtain ⟨h1, h2, h3⟩ := dec_read n
 rw [natP, if_neg h3, if_pos h1, h2]
theorem chunk_val {l : List UInt8} {ds : List Nat} {k j n : Nat} (hj : j <= k) (hn : n = dval ((l.drop j).take (k - j))) (hd : l.length - k = 9 * ds.length) (hv : val ds = dval (l.drop k)) :
 val (ds ++ [n]) = dval (l.drop j) := by
 have e : l.drop j = (l.drop j).take (k - j) ++ l.drop k := by
  conv => lhs; rw [<- List.take_append_drop (k - j) (l.drop j)]
  rw [List.drop_drop, show j + (k - j) = k from by omega]
 rw [e, dval_append, List.length_drop, <- hv, <- hn, val_snoc, hd, B_pow, Nat.mul_comm n]
 omega
theorem all_drop {l : List UInt8} {j k : Nat} (hj : j <= k) (h1 : ((l.drop j).take (k - j)).all isDg = true) (h2 : (l.drop k).all isDg = true) : (l.drop j).all isDg = true := by
 have e : l.drop j = (l.drop j).take (k - j) ++ l.drop k := by
  conv => lhs; rw [<- List.take_append_drop (k - j) (l.drop j)]
  rw [List.drop_drop, show j + (k - j) = k from by omega]
 rw [e, List.all_append, h1, h2]; rfl
end Go.Proofs.YtdpjdifoonfcdaaGreatDoor

namespace Go.Proofs.YtdpjdifoonfcdaaGreatDoor
open Go.RowKit
def NatTextRes (l : List UInt8) (w : World) (e : Ending) (w' : World) : Prop :=
 (match natP l with
  | none => e = .returned (.tuple #[.slice none 0 0, .bool false])
  | some n => ∃ v, e = .returned (.tuple #[v, .bool true]) /\ NatV w' v n) /\ Below w.heap.size w w'
theorem natTextRes_none {l : List UInt8} {w w' : World} (h : natP l = none) (hb : Below w.heap.size w w') : NatTextRes l w (.returned (.tuple #[.slice none 0 0, .bool false])) w' := ⟨by rw [h], hb⟩
theorem natTextRes_some {l : List UInt8} {w w' : World} {n : Nat} {v : Value} (h : natP l = some n) (hv : NatV w' v n) (hb : Below w.heap.size w w') : NatTextRes l w (.returned (.tuple #[v, .bool true])) w' := ⟨by rw [h]; exact ⟨v, rfl, hv⟩, hb⟩
theorem natP_bad {l : List UInt8} {i : Nat} {c : UInt8} (h : l[i]? = some c) (hc : isDg c = false) : natP l = none := by
 rw [natP]
 split
 · rfl
 · rw [if_neg]
   intro ha
   have := List.all_eq_true.1 ha c (List.mem_of_getElem? h)
   rw [hc] at this; cases this
theorem byte_get {t : ByteArray} {i : Nat} (h : i < t.size) : ∃ c, t.data.toList[i]? = some c /\ t[i] = c := ⟨t[i], by rw [List.getElem?_eq_getElem (by simpa using h)]; rfl, rfl⟩
set_option maxRecDepth 100000 in
set_option maxHeartbeats 2000000 in
theorem natText_read (s : ByteArray) (w : World) (hs : s.size <= 140737488351232) :
 Calls Tryz.prog 244 #[.string s] w (NatTextRes s.data.toList w) := by
 obtain ⟨i0, hi, hz0, hz1, hz2⟩ := info_parts Tryz.infoU64
 obtain ⟨l, hl⟩ : ∃ l, l = s.data.toList := ⟨_, rfl⟩
 have hsl : s.size = l.length := by rw [hl]; rfl
 rw [<- hl]
 by_cases h0 : l = []
 · have h00 : s = ⟨#[]⟩ := by
    have : s.data = #[] := by rw [hl] at h0; simpa using h0
    cases s; simp_all
   have hp : natP l = none := by rw [natP, if_pos h0]
   have HP := Lib.hid hp
   subst h00
   clear hp h0 hl hsl
   go_enter Tryz.func244, Tryz.ntmps244
   go_wp2
   go_ret2
   exact natTextRes_none HP.out (Below.refl _ _)
 · have HL := Lib.hid hl; have H0 := Lib.hid h0
   have hpos : 0 < l.length := List.length_pos_iff.2 h0
   have hne : s.toList.isEmpty = false := by rw [Lib.toList_data, <- hl]; simpa using h0
   have hsl1 : l.length <= 140737488351232 := by omega
   clear h0 hl hsl
   go_enter Tryz.func244, Tryz.ntmps244
   go_wp2_with fail
   clear hne
   go_loopw [4, 0] (fun ov sv wr => ∃ (t : ByteArray) (k : Nat) (ds : List Nat), sv = .string t /\ t.data.toList = l.take k /\ k <= l.length /\ (l.length - k = 9 * ds.length ∨ k = 0) /\ val ds = dval (l.drop k) /\ (l.drop k).all isDg = true /\ Sm ds /\ ds.length + k <= l.length /\ wr.ownsRow w.heap.size 208 1 ov ds.length (dgs ds) /\ Below w.heap.size w wr) (fun _ sv _ => match sv with | .string t => t.size | _ => 0)
   case atStart => exact ⟨s, l.length, [], rfl, by rw [List.take_length, HL.out], Nat.le_refl _, .inl (by simp), by rw [List.drop_length]; rfl, by rw [List.drop_length]; rfl, fun d hd => by simp at hd, by simp, World.ownsRow_nil _ _ _ _, Below.refl _ _⟩
   case round =>
    clear hs
    obtain ⟨t, k, ds, rfl, ht, hk, hor, hv, hall, hsm, hdl, hown, hb⟩ := hrel
    have hts : t.size = k := by
     have := congrArg List.length ht
     rw [List.length_take, Nat.min_eq_left hk] at this; exact this
    rcases Nat.eq_zero_or_pos k with hk0 | hk0
    · subst hk0
      rw [List.drop_zero] at hv hall
      have hp : natP l = some (dval l) := by rw [natP, if_neg H0.out, if_pos hall]
      rw [<- hv] at hp
      have HP := Lib.hid hp
      obtain ⟨g, cc, rfl, hcs, hcc1, hcc2⟩ := own_cap hown
      unfold maxLen at hcc2
      have hle := lean_any g ds cc wr hcs hsm (by omega) hcc1 hcc2
      have hdv : (dig (val ds)).length <= ds.length := dig_len_val hsm
      have HLE := Lib.hid hle
      clear hle hcs hown hv hall hsm hp ht
      have z1 : ¬ 0 < t.size := by omega
      have z2 : t.size <= 0 := by omega
      clear hts
      go_wp2_with fail
      refine HLE.out.mono ?_
      rintro e w1 ⟨⟨rfl, hcl⟩, rfl⟩
      have HCL := Lib.hid hcl; clear hcl
      go_wp2
      go_ret2
      exact natTextRes_some HP.out ⟨_, _, rfl, HCL.out, by omega, by omega⟩ hb
    · have hd9 : l.length - k = 9 * ds.length := by omega
      have hdl9 : ds.length <= 15637498706148 := by omega
      have z1 : 0 < t.size := by omega
      have hgetc : ∀ i, i < k -> ∃ c, l[i]? = some c /\ ∃ h : i < t.size, t[i] = c := fun i h => by
       obtain ⟨c, h1, h2⟩ := byte_get (t := t) (i := i) (by omega)
       refine ⟨c, ?_, by omega, h2⟩
       rw [ht, List.getElem?_take, if_pos h] at h1
       exact h1
      have hext : ∀ j, j <= k -> (t.extract 0 j).data.toList = l.take j := fun j h => by
       have : (t.extract 0 j).data.toList = t.data.toList.take j := by simp [ByteArray.data_extract]
       rw [this, ht, List.take_take, Nat.min_eq_left h]
      obtain ⟨j, hj⟩ : ∃ j, j = k - 9 := ⟨_, rfl⟩
      have HJ9 := Lib.hid (show j = 0 ∨ k = j + 9 by omega)
      have hjk : j <= k := by omega
      have hkj : k - j <= 9 := by omega
      have hjlt : j < k := by omega
      have emax : max (0 : Int) ((k : Int) - 9) = (j : Int) := by omega
      have HGC := Lib.hid hgetc; have HEX := Lib.hid hext; have HV := Lib.hid hv; have HALL := Lib.hid hall; have HSM := Lib.hid hsm; have HD9 := Lib.hid hd9; have HTS := Lib.hid hts
      clear hgetc hext hv hall hsm hd9 ht hor hj hts
      have hsz := hb.size
      have ets : (t.size : Int) = (k : Int) := by rw [HTS.out]
      have ewr : IntKind.i64.wrap ((k : Int) - 9) = (k : Int) - 9 := IntWalk.i64_in _ (by omega)
      go_wp2_with fail
      clear emax ewr
      go_loop [6, 7] (fun nv iv => ∃ i n : Nat, j <= i /\ i <= k /\ iv = .int .i64 i /\ nv = .int .u64 n /\ n = dval ((l.drop j).take (i - j)) /\ ((l.drop j).take (i - j)).all isDg = true) (fun _ iv => k - (intOf iv).toNat)
      case atStart => exact ⟨j, 0, Nat.le_refl _, hjk, rfl, rfl, by rw [Nat.sub_self, List.take_zero]; rfl, by rw [Nat.sub_self, List.take_zero]; rfl⟩
      case round =>
       obtain ⟨i, n, hji, hik, rfl, rfl, hn, ha⟩ := hrel
       have hn9 : n < 1000000000 := by
        have h1 := dval_lt _ ha
        rw [<- hn] at h1
        have h2 : ((l.drop j).take (i - j)).length <= 9 := by rw [List.length_take]; omega
        have h3 := Nat.pow_le_pow_right (n := 10) (by decide) h2
        omega
       by_cases hlt : i < k
       · obtain ⟨c, hlc, hit, rfl⟩ := HGC.out i hlt
         have hc8 : (t[i].toNat : Int) <= 255 := by have := t[i].toNat_lt; omega
         have htk : (l.drop j).take (i + 1 - j) = (l.drop j).take (i - j) ++ [t[i]] := by
          rw [show i + 1 - j = (i - j) + 1 from by omega, List.take_add_one, List.getElem?_drop, show j + (i - j) = i from by omega, hlc]; rfl
         have HLC := Lib.hid hlc; have HTK := Lib.hid htk; have HN := Lib.hid hn; have HAA := Lib.hid ha
         clear hlc htk hn ha
         have i1 : (i : Int) < (k : Int) := by omega
         have i2 : (0 : Int) <= (i : Int) := by omega
         have i3 : (i : Int) < (t.size : Int) := by omega
         by_cases hd : isDg t[i] = true
         · have hd2 := hd
           simp only [isDg, Bool.and_eq_true, decide_eq_true_eq] at hd2
           have hd3 : (48 : Int) <= (t[i].toNat : Int) /\ (t[i].toNat : Int) <= 57 := by omega
           obtain ⟨d1, d2⟩ := hd3
           have en : (10 * (n : Int) + ((t[i].toNat : Int) - 48)) = ((10 * n + (t[i].toNat - 48) : Nat) : Int) := by omega
           have HD := Lib.hid hd; have EN := Lib.hid en
           clear hd hd2 en
           go_wp2_with fail
           go_round
           case rel => exact ⟨i + 1, 10 * n + (t[i].toNat - 48), by omega, by omega, by go_num, by rw [EN.out], by rw [HTK.out, dval_snoc, HN.out], by rw [HTK.out, List.all_append, HAA.out, List.all_cons, HD.out]; rfl⟩
           case measure => simp [intOf]; omega
         · have hdf : isDg t[i] = false := by simpa using hd
           have hp := natP_bad HLC.out hdf
           have hd3 : (t[i].toNat : Int) < 48 ∨ (57 : Int) < (t[i].toNat : Int) := by
            simp only [isDg, Bool.and_eq_false_iff, decide_eq_false_iff_not] at hdf
            omega
           have HP := Lib.hid hp
           clear hd hdf hp
           rcases hd3 with hd3 | hd3
           · go_wp2_with fail
             go_ret2
             exact natTextRes_none HP.out hb
           · have hd4 : (48 : Int) <= (t[i].toNat : Int) := by omega
             go_wp2_with fail
             go_ret2
             exact natTextRes_none HP.out hb
       · obtain rfl : i = k := by omega
         have hv2 := chunk_val hji hn HD9.out HV.out
         have ha2 := all_drop hji ha HALL.out
         have hsm2 := sm_append HSM.out (sm_one (show n < B by simp only [B]; omega))
         have he2 := HEX.out j hji
         have HV2 := Lib.hid hv2; have HA2 := Lib.hid ha2; have HSM2 := Lib.hid hsm2; have HE2 := Lib.hid he2
         have HOB : Hid (∀ j, u4.ownBlock = some j -> w.heap.size <= j) := fun j e => (hown.lt j e).1
         have hlast : l.length - j = 9 * (ds ++ [n]).length ∨ j = 0 := by
          rw [List.length_append, List.length_singleton]
          have := HD9.out
          have := HJ9.out
          omega
         have HLS := Lib.hid hlast
         have i1 : ¬ ((i : Int) < (i : Int)) := by omega
         clear hn ha hv2 ha2 hsm2 he2 hlast
         go_wp2_with (at_builtin; refine wpList_append_own _ rfl _ _ 144 rfl w.heap.size 208 i0 (.int .u64 0) 1 8 Tryz.underlying144 hi hz0 hz1 hz2 rfl (by decide) _ _ _ rfl (hown.alloc _) ⟨wr.heap.size, 0, none⟩ 1 1 [.int .u64 (n : Nat)] rfl rfl (news1 _ _ _) (by simp [Value.oneCell']) (by unfold maxLen; omega) (by omega) (by simp; omega) ?_; intro v1 wz hown1 hgrow _)
         have hfin := hown1
         rw [show dgs ds ++ [.int .u64 (n : Nat)] = dgs (ds ++ [n]) from by rw [dgs_append]; rfl] at hfin
         have hbz := (hb.alloc hsz (.cells #[.int .u64 (n : Nat)] 208)).grown hgrow (by simp; omega) HOB.out
         clear hown1 hgrow hown
         have HFIN := Lib.hid hfin; clear hfin
         have j1 : (0 : Int) <= (j : Int) := by omega
         have j2 : (j : Int) <= (t.size : Int) := by omega
         go_wp2_with fail
         go_roundw
         case rel => exact ⟨t.extract 0 j, j, ds ++ [n], rfl, HE2.out, by omega, HLS.out, HV2.out, HA2.out, HSM2.out, by rw [List.length_append, List.length_singleton]; omega, by simpa using HFIN.out, hbz⟩
         case measure =>
          have : (t.extract 0 j).data.toList.length = j := by rw [HE2.out, List.length_take, Nat.min_eq_left (by omega)]
          have h2 : (t.extract 0 j).size = j := this
          simp [h2]; omega
end Go.Proofs.YtdpjdifoonfcdaaGreatDoor

namespace Go.Proofs.YtdpjdifoonfcdaaGreatDoor
open Go.RowKit
theorem indexB_one (s : ByteArray) (c : UInt8) : Lib.indexB s ⟨#[c]⟩ = Lib.indexByte s.data.toList c := Lib.index_one _ _
set_option maxHeartbeats 1000000 in
set_option maxRecDepth 100000 in
theorem slCut_slash (s : ByteArray) (w : World) (hs : s.size <= 140737488351232) :
 Calls Tryz.prog 249 #[.string s, .string ⟨#[47]⟩] w fun e w' => e = .returned (.tuple #[.string ⟨(Lib.cut s.data.toList [47]).1.toArray⟩, .string ⟨(Lib.cut s.data.toList [47]).2.1.toArray⟩, .bool (Lib.cut s.data.toList [47]).2.2]) /\ ∃ n, w' = w.drewN n := by
 rcases Lib.indexB_cases s ⟨#[47]⟩ with hix | ⟨i, hix, hroom⟩
 · obtain ⟨e1, e2, e3⟩ := Lib.cutB_miss s ⟨#[47]⟩ hix
   rw [indexB_one] at hix
   have E1 : Hid ((⟨(Lib.cut s.data.toList [47]).1.toArray⟩ : ByteArray) = s) := e1
   have E2 : Hid ((⟨(Lib.cut s.data.toList [47]).2.1.toArray⟩ : ByteArray) = ByteArray.empty) := e2
   have E3 : Hid ((Lib.cut s.data.toList [47]).2.2 = false) := e3
   have HIX := Lib.hid hix
   clear hix e1 e2 e3
   go_enter Tryz.func249, Tryz.ntmps249
   go_wp2_with fail
   refine (Tryz.stringslite_Index_one s 47 _).mono ?_
   rintro e w' ⟨rfl, rfl⟩
   rw [HIX.out]
   go_wp2
   go_ret3
   exact ⟨by rw [E1.out, E2.out, E3.out]; rfl, 0, rfl⟩
 · obtain ⟨e1, e2, e3⟩ := Lib.cutB_hit s ⟨#[47]⟩ i hix
   rw [indexB_one] at hix
   have hs1 : (⟨#[47]⟩ : ByteArray).size = 1 := rfl
   rw [hs1] at hroom e2
   have E1 : Hid ((⟨(Lib.cut s.data.toList [47]).1.toArray⟩ : ByteArray) = s.extract 0 i) := e1
   have E2 : Hid ((⟨(Lib.cut s.data.toList [47]).2.1.toArray⟩ : ByteArray) = s.extract (i + 1) s.size) := e2
   have E3 : Hid ((Lib.cut s.data.toList [47]).2.2 = true) := e3
   have HIX := Lib.hid hix
   clear hix e1 e2 e3
   have c1 : (0 : Int) <= ↑i := by omega
   have c2 : (↑i : Int) <= ↑s.size := by omega
   have c3 : (0 : Int) <= ↑i + 1 := by omega
   have c4 : (↑i + 1 : Int) <= ↑s.size := by omega
   have c5 : ((i : Int) + 1).toNat = i + 1 := by omega
   have c6 : IntKind.i64.wrap ((i : Int) + 1) = (i : Int) + 1 := IntWalk.i64_in _ (by omega)
   go_enter Tryz.func249, Tryz.ntmps249
   go_wp2_with fail
   refine (Tryz.stringslite_Index_one s 47 _).mono ?_
   rintro e w' ⟨rfl, rfl⟩
   rw [HIX.out]
   go_wp2_with fail
   go_quiet (fail)
   go_wp2
   go_ret3
   exact ⟨by rw [E1.out, E2.out, E3.out]; rfl, _, rfl⟩
theorem cut_slash (s : ByteArray) (w : World) (hs : s.size <= 140737488351232) :
 Calls Tryz.prog 208 #[.string s, .string ⟨#[47]⟩] w fun e w' => e = .returned (.tuple #[.string ⟨(Lib.cut s.data.toList [47]).1.toArray⟩, .string ⟨(Lib.cut s.data.toList [47]).2.1.toArray⟩, .bool (Lib.cut s.data.toList [47]).2.2]) /\ ∃ n, w' = w.drewN n := by
 go_enter Tryz.func208, Tryz.ntmps208
 go_wp2_with fail
 refine (slCut_slash s _ hs).mono ?_
 rintro e w' ⟨rfl, n, rfl⟩
 go_wp2
 go_ret3
 exact ⟨rfl, n, rfl⟩
end Go.Proofs.YtdpjdifoonfcdaaGreatDoor

namespace Go.Proofs.YtdpjdifoonfcdaaGreatDoor
open Go.RowKit
def parseD (m : Bool) (c : List UInt8 × List UInt8 × Bool) : Option (Bool × Nat × Nat) :=
 match natP c.1 with
 | none => none
 | some n => if c.2.2 = true then (match natP c.2.1 with | none => none | some d => if d = 0 then none else some (m, n, d)) else some (m, n, 1)
def parseR (l : List UInt8) : Option (Bool × Nat × Nat) := parseD (Lib.hasPrefix l [45]) (Lib.cut (Lib.trimPrefix l [45]) [47])
def ParsedRes (r : Option (Bool × Nat × Nat)) (w : World) (e : Ending) (w' : World) : Prop :=
 (match r with
  | none => e = .returned (.tuple #[.agg #[.bool false, .slice none 0 0, .slice none 0 0], .bool false])
  | some (m, n, d) => ∃ v, e = .returned (.tuple #[v, .bool true]) /\ RatV w' v (m && decide (n ≠ 0)) (n / Nat.gcd n d) (d / Nat.gcd n d)) /\ Below w.heap.size w w'
theorem parsed_none {r : Option (Bool × Nat × Nat)} {w w' : World} (h : r = none) (hb : Below w.heap.size w w') : ParsedRes r w (.returned (.tuple #[.agg #[.bool false, .slice none 0 0, .slice none 0 0], .bool false])) w' := by subst h; exact ⟨rfl, hb⟩
theorem parsed_some {r : Option (Bool × Nat × Nat)} {w w' : World} {m : Bool} {n d : Nat} {v : Value} (h : r = some (m, n, d)) (hv : RatV w' v (m && decide (n ≠ 0)) (n / Nat.gcd n d) (d / Nat.gcd n d)) (hb : Below w.heap.size w w') : ParsedRes r w (.returned (.tuple #[v, .bool true])) w' := by subst h; exact ⟨⟨v, rfl, hv⟩, hb⟩
theorem natP_some {l : List UInt8} {n : Nat} (h : natP l = some n) : n < 10 ^ l.length := by
 rw [natP] at h
 split at h
 · cases h
 · split at h
   · rename_i h2
     rw [<- Option.some.inj h]
     exact dval_lt l h2
   · cases h
theorem natP_len {l : List UInt8} {n : Nat} (h : natP l = some n) : (dig n).length <= l.length / 9 + 1 := by
 have h1 := natP_some h
 refine dig_len_lt (Nat.lt_of_lt_of_le h1 ?_)
 rw [B_pow]
 exact Nat.pow_le_pow_right (by decide) (by omega)
theorem cut_len (l : List UInt8) : (Lib.cut l [47]).1.length <= l.length /\ (Lib.cut l [47]).2.1.length <= l.length := by
 unfold Lib.cut
 split
 · simp only [List.length_take, List.length_drop]; omega
 · simp
theorem trim_len (l p : List UInt8) : (Lib.trimPrefix l p).length <= l.length := by
 unfold Lib.trimPrefix
 split
 · rw [List.length_drop]; omega
 · exact Nat.le_refl _
theorem arr_size (l : List UInt8) : (⟨l.toArray⟩ : ByteArray).size = l.length := by
 show l.toArray.size = l.length
 simp
set_option maxRecDepth 100000 in
set_option maxHeartbeats 2000000 in
theorem parsed_any (s : ByteArray) (w : World) (hs : s.size <= 140737488351232) :
 Calls Tryz.prog 199 #[.string s] w (ParsedRes (parseR s.data.toList) w) := by
 have hcl := cut_len (Lib.trimPrefix s.data.toList [45])
 have htl := trim_len s.data.toList [45]
 have hsl : s.data.toList.length = s.size := rfl
 have hts : (⟨(Lib.trimPrefix s.data.toList [45]).toArray⟩ : ByteArray).size <= 140737488351232 := by rw [arr_size]; omega
 have hcut := fun W => cut_slash ⟨(Lib.trimPrefix s.data.toList [45]).toArray⟩ W hts
 have htd : (⟨(Lib.trimPrefix s.data.toList [45]).toArray⟩ : ByteArray).data.toList = Lib.trimPrefix s.data.toList [45] := by simp
 have hcp := fun W => Tryz.strings_CutPrefix s ⟨#[45]⟩ W
 have hcp2 : ∀ W, Calls Tryz.prog 243 #[.string s, .string ⟨#[45]⟩] W fun e w' => e = .returned (.tuple #[.string ⟨(Lib.trimPrefix s.data.toList [45]).toArray⟩, .bool (Lib.hasPrefix s.data.toList [45])]) /\ w' = W := hcp
 clear hcp
 rw [htd] at hcut
 have hpr : parseR s.data.toList = parseD (Lib.hasPrefix s.data.toList [45]) (Lib.cut (Lib.trimPrefix s.data.toList [45]) [47]) := rfl
 rw [hpr]
 clear hpr htd
 obtain ⟨hc1, hc2⟩ := hcl
 have h1 : (Lib.cut (Lib.trimPrefix s.data.toList [45]) [47]).1.length <= 140737488351232 := by omega
 have h2 : (Lib.cut (Lib.trimPrefix s.data.toList [45]) [47]).2.1.length <= 140737488351232 := by omega
 clear hc1 hc2 htl hsl hts hs
 generalize (Lib.cut (Lib.trimPrefix s.data.toList [45]) [47]) = c at *
 generalize (Lib.hasPrefix s.data.toList [45]) = m at *
 generalize (⟨(Lib.trimPrefix s.data.toList [45]).toArray⟩ : ByteArray) = dg at *
 obtain ⟨la, lb, dv⟩ := c
 simp only at *
 obtain ⟨r, hr⟩ : ∃ r, r = parseD m (la, lb, dv) := ⟨_, rfl⟩
 rw [<- hr]
 have hra : natP la = none -> r = none := fun h => by rw [hr, parseD, h]
 have hrb : ∀ n, natP la = some n -> dv = false -> r = some (m, n, 1) := fun n h h3 => by rw [hr, parseD, h, h3]; rfl
 have hrc : ∀ n, natP la = some n -> dv = true -> natP lb = none -> r = none := fun n h h3 h4 => by rw [hr, parseD, h, h3]; simp [h4]
 have hrd : ∀ n, natP la = some n -> dv = true -> natP lb = some 0 -> r = none := fun n h h3 h4 => by rw [hr, parseD, h, h3]; simp [h4]
 have hre : ∀ n d, natP la = some n -> dv = true -> natP lb = some d -> d ≠ 0 -> r = some (m, n, d) := fun n d h h3 h4 h5 => by rw [hr, parseD, h, h3]; simp [h4, h5]
 have hta : ∀ W, Calls Tryz.prog 244 #[.string ⟨la.toArray⟩] W (NatTextRes la W) := fun W => natText_read ⟨la.toArray⟩ W (by rw [arr_size]; exact h1)
 have htb : ∀ W, Calls Tryz.prog 244 #[.string ⟨lb.toArray⟩] W (NatTextRes lb W) := fun W => natText_read ⟨lb.toArray⟩ W (by rw [arr_size]; exact h2)
 have HCUT := Lib.hid hcut; have HCP := Lib.hid hcp2; have HRA := Lib.hid hra; have HRB := Lib.hid hrb; have HRC := Lib.hid hrc; have HRD := Lib.hid hrd; have HRE := Lib.hid hre; have HTA := Lib.hid hta; have HTB := Lib.hid htb
 clear hcut hcp2 hra hrb hrc hrd hre hta htb hr
 obtain ⟨W0, hW0⟩ : ∃ W0, W0 = w.alloc (.cells #[.bool false, .slice none 0 0, .slice none 0 0] 146) := ⟨_, rfl⟩
 have hbw : Below w.heap.size w W0 := by rw [hW0]; exact (Below.refl w.heap.size w).alloc (Nat.le_refl _) _
 have hz0 : W0.heap.size = w.heap.size + 1 := by rw [hW0]; simp
 have HBX : Hid (∀ {B : Nat} {w1 : World}, Below B W0 w1 -> w.heap.size < B -> (∀ i, w1.cell? ⟨w.heap.size, i, none⟩ = #[Value.bool false, .slice none 0 0, .slice none 0 0][i]?) /\ (∀ i, w1.frozen? ⟨w.heap.size, i, none⟩ = false)) := fun hb hB => by
  rw [hW0] at hb
  exact ⟨fun i => box_keep hb hB i, fun i => box_free hb hB i⟩
 have HBW := Lib.hid hbw
 clear hbw
 go_enter Tryz.func199, Tryz.ntmps199
 go_wp2_with fail
 rw [<- hW0]
 have HW0 := Lib.hid hW0
 clear hW0
 refine (HCP.out _).mono ?_
 rintro e w' ⟨rfl, rfl⟩
 go_wp2_with fail
 refine (HCUT.out _).mono ?_
 rintro e w' ⟨rfl, nd, rfl⟩
 go_wp2_with fail
 refine (HTA.out _).mono ?_
 rintro e w1 ⟨hm1, hb1⟩
 have hbx1 := (bel_drewN (Below.refl w'.heap.size w') nd).trans hb1
 clear hb1
 rcases hna : natP la with _ | n
 · rw [hna] at hm1
   have HR := Lib.hid (HRA.out hna)
   clear hna
   subst hm1
   obtain ⟨f1, f2⟩ := HBX.out hbx1 (by omega)
   have q0 := f1 0
   have q1 := f1 1
   have q2 := f1 2
   simp only [List.getElem?_toArray, List.getElem?_cons_succ, List.getElem?_cons_zero] at q0 q1 q2
   have g0 := f2 0
   have g1 := f2 1
   have g2 := f2 2
   clear f1 f2
   go_wp2
   refine bodyPost_ret (v := .tuple #[.agg #[.bool false, .slice none 0 0, .slice none 0 0], .bool false]) (by simp [results, Tryz.results199, go_sem, q0, q1, q2]) rfl ?_
   exact parsed_none HR.out ((((HBW.out.trans (hbx1.mono (by omega))).setCell (Nat.le_refl _) _).setCell (Nat.le_refl _) _).setCell (Nat.le_refl _) _)
 · rw [hna] at hm1
   obtain ⟨vn, rfl, hvn⟩ := hm1
   have hnl := natP_len hna
   have HNA := Lib.hid hna
   clear hna
   have HVN := Lib.hid hvn
   obtain ⟨an, cn, rfl⟩ := hvn.cases
   clear hvn
   go_wp2_with fail
   refine (one_any _).mono ?_
   rintro e w2 ⟨⟨v1, rfl, hv1⟩, hb2⟩
   have hbx2 := hbx1.trans (hb2.mono hbx1.size)
   have HVN2 := Lib.hid (HVN.out.below hb2 (Nat.le_refl _))
   have HV1 := Lib.hid hv1
   obtain ⟨a1, c1, rfl⟩ := hv1.cases
   clear hv1 hb2 hbx1
   cases dv
   · have HR := Lib.hid (HRB.out n HNA.out (by trivial))
     have hred := fun va vb W ha hb => reduced_any 2 (overOK_all _) m va vb n 1 W ha hb (by omega) (by rw [dig_1]; simp) (by decide) (by decide)
     have HRED := Lib.hid hred
     clear hred
     go_wp2_with fail
     refine (HRED.out _ _ _ HVN2.out HV1.out).mono ?_
     rintro e w3 ⟨⟨v3, rfl, hv3⟩, hb3⟩
     have hbx3 := hbx2.trans (hb3.mono hbx2.size)
     have HV3 := Lib.hid hv3
     obtain ⟨vx, vy, rfl, hx, hy⟩ := hv3
     obtain ⟨ax, cx, rfl⟩ := hx.cases
     obtain ⟨ay, cy, rfl⟩ := hy.cases
     have HX := Lib.hid hx; have HY := Lib.hid hy
     clear hx hy hb3 hbx2
     obtain ⟨f1, f2⟩ := HBX.out hbx3 (by omega)
     have q0 := f1 0
     have q1 := f1 1
     have q2 := f1 2
     simp only [List.getElem?_toArray, List.getElem?_cons_succ, List.getElem?_cons_zero] at q0 q1 q2
     have g0 := f2 0
     have g1 := f2 1
     have g2 := f2 2
     clear f1 f2
     go_wp2
     refine bodyPost_ret (v := .tuple #[.agg #[.bool (m && decide (n ≠ 0)), .slice ax (dig (n / Nat.gcd n 1)).length cx, .slice ay (dig (1 / Nat.gcd n 1)).length cy], .bool true]) (by simp [results, Tryz.results199, go_sem, q0, q1, q2]) rfl ?_
     exact parsed_some HR.out ⟨_, _, rfl, HX.out.box3 q0 q1 q2 trivial trivial trivial, HY.out.box3 q0 q1 q2 trivial trivial trivial⟩ ((((HBW.out.trans (hbx3.mono (by omega))).setCell (Nat.le_refl _) _).setCell (Nat.le_refl _) _).setCell (Nat.le_refl _) _)
   · go_wp2_with fail
     refine (HTB.out _).mono ?_
     rintro e w3 ⟨hm3, hb3⟩
     have hbx3 := hbx2.trans (hb3.mono hbx2.size)
     have HVN3 := Lib.hid (HVN2.out.below hb3 (Nat.le_refl _))
     clear hb3 hbx2
     rcases hnb : natP lb with _ | d
     · rw [hnb] at hm3
       have HR := Lib.hid (HRC.out n HNA.out (by trivial) hnb)
       clear hnb
       subst hm3
       obtain ⟨f1, f2⟩ := HBX.out hbx3 (by omega)
       have q0 := f1 0
       have q1 := f1 1
       have q2 := f1 2
       simp only [List.getElem?_toArray, List.getElem?_cons_succ, List.getElem?_cons_zero] at q0 q1 q2
       have g0 := f2 0
       have g1 := f2 1
       have g2 := f2 2
       clear f1 f2
       go_wp2
       refine bodyPost_ret (v := .tuple #[.agg #[.bool false, .slice none 0 0, .slice none 0 0], .bool false]) (by simp [results, Tryz.results199, go_sem, q0, q1, q2]) rfl ?_
       exact parsed_none HR.out ((((HBW.out.trans (hbx3.mono (by omega))).setCell (Nat.le_refl _) _).setCell (Nat.le_refl _) _).setCell (Nat.le_refl _) _)
     · rw [hnb] at hm3
       obtain ⟨vd, rfl, hvd⟩ := hm3
       have hdl := natP_len hnb
       have HVD := Lib.hid hvd
       obtain ⟨ad, cd, rfl⟩ := hvd.cases
       clear hvd
       by_cases hd0 : d = 0
       · subst hd0
         have HR := Lib.hid (HRD.out n HNA.out (by trivial) hnb)
         clear hnb
         have hl0 : (dig 0).length = 0 := by rw [dig_zero]; rfl
         rw [hl0]
         clear hl0
         obtain ⟨f1, f2⟩ := HBX.out hbx3 (by omega)
         have q0 := f1 0
         have q1 := f1 1
         have q2 := f1 2
         simp only [List.getElem?_toArray, List.getElem?_cons_succ, List.getElem?_cons_zero] at q0 q1 q2
         have g0 := f2 0
         have g1 := f2 1
         have g2 := f2 2
         clear f1 f2
         go_wp2
         refine bodyPost_ret (v := .tuple #[.agg #[.bool false, .slice none 0 0, .slice none 0 0], .bool false]) (by simp [results, Tryz.results199, go_sem, q0, q1, q2]) rfl ?_
         exact parsed_none HR.out ((((HBW.out.trans (hbx3.mono (by omega))).setCell (Nat.le_refl _) _).setCell (Nat.le_refl _) _).setCell (Nat.le_refl _) _)
       · have HR := Lib.hid (HRE.out n d HNA.out (by trivial) hnb hd0)
         have hdp : (((dig d).length : Int) == 0) = false := by
          have := mt dig_len_pos.1 hd0
          rw [beq_eq_false_iff_ne]; omega
         have hred := fun va vb W ha hb => reduced_any (d + 1) (overOK_all _) m va vb n d W ha hb (by omega) (by omega) (by omega) hd0
         have HRED := Lib.hid hred
         clear hred hnb hd0
         go_wp2_with fail
         refine (HRED.out _ _ _ HVN3.out HVD.out).mono ?_
         rintro e w4 ⟨⟨v3, rfl, hv3⟩, hb4⟩
         have hbx4 := hbx3.trans (hb4.mono hbx3.size)
         obtain ⟨vx, vy, rfl, hx, hy⟩ := hv3
         obtain ⟨ax, cx, rfl⟩ := hx.cases
         obtain ⟨ay, cy, rfl⟩ := hy.cases
         have HX := Lib.hid hx; have HY := Lib.hid hy
         clear hx hy hb4 hbx3
         obtain ⟨f1, f2⟩ := HBX.out hbx4 (by omega)
         have q0 := f1 0
         have q1 := f1 1
         have q2 := f1 2
         simp only [List.getElem?_toArray, List.getElem?_cons_succ, List.getElem?_cons_zero] at q0 q1 q2
         have g0 := f2 0
         have g1 := f2 1
         have g2 := f2 2
         clear f1 f2
         go_wp2
         refine bodyPost_ret (v := .tuple #[.agg #[.bool (m && decide (n ≠ 0)), .slice ax (dig (n / Nat.gcd n d)).length cx, .slice ay (dig (d / Nat.gcd n d)).length cy], .bool true]) (by simp [results, Tryz.results199, go_sem, q0, q1, q2]) rfl ?_
         exact parsed_some HR.out ⟨_, _, rfl, HX.out.box3 q0 q1 q2 trivial trivial trivial, HY.out.box3 q0 q1 q2 trivial trivial trivial⟩ ((((HBW.out.trans (hbx4.mono (by omega))).setCell (Nat.le_refl _) _).setCell (Nat.le_refl _) _).setCell (Nat.le_refl _) _)
end Go.Proofs.YtdpjdifoonfcdaaGreatDoor

namespace Go.Proofs.YtdpjdifoonfcdaaGreatDoor
open Go.RowKit
def ownD (s : ByteArray) (r : Option (Bool × Nat × Nat)) : Option (Bool × Nat × Nat) :=
 match r with
 | none => none
 | some (m, n, d) => if ratT (m && decide (n ≠ 0)) (n / Nat.gcd n d) (d / Nat.gcd n d) = s /\ bigQ (n / Nat.gcd n d) (d / Nat.gcd n d) = false then some (m && decide (n ≠ 0), n / Nat.gcd n d, d / Nat.gcd n d) else none
def getR (s : ByteArray) : Option (Bool × Nat × Nat) := if 8008 < s.size then none else ownD s (parseR s.data.toList)
def GetRes (r : Option (Bool × Nat × Nat)) (w : World) (e : Ending) (w' : World) : Prop :=
 (match r with
  | none => e = .returned (.tuple #[.agg #[.bool false, .slice none 0 0, .slice none 0 0, .bool false, .slice none 0 0, .slice none 0 0], .bool false])
  | some (s, n, d) => ∃ v, e = .returned (.tuple #[v, .bool true]) /\ ValV w' v s n d false 0 1) /\ Below w.heap.size w w'
theorem get_none {r : Option (Bool × Nat × Nat)} {w w' : World} (h : r = none) (hb : Below w.heap.size w w') : GetRes r w (.returned (.tuple #[.agg #[.bool false, .slice none 0 0, .slice none 0 0, .bool false, .slice none 0 0, .slice none 0 0], .bool false])) w' := by subst h; exact ⟨rfl, hb⟩
theorem get_some {r : Option (Bool × Nat × Nat)} {w w' : World} {s : Bool} {n d : Nat} {v : Value} (h : r = some (s, n, d)) (hv : ValV w' v s n d false 0 1) (hb : Below w.heap.size w w') : GetRes r w (.returned (.tuple #[v, .bool true])) w' := by subst h; exact ⟨⟨v, rfl, hv⟩, hb⟩
theorem parseD_bd {m : Bool} {c : List UInt8 × List UInt8 × Bool} {L : Nat} (h1 : c.1.length <= L) (h2 : c.2.1.length <= L) {m' : Bool} {n d : Nat} (h : parseD m c = some (m', n, d)) : n < 10 ^ L /\ d <= 10 ^ L /\ d ≠ 0 := by
 have hp : 0 < 10 ^ L := Nat.pow_pos (by decide)
 rw [parseD] at h
 rcases ha : natP c.1 with _ | a
 · rw [ha] at h; cases h
 · rw [ha] at h
   have ha1 := Nat.lt_of_lt_of_le (natP_some ha) (Nat.pow_le_pow_right (by decide) h1)
   simp only at h
   split at h
   · rcases hb : natP c.2.1 with _ | b
     · rw [hb] at h; cases h
     · rw [hb] at h
       simp only at h
       have hb1 := Nat.lt_of_lt_of_le (natP_some hb) (Nat.pow_le_pow_right (by decide) h2)
       split at h
       · cases h
       · cases h; exact ⟨ha1, by omega, by assumption⟩
   · cases h; exact ⟨ha1, by omega, by decide⟩
theorem parseR_bd {l : List UInt8} {m : Bool} {n d : Nat} (h : parseR l = some (m, n, d)) : n < 10 ^ l.length /\ d <= 10 ^ l.length /\ d ≠ 0 := by
 have h1 := cut_len (Lib.trimPrefix l [45])
 have h2 := trim_len l [45]
 exact parseD_bd (by omega) (by omega) h
theorem digits_pow {n L : Nat} (h : n <= 10 ^ L) (hL : L <= 8008) : Lib.nDigits n <= 8009 := by
 refine Nat.le_trans (nDigits_le L n ?_) (by omega)
 have : 10 ^ L < 10 ^ (L + 1) := Nat.pow_lt_pow_right (by decide) (by omega)
 omega
theorem parse_zero : parseR [48] = some (false, 0, 1) := by decide
set_option maxRecDepth 100000 in
set_option maxHeartbeats 4000000 in
theorem get_noI (s : ByteArray) (w : World) (ht : Tab w) (hs : s.size <= 140737488351232) (hi : Lib.hasSuffix s.data.toList [105] = false) :
 Calls Tryz.prog 129 #[.string s] w (GetRes (getR s) w) := by
 have hcs := fun W => Tryz.strings_CutSuffix s ⟨#[105]⟩ W (by omega)
 have hcs2 : ∀ W, Calls Tryz.prog 197 #[.string s, .string ⟨#[105]⟩] W fun e w' => e = .returned (.tuple #[.string ⟨(Lib.trimSuffix s.data.toList [105]).toArray⟩, .bool false]) /\ w' = W := fun W => by
  have := hcs W
  rwa [show (⟨#[105]⟩ : ByteArray).data.toList = [105] from rfl, hi] at this
 obtain ⟨W0, hW0⟩ : ∃ W0, W0 = w.alloc (.cells #[.bool false, .slice none 0 0, .slice none 0 0, .bool false, .slice none 0 0, .slice none 0 0] 148) := ⟨_, rfl⟩
 have hbw : Below w.heap.size w W0 := by rw [hW0]; exact (Below.refl w.heap.size w).alloc (Nat.le_refl _) _
 have hz0 : W0.heap.size = w.heap.size + 1 := by rw [hW0]; simp
 have HBX : Hid (∀ {B : Nat} {w1 : World}, Below B W0 w1 -> w.heap.size < B -> (∀ i, w1.cell? ⟨w.heap.size, i, none⟩ = #[Value.bool false, .slice none 0 0, .slice none 0 0, .bool false, .slice none 0 0, .slice none 0 0][i]?) /\ (∀ i, w1.frozen? ⟨w.heap.size, i, none⟩ = false)) := fun hb hB => by
  rw [hW0] at hb
  exact ⟨fun i => box_keep hb hB i, fun i => box_free hb hB i⟩
 have HBW := Lib.hid hbw; have HT := Lib.hid (ht.below hbw (Nat.le_refl _)); have HCS := Lib.hid hcs2
 clear hbw ht hcs hcs2 hi
 have hpa := fun W => parsed_any s W hs
 have hpz : ∀ W, Calls Tryz.prog 199 #[.string ⟨#[48]⟩] W (ParsedRes (some (false, 0, 1)) W) := fun W => by
  have := parsed_any ⟨#[48]⟩ W (by decide)
  rwa [show parseR (⟨#[48]⟩ : ByteArray).data.toList = some (false, 0, 1) from parse_zero] at this
 have HPA := Lib.hid hpa; have HPZ := Lib.hid hpz
 clear hpa hpz
 by_cases hlen : 8008 < s.size
 · have hg : getR s = none := by rw [getR, if_pos hlen]
   have HG := Lib.hid hg
   clear hg
   go_enter Tryz.func129, Tryz.ntmps129
   have HW0 := Lib.hid hW0
   clear hW0
   go_wp2_with fail
   refine bodyPost_ret (v := .tuple #[.agg #[.bool false, .slice none 0 0, .slice none 0 0, .bool false, .slice none 0 0, .slice none 0 0], .bool false]) (by simp [results, Tryz.results129, go_sem]) rfl ?_
   rw [<- HW0.out]
   exact get_none HG.out HBW.out
 · have hg : getR s = ownD s (parseR s.data.toList) := by rw [getR, if_neg hlen]
   rw [hg]
   clear hg
   go_enter Tryz.func129, Tryz.ntmps129
   go_wp2_with fail
   rw [<- hW0]
   have HW0 := Lib.hid hW0
   clear hW0
   refine (HCS.out _).mono ?_
   rintro e w' ⟨rfl, rfl⟩
   go_wp2_with fail
   refine (HPA.out _).mono ?_
   rintro e w1 ⟨hm1, hb1⟩
   rcases hpr : parseR s.data.toList with _ | ⟨m, n, d⟩
   · rw [hpr] at hm1
     subst hm1
     have hlt : w.heap.size < w1.heap.size := by have := hb1.size; omega
     obtain ⟨f1, f2⟩ := HBX.out hb1 (by omega)
     have q0 := f1 0
     have q1 := f1 1
     have q2 := f1 2
     have q3 := f1 3
     have q4 := f1 4
     have q5 := f1 5
     simp only [List.getElem?_toArray, List.getElem?_cons_succ, List.getElem?_cons_zero] at q0 q1 q2 q3 q4 q5
     have g0 := f2 0
     have g1 := f2 1
     have g2 := f2 2
     have g3 := f2 3
     have g4 := f2 4
     have g5 := f2 5
     clear f1 f2
     have HNO := Lib.hid hpr
     clear hpr
     go_wp2_with fail
     refine bodyPost_ret (v := .tuple #[.agg #[.bool false, .slice none 0 0, .slice none 0 0, .bool false, .slice none 0 0, .slice none 0 0], .bool false]) (by simp [results, Tryz.results129, go_sem, q0, q1, q2, q3, q4, q5, hlt]) rfl ?_
     exact get_none (by rw [HNO.out]; rfl) (((((((((HBW.out.trans (hb1.mono (by omega))).setCell (Nat.le_refl _) _).setCell (Nat.le_refl _) _).setCell (Nat.le_refl _) _).setCell (Nat.le_refl _) _).setCell (Nat.le_refl _) _).setCell (Nat.le_refl _) _)).alloc (by simp; omega) _)
   · rw [hpr] at hm1
     obtain ⟨v1, rfl, hv1⟩ := hm1
     obtain ⟨hn1, hd1, hd0⟩ := parseR_bd hpr
     obtain ⟨sb, hsb⟩ : ∃ sb, sb = (m && decide (n ≠ 0)) := ⟨_, rfl⟩
     obtain ⟨N, hN⟩ : ∃ N, N = n / Nat.gcd n d := ⟨_, rfl⟩
     obtain ⟨D, hD⟩ : ∃ D, D = d / Nat.gcd n d := ⟨_, rfl⟩
     have hod : ownD s (parseR s.data.toList) = if ratT sb N D = s /\ bigQ N D = false then some (sb, N, D) else none := by rw [hpr, hsb, hN, hD]; rfl
     have hNn : N <= n := by rw [hN]; exact Nat.div_le_self _ _
     have hDd : D <= d := by rw [hD]; exact Nat.div_le_self _ _
     have hD0 : D ≠ 0 := by
      rw [hD]
      have h1 := Nat.gcd_dvd_right n d
      have h3 : 0 < Nat.gcd n d := Nat.gcd_pos_of_pos_right _ (by omega)
      have := Nat.div_pos (Nat.le_of_dvd (by omega) h1) h3
      omega
     have hsz8 : s.data.toList.length <= 8008 := by have : s.data.toList.length = s.size := rfl; omega
     have hNd := digits_pow (show N <= 10 ^ s.data.toList.length by omega) hsz8
     have hDd2 := digits_pow (show D <= 10 ^ s.data.toList.length by omega) hsz8
     rw [<- hsb, <- hN, <- hD] at hv1
     have HOD := Lib.hid hod; have HD0 := Lib.hid hD0
     clear hod hsb hN hD hNn hDd hn1 hd1 hd0 hpr hD0 hsz8
     have HV1 := Lib.hid hv1
     obtain ⟨va, vb, rfl, ha, hbb⟩ := hv1
     obtain ⟨aa, ca, rfl⟩ := ha.cases
     obtain ⟨ab, cb, rfl⟩ := hbb.cases
     have HA := Lib.hid ha; have HBB := Lib.hid hbb
     clear ha hbb
     go_wp2_with fail
     refine (HPZ.out _).mono ?_
     rintro e w2 ⟨hm2, hb2⟩
     obtain ⟨v2, rfl, hv2⟩ := hm2
     have hz1 : RatV w2 v2 false 0 1 := by simpa using hv2
     clear hv2
     have HV2 := Lib.hid hz1
     obtain ⟨vc, vd, rfl, hc, hdd⟩ := hz1
     obtain ⟨ac, cc, rfl⟩ := hc.cases
     obtain ⟨ad, cd, rfl⟩ := hdd.cases
     have HC := Lib.hid hc; have HD := Lib.hid hdd
     clear hc hdd
     have hal := (Below.refl w1.heap.size w1).alloc (Nat.le_refl _) (.cells #[.bool sb, .slice aa (dig N).length ca, .slice ab (dig D).length cb] 146)
     have hab := hal.trans (hb2.mono (show w1.heap.size <= (w1.alloc (.cells #[.bool sb, .slice aa (dig N).length ca, .slice ab (dig D).length cb] 146)).heap.size by simp))
     have hbx := hb1.trans (hab.mono hb1.size)
     have hl1 : w1.heap.size < w2.heap.size := by have := hb2.size; simp at this; omega
     have hl0 : w.heap.size < w1.heap.size := by have := hb1.size; omega
     have hl2 : w.heap.size < w2.heap.size := by omega
     obtain ⟨f1, f2⟩ := HBX.out hbx (by omega)
     have q0 := f1 0
     have q1 := f1 1
     have q2 := f1 2
     have q3 := f1 3
     have q4 := f1 4
     have q5 := f1 5
     simp only [List.getElem?_toArray, List.getElem?_cons_succ, List.getElem?_cons_zero] at q0 q1 q2 q3 q4 q5
     have g0 := f2 0
     have g1 := f2 1
     have g2 := f2 2
     have g3 := f2 3
     have g4 := f2 4
     have g5 := f2 5
     clear f1 f2
     have a0 : w2.cell? ⟨w1.heap.size, 0, none⟩ = some (.bool sb) := box_keep hb2 (by simp) 0
     have a1 : w2.cell? ⟨w1.heap.size, 1, none⟩ = some (.slice aa (dig N).length ca) := box_keep hb2 (by simp) 1
     have a2 : w2.cell? ⟨w1.heap.size, 2, none⟩ = some (.slice ab (dig D).length cb) := box_keep hb2 (by simp) 2
     have n1 : ¬ w1.heap.size = w2.heap.size := by omega
     have n2 : ¬ w.heap.size = w2.heap.size := by omega
     have HVV : Hid (∀ W, Below w2.heap.size w2 W -> ValV W (.agg #[.bool sb, .slice aa (dig N).length ca, .slice ab (dig D).length cb, .bool false, .slice ac (dig 0).length cc, .slice ad (dig 1).length cd]) sb N D false 0 1) := fun W hb => ⟨_, _, _, _, rfl, (HA.out.below hab (Nat.le_refl _)).below hb (Nat.le_refl _), (HBB.out.below hab (Nat.le_refl _)).below hb (Nat.le_refl _), HC.out.below hb (Nat.le_refl _), HD.out.below hb (Nat.le_refl _)⟩
     have HTT : Hid (∀ W, Below w2.heap.size w2 W -> Tab W) := fun W hb => (HT.out.below hbx (Nat.le_refl _)).below hb (Nat.le_refl _)
     have hlN := len_of_digits (show Lib.nDigits N <= 10000 by omega)
     have hlD := len_of_digits (show Lib.nDigits D <= 10000 by omega)
     clear hb1 hb2 hal
     go_wp2_with fail
     refine (valText_any _ sb N D false 1 _ (HVV.out _ (((Below.refl _ _).alloc (Nat.le_refl _) _).alloc (by simp) _)) (HTT.out _ (((Below.refl _ _).alloc (Nat.le_refl _) _).alloc (by simp) _)) (by omega) (by omega) HD0.out).mono ?_
     rintro e w3 ⟨rfl, hb3⟩
     have hb23 : Below w2.heap.size w2 w3 := (((Below.refl _ _).alloc (Nat.le_refl _) _).alloc (by simp) _).trans (hb3.mono (by simp; omega))
     have p0 : w3.cell? ⟨w2.heap.size, 0, none⟩ = some (.bool false) := box_keep2 hb3 (by simp; omega) 0
     have p1 : w3.cell? ⟨w2.heap.size, 1, none⟩ = some (.slice ac (dig 0).length cc) := box_keep2 hb3 (by simp; omega) 1
     have p2 : w3.cell? ⟨w2.heap.size, 2, none⟩ = some (.slice ad (dig 1).length cd) := box_keep2 hb3 (by simp; omega) 2
     have c0 : w3.cell? ⟨w2.heap.size + 1, 0, none⟩ = some (.bool sb) := box_keep1 hb3 (by simp) 0
     have c1 : w3.cell? ⟨w2.heap.size + 1, 1, none⟩ = some (.slice aa (dig N).length ca) := box_keep1 hb3 (by simp) 1
     have c2 : w3.cell? ⟨w2.heap.size + 1, 2, none⟩ = some (.slice ab (dig D).length cb) := box_keep1 hb3 (by simp) 2
     have c3 : w3.cell? ⟨w2.heap.size + 1, 3, none⟩ = some (.bool false) := box_keep1 hb3 (by simp) 3
     have c4 : w3.cell? ⟨w2.heap.size + 1, 4, none⟩ = some (.slice ac (dig 0).length cc) := box_keep1 hb3 (by simp) 4
     have c5 : w3.cell? ⟨w2.heap.size + 1, 5, none⟩ = some (.slice ad (dig 1).length cd) := box_keep1 hb3 (by simp) 5
     clear hb3 n1 n2
     generalize hT : ratT sb N D = T at *
     by_cases heq : T = s
     · subst heq
       have e1 : (T.toList == T.toList) = true := by simp
       have A0 := cell_keep a0 hb23 (Nat.le_refl _)
       have A1 := cell_keep a1 hb23 (Nat.le_refl _)
       have A2 := cell_keep a2 hb23 (Nat.le_refl _)
       clear hT
       go_wp2_with fail
       clear A0 A1 A2 e1
       refine (big_any _ sb N D _ ⟨_, _, rfl, (HA.out.below hab (Nat.le_refl _)).below hb23 (Nat.le_refl _), (HBB.out.below hab (Nat.le_refl _)).below hb23 (Nat.le_refl _)⟩ (HTT.out _ hb23) (by omega) (by omega)).mono ?_
       rintro e w4 ⟨rfl, hb4⟩
       have hb24 := hb23.trans (hb4.mono hb23.size)
       rcases hbq : bigQ N D with _ | _
       · have HBQ := Lib.hid hbq
         clear hbq
         have P0 := cell_keep p0 hb4 (Nat.le_refl _)
         have P1 := cell_keep p1 hb4 (Nat.le_refl _)
         have P2 := cell_keep p2 hb4 (Nat.le_refl _)
         go_wp2_with fail
         clear P0 P1 P2
         refine (big_any _ false 0 1 _ ⟨_, _, rfl, HC.out.below hb24 (Nat.le_refl _), HD.out.below hb24 (Nat.le_refl _)⟩ (HTT.out _ hb24) (by rw [dig_zero]; simp) (by rw [dig_1]; simp)).mono ?_
         rw [big_one]
         rintro e w5 ⟨rfl, hb5⟩
         have hb35 := hb4.trans (hb5.mono hb4.size)
         have hb25 := hb24.trans (hb5.mono hb24.size)
         have C0 := cell_keep c0 hb35 (Nat.le_refl _)
         have C1 := cell_keep c1 hb35 (Nat.le_refl _)
         have C2 := cell_keep c2 hb35 (Nat.le_refl _)
         have C3 := cell_keep c3 hb35 (Nat.le_refl _)
         have C4 := cell_keep c4 hb35 (Nat.le_refl _)
         have C5 := cell_keep c5 hb35 (Nat.le_refl _)
         have y0 := cell_keep q0 hb25 (Nat.le_refl _)
         have y1 := cell_keep q1 hb25 (Nat.le_refl _)
         have y2 := cell_keep q2 hb25 (Nat.le_refl _)
         have y3 := cell_keep q3 hb25 (Nat.le_refl _)
         have y4 := cell_keep q4 hb25 (Nat.le_refl _)
         have y5 := cell_keep q5 hb25 (Nat.le_refl _)
         have yg0 := (hb25.frozen (p := ⟨w.heap.size, 0, none⟩) hl2).trans g0
         have yg1 := (hb25.frozen (p := ⟨w.heap.size, 1, none⟩) hl2).trans g1
         have yg2 := (hb25.frozen (p := ⟨w.heap.size, 2, none⟩) hl2).trans g2
         have yg3 := (hb25.frozen (p := ⟨w.heap.size, 3, none⟩) hl2).trans g3
         have yg4 := (hb25.frozen (p := ⟨w.heap.size, 4, none⟩) hl2).trans g4
         have yg5 := (hb25.frozen (p := ⟨w.heap.size, 5, none⟩) hl2).trans g5
         clear a0 a1 a2 p0 p1 p2 c0 c1 c2 c3 c4 c5 q0 q1 q2 q3 q4 q5 g0 g1 g2 g3 g4 g5 hb4 hb5
         go_wp2_with fail
         refine bodyPost_ret (v := .tuple #[.agg #[.bool sb, .slice aa (dig N).length ca, .slice ab (dig D).length cb, .bool false, .slice ac (dig 0).length cc, .slice ad (dig 1).length cd], .bool true]) (by simp [results, Tryz.results129, go_sem, y0, y1, y2, y3, y4, y5]) rfl ?_
         obtain ⟨_, _, _, _, hh, i1, i2, i3, i4⟩ := HVV.out _ hb25
         simp only [Value.agg.injEq, Array.mk.injEq, List.cons.injEq, and_true, true_and] at hh
         obtain ⟨rfl, rfl, rfl, rfl⟩ := hh
         refine get_some (by rw [HOD.out, if_pos ⟨by trivial, HBQ.out⟩]) ⟨_, _, _, _, rfl, i1.box6 y0 y1 y2 y3 y4 y5 trivial trivial trivial trivial trivial trivial, i2.box6 y0 y1 y2 y3 y4 y5 trivial trivial trivial trivial trivial trivial, i3.box6 y0 y1 y2 y3 y4 y5 trivial trivial trivial trivial trivial trivial, i4.box6 y0 y1 y2 y3 y4 y5 trivial trivial trivial trivial trivial trivial⟩ ?_
         exact (((((((HBW.out.trans (hbx.mono (by omega))).trans (hb25.mono (by omega))).setCell (Nat.le_refl _) _).setCell (Nat.le_refl _) _).setCell (Nat.le_refl _) _).setCell (Nat.le_refl _) _).setCell (Nat.le_refl _) _).setCell (Nat.le_refl _) _
       · have HBQ := Lib.hid hbq
         clear hbq
         have y0 := cell_keep q0 hb24 (Nat.le_refl _)
         have y1 := cell_keep q1 hb24 (Nat.le_refl _)
         have y2 := cell_keep q2 hb24 (Nat.le_refl _)
         have y3 := cell_keep q3 hb24 (Nat.le_refl _)
         have y4 := cell_keep q4 hb24 (Nat.le_refl _)
         have y5 := cell_keep q5 hb24 (Nat.le_refl _)
         have yg0 := (hb24.frozen (p := ⟨w.heap.size, 0, none⟩) hl2).trans g0
         have yg1 := (hb24.frozen (p := ⟨w.heap.size, 1, none⟩) hl2).trans g1
         have yg2 := (hb24.frozen (p := ⟨w.heap.size, 2, none⟩) hl2).trans g2
         have yg3 := (hb24.frozen (p := ⟨w.heap.size, 3, none⟩) hl2).trans g3
         have yg4 := (hb24.frozen (p := ⟨w.heap.size, 4, none⟩) hl2).trans g4
         have yg5 := (hb24.frozen (p := ⟨w.heap.size, 5, none⟩) hl2).trans g5
         clear a0 a1 a2 p0 p1 p2 c0 c1 c2 c3 c4 c5 q0 q1 q2 q3 q4 q5 g0 g1 g2 g3 g4 g5 hb4
         go_wp2_with fail
         refine bodyPost_ret (v := .tuple #[.agg #[.bool false, .slice none 0 0, .slice none 0 0, .bool false, .slice none 0 0, .slice none 0 0], .bool false]) (by simp [results, Tryz.results129, go_sem, y0, y1, y2, y3, y4, y5]) rfl ?_
         exact get_none (by rw [HOD.out, if_neg (fun h => by rw [HBQ.out] at h; cases h.2)]) ((((((((HBW.out.trans (hbx.mono (by omega))).trans (hb24.mono (by omega))).setCell (Nat.le_refl _) _).setCell (Nat.le_refl _) _).setCell (Nat.le_refl _) _).setCell (Nat.le_refl _) _).setCell (Nat.le_refl _) _).setCell (Nat.le_refl _) _)
     · have e1 : (T.toList != s.toList) = true := by
        rw [bne_iff_ne]
        intro h
        refine heq ?_
        rw [Lib.toList_data, Lib.toList_data] at h
        cases T; cases s
        simpa using h
       have e2 : (T.toList == s.toList) = false := by rw [beq_eq_false_iff_ne]; exact bne_iff_ne.1 e1
       have HEQ := Lib.hid heq
       have y0 := cell_keep q0 hb23 (Nat.le_refl _)
       have y1 := cell_keep q1 hb23 (Nat.le_refl _)
       have y2 := cell_keep q2 hb23 (Nat.le_refl _)
       have y3 := cell_keep q3 hb23 (Nat.le_refl _)
       have y4 := cell_keep q4 hb23 (Nat.le_refl _)
       have y5 := cell_keep q5 hb23 (Nat.le_refl _)
       have yg0 := (hb23.frozen (p := ⟨w.heap.size, 0, none⟩) hl2).trans g0
       have yg1 := (hb23.frozen (p := ⟨w.heap.size, 1, none⟩) hl2).trans g1
       have yg2 := (hb23.frozen (p := ⟨w.heap.size, 2, none⟩) hl2).trans g2
       have yg3 := (hb23.frozen (p := ⟨w.heap.size, 3, none⟩) hl2).trans g3
       have yg4 := (hb23.frozen (p := ⟨w.heap.size, 4, none⟩) hl2).trans g4
       have yg5 := (hb23.frozen (p := ⟨w.heap.size, 5, none⟩) hl2).trans g5
       clear a0 a1 a2 p0 p1 p2 c0 c1 c2 c3 c4 c5 q0 q1 q2 q3 q4 q5 g0 g1 g2 g3 g4 g5 hT heq
       go_wp2_with fail
       refine bodyPost_ret (v := .tuple #[.agg #[.bool false, .slice none 0 0, .slice none 0 0, .bool false, .slice none 0 0, .slice none 0 0], .bool false]) (by simp [results, Tryz.results129, go_sem, y0, y1, y2, y3, y4, y5]) rfl ?_
       exact get_none (by rw [HOD.out, if_neg (fun h => HEQ.out h.1)]) ((((((((HBW.out.trans (hbx.mono (by omega))).trans (hb23.mono (by omega))).setCell (Nat.le_refl _) _).setCell (Nat.le_refl _) _).setCell (Nat.le_refl _) _).setCell (Nat.le_refl _) _).setCell (Nat.le_refl _) _).setCell (Nat.le_refl _) _)
end Go.Proofs.YtdpjdifoonfcdaaGreatDoor

namespace Go.Proofs.YtdpjdifoonfcdaaGreatDoor
open Go.RowKit
theorem minus_step {la lb os : List Nat} {i x y o b b' : Nat} (hx : la[i]? = some x) (hy : lb.getD i 0 = y) (hl : os.length = i) (h : val (la.take i) + B ^ i * b = val os + val (lb.take i)) (he : x + B * b' = o + y + b) :
 val (la.take (i + 1)) + B ^ (i + 1) * b' = val (os ++ [o]) + val (lb.take (i + 1)) := by
 rw [val_takeD, val_takeD, hy, val_snoc, hl]
 have h1 : la.getD i 0 = x := by simp [List.getD, hx]
 rw [h1, Nat.pow_succ, Nat.mul_assoc]
 have h2 : B ^ i * x + B ^ i * (B * b') = B ^ i * o + B ^ i * y + B ^ i * b := by rw [<- Nat.mul_add, he, Nat.mul_add, Nat.mul_add]
 omega
theorem minus_end {m n b : Nat} {os : List Nat} (hs : Sm os) (hl : os.length = (dig m).length) (hle : n <= m) (h : val ((dig m).take (dig m).length) + B ^ (dig m).length * b = val os + val ((dig n).take (dig m).length)) : val os = m - n := by
 rw [List.take_length, val_dig, List.take_of_length_le (dig_len_mono hle), val_dig] at h
 have h1 := val_lt hs
 rw [hl] at h1
 rcases Nat.eq_zero_or_pos b with h0 | h0
 · subst h0; omega
 · have h2 : B ^ (dig m).length * 1 <= B ^ (dig m).length * b := Nat.mul_le_mul_left _ h0
   omega
theorem set_zer (os : List Nat) (k o i : Nat) (h : os.length = i) : (dgs (os ++ List.replicate (k + 1) 0)).set i (.int .u64 (o : Nat)) = dgs (os ++ [o] ++ List.replicate k 0) := by
 subst h
 rw [List.replicate_succ, dgs_append, List.set_append_right _ _ (by rw [dgs_length]; exact Nat.le_refl _), dgs_length, Nat.sub_self]
 simp [dgs]
set_option maxRecDepth 100000 in
set_option maxHeartbeats 2000000 in
theorem natMinus_any (va vb : Value) (m n : Nat) (w : World) (ha : NatV w va m) (hb : NatV w vb n) (hm : (dig m).length <= 17592186044410) (hle : n <= m) :
 Calls Tryz.prog 255 #[va, vb] w fun e w' => (∃ v, e = .returned v /\ NatV w' v (m - n)) /\ Below w.heap.size w w' := by
 obtain ⟨i0, hi, hz0, hz1, hz2⟩ := info_parts Tryz.infoU64
 obtain ⟨aa, ca, rfl, ha, hac, hac2⟩ := ha
 obtain ⟨ab, cb, rfl, hb0, hbc, hbc2⟩ := hb
 have HA := Lib.hid ha; have HB := Lib.hid hb0
 clear ha hb0
 go_enter Tryz.func255, Tryz.ntmps255
 go_wp2_with (at_make; refine wpList_make_full _ rfl _ _ 144 rfl w.heap.size 208 i0 (.int .u64 0) 1 Tryz.underlying144 hi hz0 hz1 .i64 .i64 _ _ (dig m).length rfl rfl rfl rfl (by rw [hz2]; omega) (by unfold maxLen; omega) (Nat.le_refl _) ?_; intro w1 hown1 hgrow1)
 rw [zeros_dgs] at hown1
 have hb1 := (Below.refl w.heap.size w).grown hgrow1 (Nat.le_refl _) (fun _ h => by cases h)
 clear hgrow1
 have HO := Lib.hid hown1; clear hown1
 go_wp2
 go_loopw [6, 15] (fun bv iv wr => ∃ (i b : Nat) (os : List Nat), i <= (dig m).length /\ iv = .int .i64 i /\ bv = .int .u64 b /\ b <= 1 /\ Sm os /\ val ((dig m).take i) + B ^ i * b = val os + val ((dig n).take i) /\ os.length = i /\ wr.ownsRow w.heap.size 208 1 (.slice (some ⟨w.heap.size, 0, none⟩) (dig m).length (dig m).length) (dig m).length (dgs (os ++ List.replicate ((dig m).length - i) 0)) /\ Below w.heap.size w wr) (fun _ iv _ => (dig m).length - (intOf iv).toNat)
 case atStart => exact ⟨0, 0, [], Nat.zero_le _, rfl, rfl, by omega, fun d hd => by simp at hd, by simp [val], rfl, by simpa using HO.out, hb1⟩
 case round =>
  clear hb1 HO
  obtain ⟨i, b, os, hi9, rfl, rfl, hb1, hsm, heq, hol, hown, hb⟩ := hrel
  by_cases hii : i = (dig m).length
  · have hve := minus_end hsm (by rw [hol, hii]) hle (by rw [<- hii]; exact heq)
    rw [hii, Nat.sub_self, List.replicate_zero, List.append_nil] at hown
    obtain ⟨g, c, hv, hcs⟩ := own_cells hown
    simp only [Value.slice.injEq, true_and] at hv
    obtain ⟨rfl, rfl⟩ := hv
    have hoL : os.length = (dig m).length := by omega
    have hln := lean_any (some ⟨w.heap.size, 0, none⟩) os (dig m).length wr hcs hsm (by omega) (by omega) (by omega)
    rw [hve, hoL] at hln
    have hdl := dig_len_mono (show m - n <= m by omega)
    have hi1 : ¬ (i : Int) < (dig m).length := by omega
    have hi2 : (dig m).length <= i := by omega
    have HLN := Lib.hid hln
    clear hln hcs hown hve heq hsm hol hii hoL
    go_wp2_with fail
    refine HLN.out.mono ?_
    rintro e w2 ⟨⟨rfl, hcl⟩, rfl⟩
    have HCL := Lib.hid hcl; clear hcl
    go_wp2
    go_ret
    exact ⟨⟨_, rfl, _, _, rfl, HCL.out, hdl, by omega⟩, hb⟩
  · have hilt : i < (dig m).length := by omega
    obtain ⟨x, hx⟩ := get_of_lt hilt
    obtain ⟨ba, offa, rfl⟩ := HA.out.addr (dgs_ne (by omega))
    have cx := cell_keep (HA.out.dgs hx) hb (Nat.le_refl _)
    have hxb := sm_get (sm_dig m) hx
    have j0 : (i : Int) < (dig m).length := by omega
    have hrep : (dig m).length - i = ((dig m).length - (i + 1)) + 1 := by omega
    rw [hrep] at hown
    have c2 := hown.cellAt i (by omega)
    rw [show (dgs (os ++ List.replicate (((dig m).length - (i + 1)) + 1) 0))[i]? = some (.int .u64 (0 : Nat)) from by rw [dgs_append, List.getElem?_append_right (by rw [dgs_length]; omega), dgs_length, hol, Nat.sub_self, List.replicate_succ]; rfl] at c2
    have c3 := hown.frozenAt i
    have hsto := fun o : Nat => (hown.stored i (.int .u64 (o : Nat))).1
    have hsz := hb.size
    have hszl : w.heap.size < wr.heap.size := by have := World.block_lt_of_cell? wr _ c2; simpa using this
    have HSTO : Hid (∀ o : Nat, (wr.setCell ⟨w.heap.size, i, none⟩ (.int .u64 (o : Nat))).ownsRow w.heap.size 208 1 (.slice (some ⟨w.heap.size, 0, none⟩) (dig m).length (dig m).length) (dig m).length (dgs (os ++ [o] ++ List.replicate ((dig m).length - (i + 1)) 0))) := fun o => by
     have := hsto o
     rwa [set_zer _ _ _ _ hol] at this
    have HB2 : Hid (∀ o : Nat, Below w.heap.size w (wr.setCell ⟨w.heap.size, i, none⟩ (.int .u64 (o : Nat)))) := fun o => hb.setCell (Nat.le_refl _) _
    have HHX := Lib.hid hx; have HHEQ := Lib.hid heq; have HHSM := Lib.hid hsm; have HHOL := Lib.hid hol
    have hB : B = 1000000000 := rfl
    clear hx heq hsm hol hii hsto hown hrep
    by_cases hib : i < (dig n).length
    · obtain ⟨y, hy⟩ := get_of_lt hib
      obtain ⟨bb, offb, rfl⟩ := HB.out.addr (dgs_ne (by omega))
      have cy := cell_keep (HB.out.dgs hy) hb (Nat.le_refl _)
      have hyb := sm_get (sm_dig n) hy
      have hyd : (dig n).getD i 0 = y := by simp [List.getD, hy]
      have j1 : (i : Int) < (dig n).length := by omega
      by_cases hneg : x < b + y
      · obtain ⟨o, ho⟩ : ∃ o, o = x + B - b - y := ⟨_, rfl⟩
        have e4 : (x : Int) + 1000000000 - ((b : Int) + y) = (o : Int) := by omega
        have HEQ := Lib.hid (minus_step (o := o) (b' := 1) HHX.out hyd HHOL.out HHEQ.out (by omega))
        have HSM := Lib.hid (sm_append HHSM.out (sm_one (d := o) (by omega)))
        have hneg2 : (x : Int) < ((b : Int) + y) := by omega
        clear hy hyd ho hB hneg
        go_wp2
        go_roundw
        case rel => exact ⟨i + 1, 1, os ++ [o], by omega, by go_num, rfl, by omega, HSM.out, HEQ.out, by rw [List.length_append, HHOL.out]; rfl, HSTO.out o, HB2.out o⟩
        case measure => simp [intOf]; omega
      · obtain ⟨o, ho⟩ : ∃ o, o = x - b - y := ⟨_, rfl⟩
        have e4 : (x : Int) - ((b : Int) + y) = (o : Int) := by omega
        have HEQ := Lib.hid (minus_step (o := o) (b' := 0) HHX.out hyd HHOL.out HHEQ.out (by omega))
        have HSM := Lib.hid (sm_append HHSM.out (sm_one (d := o) (by omega)))
        have hneg2 : ¬ (x : Int) < ((b : Int) + y) := by omega
        clear hy hyd ho hB hneg
        go_wp2
        go_roundw
        case rel => exact ⟨i + 1, 0, os ++ [o], by omega, by go_num, rfl, by omega, HSM.out, HEQ.out, by rw [List.length_append, HHOL.out]; rfl, HSTO.out o, HB2.out o⟩
        case measure => simp [intOf]; omega
    · have hyd : (dig n).getD i 0 = 0 := by simp [List.getD, List.getElem?_eq_none (show (dig n).length <= i by omega)]
      have j1 : ¬ (i : Int) < (dig n).length := by omega
      by_cases hneg : x < b + 0
      · obtain ⟨o, ho⟩ : ∃ o, o = x + B - b - 0 := ⟨_, rfl⟩
        have e4 : (x : Int) + 1000000000 - (b : Int) = (o : Int) := by omega
        have HEQ := Lib.hid (minus_step (o := o) (b' := 1) HHX.out hyd HHOL.out HHEQ.out (by omega))
        have HSM := Lib.hid (sm_append HHSM.out (sm_one (d := o) (by omega)))
        have hneg2 : (x : Int) < (b : Int) := by omega
        clear  hyd ho hB hneg
        go_wp2
        go_roundw
        case rel => exact ⟨i + 1, 1, os ++ [o], by omega, by go_num, rfl, by omega, HSM.out, HEQ.out, by rw [List.length_append, HHOL.out]; rfl, HSTO.out o, HB2.out o⟩
        case measure => simp [intOf]; omega
      · obtain ⟨o, ho⟩ : ∃ o, o = x - b - 0 := ⟨_, rfl⟩
        have e4 : (x : Int) - (b : Int) = (o : Int) := by omega
        have HEQ := Lib.hid (minus_step (o := o) (b' := 0) HHX.out hyd HHOL.out HHEQ.out (by omega))
        have HSM := Lib.hid (sm_append HHSM.out (sm_one (d := o) (by omega)))
        have hneg2 : ¬ (x : Int) < (b : Int) := by omega
        clear  hyd ho hB hneg
        go_wp2
        go_roundw
        case rel => exact ⟨i + 1, 0, os ++ [o], by omega, by go_num, rfl, by omega, HSM.out, HEQ.out, by rw [List.length_append, HHOL.out]; rfl, HSTO.out o, HB2.out o⟩
        case measure => simp [intOf]; omega
theorem natTimes_any (va vb : Value) (m n : Nat) (w : World) (ha : NatV w va m) (hb : NatV w vb n) (hl : (dig m).length + (dig n).length <= 17592186044416) :
 Calls Tryz.prog 221 #[va, vb] w fun e w' => (∃ v, e = .returned v /\ NatV w' v (m * n)) /\ Below w.heap.size w w' := by
 obtain ⟨aa, ca, rfl, ha, _⟩ := ha
 obtain ⟨ab, cb, rfl, hb0, _⟩ := hb
 refine (times_lists aa ab (dig m) (dig n) ca cb w ha hb0 (sm_dig m) (sm_dig n) hl).mono ?_
 rintro e w' ⟨⟨v, rfl, ho⟩, hb⟩
 rw [val_dig, val_dig] at ho
 exact ⟨⟨v, rfl, natV_own ho⟩, hb⟩
theorem natCmp_any (va vb : Value) (m n : Nat) (w : World) (ha : NatV w va m) (hb : NatV w vb n) (hm : (dig m).length <= 4611686018427387904) (hn : (dig n).length <= 4611686018427387904) :
 Calls Tryz.prog 113 #[va, vb] w fun e w' => e = .returned (.int .i64 (cmpN m n)) /\ Below w.heap.size w w' := by
 obtain ⟨aa, ca, rfl, ha, _⟩ := ha
 obtain ⟨ab, cb, rfl, hb0, _⟩ := hb
 exact compare_any aa ab m n ca cb w ha hb0 hm hn
def adS (s : Bool) (m : Nat) (t : Bool) (n : Nat) : Bool := if s = t then s else if n <= m then s else t
def adN (s : Bool) (m : Nat) (t : Bool) (n : Nat) : Nat := if s = t then m + n else if n <= m then m - n else n - m
theorem adN_le (s : Bool) (m : Nat) (t : Bool) (n : Nat) : adN s m t n <= m + n := by unfold adN; split <;> (try split) <;> omega
def AddedRes (s : Bool) (m : Nat) (t : Bool) (n : Nat) (w : World) (e : Ending) (w' : World) : Prop := (∃ v, e = .returned (.tuple #[.bool (adS s m t n), v]) /\ NatV w' v (adN s m t n)) /\ Below w.heap.size w w'
set_option maxRecDepth 100000 in
theorem added_any (s t : Bool) (va vb : Value) (m n : Nat) (w : World) (ha : NatV w va m) (hb : NatV w vb n) (hm : (dig m).length <= 17592186044410) (hn : (dig n).length <= 17592186044410) :
 Calls Tryz.prog 224 #[.bool s, va, .bool t, vb] w (AddedRes s m t n w) := by
 have HA := Lib.hid ha; have HB := Lib.hid hb
 obtain ⟨aa, ca, rfl⟩ := ha.cases
 obtain ⟨ab, cb, rfl⟩ := hb.cases
 clear ha hb
 by_cases hst : s = t
 · subst hst
   have e1 : adS s m s n = s := by simp [adS]
   have e2 : adN s m s n = m + n := by simp [adN]
   have E1 := Lib.hid e1; have E2 := Lib.hid e2
   clear e1 e2
   cases s
   all_goals
    go_enter Tryz.func224, Tryz.ntmps224
    go_wp2_with fail
    refine (natPlus_any _ _ m n _ HA.out HB.out hm hn).mono ?_
    rintro e w1 ⟨⟨v1, rfl, hv1⟩, hb1⟩
    have HV := Lib.hid hv1
    obtain ⟨a1, c1, rfl⟩ := hv1.cases
    clear hv1
    go_wp2
    go_ret2
    exact ⟨⟨_, by rw [E1.out]; rfl, by rw [E2.out]; exact HV.out⟩, hb1⟩
 · have hb0 : (s == t) = false := by simpa using hst
   by_cases hle : n <= m
   · have e1 : adS s m t n = s := by simp [adS, hst, hle]
     have e2 : adN s m t n = m - n := by simp [adN, hst, hle]
     have hc : (0 : Int) <= cmpN m n := by
      rcases Nat.lt_or_ge n m with h | h
      · rw [cmpN_gt h]; omega
      · rw [show m = n by omega, cmpN_eq]; omega
     have E1 := Lib.hid e1; have E2 := Lib.hid e2
     clear e1 e2 hst
     go_enter Tryz.func224, Tryz.ntmps224
     go_wp2_with fail
     refine (natCmp_any _ _ m n _ HA.out HB.out (by omega) (by omega)).mono ?_
     rintro e w0 ⟨rfl, hb0⟩
     go_wp2_with fail
     refine (natMinus_any _ _ m n _ (HA.out.below hb0 (Nat.le_refl _)) (HB.out.below hb0 (Nat.le_refl _)) hm hle).mono ?_
     rintro e w1 ⟨⟨v1, rfl, hv1⟩, hb1⟩
     replace hb1 := hb0.trans (hb1.mono hb0.size)
     have HV := Lib.hid hv1
     obtain ⟨a1, c1, rfl⟩ := hv1.cases
     clear hv1
     go_wp2
     go_ret2
     exact ⟨⟨_, by rw [E1.out]; rfl, by rw [E2.out]; exact HV.out⟩, hb1⟩
   · have e1 : adS s m t n = t := by simp [adS, hst, hle]
     have e2 : adN s m t n = n - m := by simp [adN, hst, hle]
     have hc : cmpN m n < 0 := by rw [cmpN_lt (by omega)]; omega
     have E1 := Lib.hid e1; have E2 := Lib.hid e2
     clear e1 e2 hst
     go_enter Tryz.func224, Tryz.ntmps224
     go_wp2_with fail
     refine (natCmp_any _ _ m n _ HA.out HB.out (by omega) (by omega)).mono ?_
     rintro e w0 ⟨rfl, hb0⟩
     go_wp2_with fail
     refine (natMinus_any _ _ n m _ (HB.out.below hb0 (Nat.le_refl _)) (HA.out.below hb0 (Nat.le_refl _)) hn (by omega)).mono ?_
     rintro e w1 ⟨⟨v1, rfl, hv1⟩, hb1⟩
     replace hb1 := hb0.trans (hb1.mono hb0.size)
     have HV := Lib.hid hv1
     obtain ⟨a1, c1, rfl⟩ := hv1.cases
     clear hv1
     go_wp2
     go_ret2
     exact ⟨⟨_, by rw [E1.out]; rfl, by rw [E2.out]; exact HV.out⟩, hb1⟩
end Go.Proofs.YtdpjdifoonfcdaaGreatDoor
