/- Parts of a proof, in build order: M0, M1, Sb, N7, N8, M2, M3, M4, M5, By, Cg, Ch, Ci, Cj. -/
import Derived.Test.YtdpjdifoonfcdaaGreatDoorKr3
import Derived.Lib.ItoaMem
import Derived.Lib.AppendIntMem
import Derived.Lib.ItoaNum

namespace Go.Proofs.YtdpjdifoonfcdaaGreatDoor
open Go.RowKit Go.Lib
def Tab (w : World) : Prop := Lib.TabIs Tryz.prog w "internal/strconv.uint64pow10" .u64 Lib.pow10Tab
theorem Tab.below {w w' : World} {B : Nat} (h : Tab w) (hb : Below B w w') (hB : w.heap.size <= B) : Tab w' := by
 unfold Tab Lib.TabIs World.var? at h ⊢
 obtain ⟨g, hg⟩ : ∃ g, Tryz.prog.globalNamed "internal/strconv.uint64pow10" = some g := by
  cases hc : Tryz.prog.globalNamed "internal/strconv.uint64pow10" with
  | none => rw [hc] at h; cases h
  | some g => exact ⟨g, rfl⟩
 rw [hg] at h ⊢
 simp only [Option.bind_some] at h ⊢
 have hlt : g < w.heap.size := by
  rcases Nat.lt_or_ge g w.heap.size with h' | h'
  · exact h'
  · rw [Array.getElem?_eq_none h'] at h; cases h
 rw [hb.block g (by omega)]
 exact h
set_option maxRecDepth 100000 in
set_option maxHeartbeats 4000000 in
theorem fmtU_any (u : Nat) (w : World) (hu64 : u < 18446744073709551616) (htab : Tab w) :
 Calls Tryz.prog 253 #[.int .u64 (u : Nat), .int .i64 10] w fun e w' => e = .returned (.string ⟨(Lib.decDigits u).toArray⟩) /\ Below w.heap.size w w' := by
 have hi : Calls Tryz.prog 278 #[.int .u64 (u : Nat), .int .i64 10] w fun e w' => e = .returned (.string ⟨(Lib.decDigits u).toArray⟩) /\ Below w.heap.size w w' := by
  by_cases hs : u < 100
  · have hs2 : (u : Int) < 100 := by omega
    go_enter Tryz.func278, Tryz.ntmps278
    go_wp2_with (go_at_call 305; refine (Tryz.internal_strconv_small u hs _).mono ?_; rintro e w' ⟨rfl, rfl⟩)
    go_ret
    exact ⟨rfl, Below.refl _ _⟩
  · have hu1 : 1 <= u := by omega
    have hnd20 : Lib.nDigits u <= 20 := by have := Lib.numDigits_eq u hu1 hu64; split at this <;> omega
    have hal : Tryz.prog.arrayLen 403 = 24 := by simp [Program.arrayLen, Tryz.underlying403]
    have hsl : ∀ W, (Instr.sliceAt 403 (.pointer (some ⟨w.heap.size, 0, none⟩)) none (some (.int .i64 (Lib.nDigits u : Int))) none).run Tryz.prog W = .ok (.slice (some ⟨w.heap.size, 0, none⟩) (Lib.nDigits u) 24) W := fun W => by
     rw [run_sliceAt_array_h W 403 ⟨w.heap.size, 0, none⟩ (by simp [Program.arrayLen, Program.elem, Tryz.underlying403]) .i64 (Lib.nDigits u : Int) (by omega) (by rw [hal]; omega)]
     go_simp
    have hH0 := Lib.holds_zero0 w 403 (Lib.nDigits u) (by omega)
    have hfmt := Tryz.internal_strconv_formatBase10 w.heap.size 0 24 u (Array.replicate (Lib.nDigits u) 0) (w.alloc (.cells Lib.zeros24 403)) hH0 (by rw [Array.size_replicate]; exact Lib.lt_pow_nDigits u) hu64 (by rw [Array.size_replicate]; omega)
    rw [Array.size_replicate] at hfmt
    have HH0 := Lib.hid hH0
    have iu : ¬ (u : Int) < 100 := by omega
    clear hH0 hal
    go_enter Tryz.func278, Tryz.ntmps278
    go_wp2_with (first
     | (go_at_call 306; refine (Tryz.internal_strconv_numDigits u hu1 hu64 _ (Lib.tabIs_alloc htab _)).mono ?_; rintro e w' ⟨rfl, rfl⟩))
    go_at_call 307
    refine hfmt.mono ?_
    rintro e w' ⟨rfl, k, v', dk, rfl, hF⟩
    have hcv : (convert 109 9 (.slice (some ⟨w.heap.size, 0, none⟩) (Lib.nDigits u) 24)).run Tryz.prog ((Go.Sort.putRow (fun (b : UInt8) => Value.int .u8 (b.toNat : Int)) (w.alloc (.cells Lib.zeros24 403)) w.heap.size 0 dk).drewN k) = .ok (.string ⟨(Lib.decDigits u).toArray⟩) ((Go.Sort.putRow (fun (b : UInt8) => Value.int .u8 (b.toNat : Int)) (w.alloc (.cells Lib.zeros24 403)) w.heap.size 0 dk).drewN k) := by
     have h := run_convert_bytes_back (P := Tryz.prog) ((Go.Sort.putRow (fun (b : UInt8) => Value.int .u8 (b.toNat : Int)) (w.alloc (.cells Lib.zeros24 403)) w.heap.size 0 dk).drewN k) 109 9 5 ⟨w.heap.size, 0, none⟩ 24 (Lib.decDigits u) Tryz.underlying109 Tryz.underlying5 Tryz.underlying9 (fun j hj => by
      rw [Lib.row_is_numeral hF j hj, Lib.add_plain, World.cell?_drewN]
      exact Go.Sort.cell?_putRow (fun (b : UInt8) => Value.int .u8 (b.toNat : Int)) _ w.heap.size 0 _ dk HH0.out (by rw [hF.size, Array.size_replicate]) j (by rw [hF.size]; rw [Lib.decDigits_length] at hj; exact hj))
     rw [Lib.decDigits_length] at h
     exact h
    go_wp2
    go_ret
    obtain ⟨os, eo⟩ := Lib.fin_at w (.cells Lib.zeros24 403) dk k 0
    rw [eo]
    exact ⟨rfl, Lib.below_grow w.heap.size w (Nat.le_refl _) k os⟩
 have HI := Lib.hid hi; clear hi
 go_enter Tryz.func253, Tryz.ntmps253
 go_wp2_with (go_at_call 278; refine HI.out.mono ?_; rintro e w' ⟨rfl, hb⟩)
 go_ret
 exact ⟨rfl, hb⟩
end Go.Proofs.YtdpjdifoonfcdaaGreatDoor

namespace Go.Proofs.YtdpjdifoonfcdaaGreatDoor
open Go.Lib
def padD : Nat -> Nat -> List UInt8
 | 0, _ => []
 | k + 1, l => padD k (l / 10) ++ [UInt8.ofNat (48 + l % 10)]
theorem padD_length (k l : Nat) : (padD k l).length = k := by
 induction k generalizing l with
 | zero => rfl
 | succ k ih => simp [padD, ih]
theorem decDigits_step {u : Nat} (h : ¬ u < 10) : decDigits u = decDigits (u / 10) ++ [UInt8.ofNat (48 + u % 10)] := by rw [decDigits, dif_neg h]
theorem dec_shift (k : Nat) : ∀ h l : Nat, 0 < h -> l < 10 ^ k -> decDigits (h * 10 ^ k + l) = decDigits h ++ padD k l := by
 induction k with
 | zero => intro h l hh hl; have : l = 0 := by simpa using hl
           subst this; simp [padD]
 | succ k ih =>
   intro h l hh hl
   have hp : 1 <= 10 ^ k := Nat.one_le_pow _ _ (by decide)
   have e1 : h * 10 ^ (k + 1) = h * 10 ^ k * 10 := by rw [Nat.pow_succ, Nat.mul_assoc]
   have h1 : 1 * 1 <= h * 10 ^ k := Nat.mul_le_mul hh hp
   rw [Nat.pow_succ] at hl
   rw [e1, decDigits_step (by omega)]
   have e2 : (h * 10 ^ k * 10 + l) / 10 = h * 10 ^ k + l / 10 := by omega
   have e3 : (h * 10 ^ k * 10 + l) % 10 = l % 10 := by omega
   rw [e2, e3, ih h (l / 10) hh (by omega), List.append_assoc]
   rfl
theorem nDigits_shift (k h l : Nat) (hh : 0 < h) (hl : l < 10 ^ k) : nDigits (h * 10 ^ k + l) = nDigits h + k := by
 have := congrArg List.length (dec_shift k h l hh hl)
 simpa [decDigits_length, padD_length] using this
theorem rep_snoc48 (k : Nat) : List.replicate k (48 : UInt8) ++ [48] = List.replicate (k + 1) 48 := by
 rw [List.replicate_succ']
theorem padD_small (k : Nat) : ∀ l : Nat, l < 10 -> padD (k + 1) l = List.replicate k 48 ++ [UInt8.ofNat (48 + l)] := by
 induction k with
 | zero => intro l hl; rw [padD, padD, Nat.mod_eq_of_lt hl]; rfl
 | succ k ih =>
   intro l hl
   rw [padD, ih (l / 10) (by omega), Nat.mod_eq_of_lt hl, Nat.div_eq_of_lt hl, show UInt8.ofNat (48 + 0) = 48 from rfl, rep_snoc48]
theorem padD_eq (k : Nat) : ∀ l : Nat, l < 10 ^ (k + 1) -> padD (k + 1) l = List.replicate (k + 1 - nDigits l) 48 ++ decDigits l := by
 induction k with
 | zero =>
   intro l hl
   have hl : l < 10 := by simpa using hl
   rw [padD_small 0 l hl, nDigits_small hl, decDigits_one hl]
 | succ k ih =>
   intro l hl
   by_cases h : l < 10
   · rw [padD_small (k + 1) l h, nDigits_small h, decDigits_one h]; rfl
   · rw [padD, ih (l / 10) (by rw [Nat.pow_succ] at hl; omega), decDigits_step h, nDigits_big h, List.append_assoc, show k + 1 + 1 - (nDigits (l / 10) + 1) = k + 1 - nDigits (l / 10) from by omega]
theorem nDigits_le (k : Nat) : ∀ l : Nat, l < 10 ^ (k + 1) -> nDigits l <= k + 1 := by
 induction k with
 | zero => intro l hl; rw [nDigits_small (by simpa using hl)]; exact Nat.le_refl _
 | succ k ih =>
   intro l hl
   by_cases h : l < 10
   · rw [nDigits_small h]; omega
   · rw [nDigits_big h]
     have := ih (l / 10) (by rw [Nat.pow_succ] at hl; omega)
     omega
theorem B_pow (k : Nat) : B ^ k = 10 ^ (9 * k) := by
 rw [Nat.pow_mul]; rfl
theorem dec_digit {h x : Nat} (hh : 0 < h) (hx : x < B) : decDigits (x + B * h) = decDigits h ++ (List.replicate (9 - nDigits x) 48 ++ decDigits x) /\ nDigits x <= 9 := by
 have hx' : x < 10 ^ (8 + 1) := hx
 refine ⟨?_, nDigits_le 8 x hx'⟩
 rw [<- padD_eq 8 x hx', <- dec_shift 9 h x hh hx, show x + B * h = h * 10 ^ 9 + x from by simp only [B]; omega]
theorem val_drop {l : List Nat} {i x : Nat} (hx : l[i]? = some x) : val (l.drop i) = x + B * val (l.drop (i + 1)) := by
 have hi : i < l.length := (List.getElem?_eq_some_iff.1 hx).1
 rw [List.drop_eq_getElem_cons hi, val_cons]
 rw [List.getElem?_eq_getElem hi] at hx
 cases hx
 rfl
theorem top_pos {n t : Nat} (h : (dig n)[(dig n).length - 1]? = some t) : 0 < t := by
 have h1 := last_dig n
 rw [List.getLast?_eq_getElem?, h] at h1
 rcases Nat.eq_zero_or_pos t with h2 | h2
 · subst h2; exact absurd rfl h1
 · exact h2
theorem drop_pos {l : List Nat} {t : Nat} (h : l[l.length - 1]? = some t) (ht : 0 < t) (i : Nat) (hi : i < l.length) : 0 < val (l.drop i) := by
 rcases Nat.eq_zero_or_pos (val (l.drop i)) with h0 | h0
 · exfalso
   have h1 := val_eq_zero.1 h0 t (List.mem_iff_getElem?.2 ⟨l.length - 1 - i, by rw [List.getElem?_drop, show i + (l.length - 1 - i) = l.length - 1 from by omega]; exact h⟩)
   omega
 · exact h0
theorem val_top {l : List Nat} {t : Nat} (h : l[l.length - 1]? = some t) : val (l.drop (l.length - 1)) = t := by
 have hi := (List.getElem?_eq_some_iff.1 h).1
 rw [val_drop h, List.drop_of_length_le (by omega)]
 simp [val]
theorem size_dig_eq {n t : Nat} (h : (dig n)[(dig n).length - 1]? = some t) : nDigits n = 9 * ((dig n).length - 1) + nDigits t := by
 have ht := top_pos h
 have h1 := val_split h
 have hi := (List.getElem?_eq_some_iff.1 h).1
 rw [val_dig, List.drop_of_length_le (by omega)] at h1
 simp only [val, Nat.mul_zero, Nat.add_zero] at h1
 have h2 : val ((dig n).take ((dig n).length - 1)) < B ^ ((dig n).length - 1) := by
  have h3 := val_lt (xs := (dig n).take ((dig n).length - 1)) (fun d hd => sm_dig n d (List.mem_of_mem_take hd))
  rwa [List.length_take, Nat.min_eq_left (by omega)] at h3
 rw [B_pow] at h1 h2
 generalize 9 * ((dig n).length - 1) = k at *
 generalize val ((dig n).take ((dig n).length - 1)) = lo at *
 rw [h1, Nat.add_comm lo, Nat.mul_comm, nDigits_shift k t lo ht h2]
 omega
theorem nDigits_val {l : List Nat} (h : Sm l) (h0 : 0 < l.length) : nDigits (val l) <= 9 * l.length := by
 have h1 := val_lt h
 rw [B_pow] at h1
 have := nDigits_le (9 * l.length - 1) (val l) (by rw [show 9 * l.length - 1 + 1 = 9 * l.length from by omega]; exact h1)
 omega
theorem sm_dropM {l : List Nat} (h : Sm l) (k : Nat) : Sm (l.drop k) := fun d hd => h d (List.mem_of_mem_drop hd)
end Go.Proofs.YtdpjdifoonfcdaaGreatDoor

namespace Go.Proofs.YtdpjdifoonfcdaaGreatDoor
open Go.RowKit
theorem Tryz.sizeBuilder : (Tryz.prog.info? 382).map (·.size) = some 2 := by kernel_rfl
theorem Tryz.liesBuilder : liesAt Tryz.prog Tryz.prog.depth 382 (2 / Tryz.prog.cellsOf 382) 0 382 1 = true := by kernel_rfl
theorem Tryz.infoByte : (Tryz.prog.info? 5).map (fun i => (i.zero, i.size, i.bytes)) = some (some (.int .u8 0), 1, 1) := by kernel_rfl
set_option maxHeartbeats 1000000 in
set_option maxRecDepth 100000 in
theorem copyCheck_used (b : Nat) (w : World) (h0 : w.cell? ⟨b, 0, none⟩ = some (.pointer (some ⟨b, 0, none⟩))) :
 Calls Tryz.prog 309 #[.pointer (some ⟨b, 0, none⟩)] w fun e w' => e = .returned (.tuple #[]) /\ w' = w := by
 obtain ⟨j, hj, _⟩ := Option.map_eq_some_iff.1 Tryz.sizeBuilder
 go_enter Tryz.func309, Tryz.ntmps309
 go_wp2
 rw [Lib.run_neq_ptr_same w _ Tryz.underlying380 hj]
 go_wp2
 go_end0
 exact ⟨rfl, rfl⟩
set_option maxHeartbeats 1000000 in
set_option maxRecDepth 100000 in
theorem copyCheck_fresh (b : Nat) (w : World) (h0 : w.cell? ⟨b, 0, none⟩ = some (.pointer none)) (hsh : w.shape? b = some (382, 2)) (hfz : w.frozen? ⟨b, 0, none⟩ = false) :
 Calls Tryz.prog 309 #[.pointer (some ⟨b, 0, none⟩)] w fun e w' => e = .returned (.tuple #[]) /\ w' = w.setCell ⟨b, 0, none⟩ (.pointer (some ⟨b, 0, none⟩)) := by
 obtain ⟨j, hj, hjs⟩ := Option.map_eq_some_iff.1 Tryz.sizeBuilder
 go_enter Tryz.func309, Tryz.ntmps309
 go_wp2
 rw [Lib.run_to_unsafe w ⟨b, 0, none⟩ Tryz.underlying380 Tryz.underlying432 hj (by rw [hjs]; decide) hsh (Nat.zero_lt_succ 1)]
 simp only [Result.andThen]
 rw [Oper.upon_value]
 go_wp2
 rw [run_callFunc_extern Tryz.func334 (by kernel_rfl) (by kernel_rfl) (by kernel_rfl) (e := Extern.AbiNoEscape.same) (by kernel_rfl)]
 rw [Lib.run_noEscape]
 simp only [Result.andThen]
 rw [Oper.upon_value]
 go_wp2
 rw [Lib.run_from_unsafe w ⟨b, 0, none⟩ Tryz.underlying432 Tryz.underlying380 hj hsh Tryz.liesBuilder]
 simp only [Result.andThen]
 rw [Oper.upon_value]
 go_wp2
 go_end0
 exact ⟨rfl, rfl⟩
theorem copyCheck_any (B b : Nat) (bs : List Value) (w : World) (h : Lib.IsBuilder 382 5 B b bs w) :
 Calls Tryz.prog 309 #[.pointer (some ⟨b, 0, none⟩)] w fun e w' => e = .returned (.tuple #[]) /\ (Lib.BuilderAt 382 5 B b (.pointer (some ⟨b, 0, none⟩)) bs w' /\ Below B w w') := by
 rcases h with h | h
 · refine (copyCheck_fresh b w h.cell0 h.shape h.frozen0).mono ?_
   rintro e w' ⟨rfl, rfl⟩
   exact ⟨rfl, h.used _, (Below.refl B w).setCell (p := ⟨b, 0, none⟩) h.1 _⟩
 · refine (copyCheck_used b w h.cell0).mono ?_
   rintro e w' ⟨rfl, rfl⟩
   exact ⟨rfl, h, Below.refl B _⟩
set_option maxHeartbeats 2000000 in
set_option maxRecDepth 100000 in
theorem writeString_any (B b : Nat) (bs : List Value) (s : ByteArray) (w : World) (h : Lib.IsBuilder 382 5 B b bs w) (hlen : bs.length + s.size <= 140737488355328) (hBw : B <= w.heap.size) :
 Calls Tryz.prog 279 #[.pointer (some ⟨b, 0, none⟩), .string s] w fun e w' => e = .returned (.tuple #[.int .i64 s.size, .nilIface]) /\ (Lib.BuilderAt 382 5 B b (.pointer (some ⟨b, 0, none⟩)) (bs ++ Lib.strCells s) w' /\ Below B w w') := by
 obtain ⟨i0, hi, hz0, hz1, hz2⟩ := info_parts Tryz.infoByte
 go_enter Tryz.func279, Tryz.ntmps279
 go_wp2_with (go_at_call 309; refine (copyCheck_any B b bs _ h).mono ?_)
 rintro e w1 ⟨rfl, h1, hb1⟩
 obtain ⟨hB, v, hbk, hown, hne⟩ := h1
 have c0 : w1.cell? ⟨b, 0, none⟩ = some (.pointer (some ⟨b, 0, none⟩)) := by rw [Lib.cell_of_heap hbk]; rfl
 have c1 : w1.cell? ⟨b, 1, none⟩ = some v := by rw [Lib.cell_of_heap hbk]; rfl
 go_wp2_with (at_builtin; refine Lib.wpList_append_own_string _ rfl _ _ 109 9 rfl B 5 i0 Tryz.underlying109 Tryz.underlying9 hi hz0 hz1 hz2 _ _ _ rfl hown s rfl ?c3 ?c4 ?c5 ?_)
 case c3 => unfold maxLen; omega
 case c4 => omega
 case c5 => have := hb1.size; omega
 intro v' w2 hown' hgrow _
 have hlt : b < w1.heap.size := by
  rcases Nat.lt_or_ge b w1.heap.size with h' | h'
  · exact h'
  · simp [Array.getElem?_eq_none h'] at hbk
 have hb2 : w2.heap[b]? = some (.cells #[.pointer (some ⟨b, 0, none⟩), v] 382 (0, 0)) := by
  rw [hgrow.block b hlt (fun e => hne e.symm)]
  exact hbk
 have d0 : w2.cell? ⟨b, 0, none⟩ = some (.pointer (some ⟨b, 0, none⟩)) := by rw [Lib.cell_of_heap hb2]; rfl
 have d1 : w2.cell? ⟨b, 1, none⟩ = some v := by rw [Lib.cell_of_heap hb2]; rfl
 have f1 : w2.frozen? ⟨b, 1, none⟩ = false := Lib.frozen_of_heap hb2 1
 obtain ⟨ao, n', cap, rfl⟩ : ∃ ao n' cap, v' = .slice ao n' cap := by
  rcases hown'.2 with ⟨hv, _⟩ | ⟨g, cap, cur, hv, _⟩
  · exact ⟨_, _, _, hv⟩
  · exact ⟨_, _, _, hv⟩
 go_wp2
 go_ret2
 refine ⟨rfl, ?_, ?_⟩
 · exact Lib.BuilderAt.put (T := 382) (e := 5) hB hb2 (bs' := bs ++ Lib.strCells s) (by simpa [Lib.strCells_length] using hown') (by decide)
 · exact (hb1.grown hgrow (by have := hb1.size; omega) (fun k hk => (hown.lt k hk).1)).setCell (p := ⟨b, 1, none⟩) hB _
end Go.Proofs.YtdpjdifoonfcdaaGreatDoor

namespace Go.Proofs.YtdpjdifoonfcdaaGreatDoor
open Go.RowKit
theorem zero_any (v : Value) (s : Bool) (n d : Nat) (w : World) (hv : RatV w v s n d) :
 Calls Tryz.prog 164 #[v] w fun e w' => e = .returned (.bool (decide (n = 0))) /\ Below w.heap.size w w' := by
 obtain ⟨vn, vd, rfl, hn, hd⟩ := hv
 obtain ⟨an, cn, rfl⟩ := hn.cases
 obtain ⟨ad, cd, rfl⟩ := hd.cases
 have hl : decide (n = 0) = (((dig n).length : Int) == 0) := by
  rw [Bool.eq_iff_iff, decide_eq_true_iff, beq_iff_eq, <- dig_len_pos]; omega
 have HL := Lib.hid hl; clear hl hn hd
 go_enter Tryz.func164, Tryz.ntmps164
 go_wp2
 go_ret
 exact ⟨ret_bool HL.out.symm, (Below.refl _ _).alloc (Nat.le_refl _) _⟩
end Go.Proofs.YtdpjdifoonfcdaaGreatDoor

namespace Go.Proofs.YtdpjdifoonfcdaaGreatDoor
open Go.RowKit
theorem isReal_any (v : Value) (s1 s2 : Bool) (n1 d1 n2 d2 : Nat) (w : World) (hv : ValV w v s1 n1 d1 s2 n2 d2) :
 Calls Tryz.prog 161 #[v] w fun e w' => e = .returned (.bool (decide (n2 = 0))) /\ Below w.heap.size w w' := by
 obtain ⟨va, vb, vc, vd, rfl, ha, hb, hc, hd⟩ := hv
 obtain ⟨aa, ca, rfl⟩ := ha.cases
 obtain ⟨ab, cb, rfl⟩ := hb.cases
 have HC := Lib.hid hc; have HD := Lib.hid hd
 obtain ⟨ac, cc, rfl⟩ := hc.cases
 obtain ⟨ad, cd, rfl⟩ := hd.cases
 clear ha hb hc hd
 go_enter Tryz.func161, Tryz.ntmps161
 go_wp2_with fail
 refine (zero_any _ s2 n2 d2 _ ⟨_, _, rfl, HC.out.below ((Below.refl _ _).alloc (Nat.le_refl _) _) (Nat.le_refl _), HD.out.below ((Below.refl _ _).alloc (Nat.le_refl _) _) (Nat.le_refl _)⟩).mono ?_
 rintro e w1 ⟨rfl, hb1⟩
 go_wp2
 go_ret
 exact ⟨rfl, ((Below.refl _ _).alloc (Nat.le_refl _) _).trans (hb1.mono (by simp))⟩
set_option maxRecDepth 100000 in
theorem whole_pos (n : Nat) (w : World) (h : n < 9223372036854775808) :
 Calls Tryz.prog 82 #[.int .i64 (n : Nat)] w fun e w' => (∃ v, e = .returned v /\ RatV w' v false n 1) /\ Below w.heap.size w w' := by
 have h0 : (0 : Int) <= n := by omega
 have hn := fun wx => natural_any n wx (by omega)
 have HN := Lib.hid hn; clear hn
 have hle : (n : Int) <= 9223372036854775807 := by omega
 go_enter Tryz.func82, Tryz.ntmps82
 go_wp2_with fail
 refine (HN.out _).mono ?_
 rintro e w1 ⟨⟨a, c, rfl, hc, hc1, hc2⟩, hb1⟩
 have H1 : Hid (NatV w1 (.slice a (dig n).length c) n) := ⟨a, c, rfl, hc, hc1, hc2⟩
 clear hc
 have hbw : Below w.heap.size w w1 := ((Below.refl _ _).alloc (Nat.le_refl _) _).trans (hb1.mono (by simp))
 go_wp2_with fail
 refine (one_any _).mono ?_
 rintro e w2 ⟨⟨v1, rfl, h1⟩, hb2⟩
 have hbx := hb1.trans (hb2.mono hb1.size)
 have hbw2 : Below w.heap.size w w2 := hbw.trans (hb2.mono hbw.size)
 have H2 := Lib.hid (H1.out.below hb2 (Nat.le_refl _))
 have H3 := Lib.hid h1
 obtain ⟨a1, c1, hv1⟩ := h1.cases
 rw [dig_1] at hv1
 subst hv1
 clear h1
 have q0 : w2.cell? ⟨w.heap.size, 0, none⟩ = some (.bool false) := box_keep hbx (by simp) 0
 have q1 : w2.cell? ⟨w.heap.size, 1, none⟩ = some (.slice none 0 0) := box_keep hbx (by simp) 1
 have q2 : w2.cell? ⟨w.heap.size, 2, none⟩ = some (.slice none 0 0) := box_keep hbx (by simp) 2
 have f0 := box_free hbx (by simp) 0
 have f1 := box_free hbx (by simp) 1
 have f2 := box_free hbx (by simp) 2
 go_wp2
 refine bodyPost_ret (v := .agg #[.bool false, .slice a (dig n).length c, .slice a1 1 c1]) (by simp [results, Tryz.results82, go_sem, q0, q1, q2]) rfl ?_
 exact ⟨⟨_, rfl, _, _, rfl, H2.out.box3 q0 q1 q2 trivial trivial trivial, H3.out.box3 q0 q1 q2 trivial trivial trivial⟩, ((hbw2.setCell (Nat.le_refl _) _).setCell (Nat.le_refl _) _).setCell (Nat.le_refl _) _⟩
end Go.Proofs.YtdpjdifoonfcdaaGreatDoor

namespace Go.Proofs.YtdpjdifoonfcdaaGreatDoor
open Go.RowKit
def decB (n : Nat) : ByteArray := ⟨(Lib.decDigits n).toArray⟩
theorem decB_size (n : Nat) : (decB n).size = Lib.nDigits n := by
 rw [<- Lib.decDigits_length]; simp [decB, ByteArray.size]
theorem dec_zero : Lib.decDigits 0 = [48] := Lib.decDigits_one (by decide)
set_option maxRecDepth 100000 in
theorem size_any (v : Value) (n : Nat) (w : World) (hv : NatV w v n) (ht : Tab w) (hl : (dig n).length <= 17592186044416) :
 Calls Tryz.prog 218 #[v] w fun e w' => e = .returned (.int .i64 (Lib.nDigits n)) /\ Below w.heap.size w w' := by
 by_cases h0 : n = 0
 · subst h0
   obtain ⟨a, c, rfl⟩ := hv.cases
   have hl0 : (dig 0).length = 0 := by rw [dig_zero]; rfl
   rw [hl0]
   clear hv hl0
   go_enter Tryz.func218, Tryz.ntmps218
   go_wp2
   go_ret
   exact ⟨by rw [Lib.nDigits_small (by decide)]; rfl, Below.refl _ _⟩
 · obtain ⟨a, c, rfl, hc, _⟩ := hv
   obtain ⟨L, hL⟩ : ∃ L, (dig n).length = L + 1 := ⟨(dig n).length - 1, by have := mt dig_len_pos.1 h0; omega⟩
   obtain ⟨t, htd⟩ := get_of_lt (show L < (dig n).length by omega)
   have hsz := size_dig_eq (n := n) (t := t) (by rw [hL]; exact htd)
   have htb : t <= 999999999 := sm_get (sm_dig n) htd
   obtain ⟨b, off, rfl⟩ := hc.addr (dgs_ne (by omega))
   have c0 : w.cell? ⟨b, off + L, none⟩ = some (.int .u64 (t : Nat)) := hc.dgs htd
   rw [hL] at hsz hl ⊢
   simp only [Nat.add_sub_cancel] at hsz
   have hn9 := nDigits_le 8 t (by omega)
   have hff := fmtU_any t w (by omega) ht
   have hs : (⟨(Lib.decDigits t).toArray⟩ : ByteArray).size = Lib.nDigits t := decB_size t
   have e1 : IntKind.i64.wrap (((L + 1 : Nat) : Int) - 1) = (L : Int) := by rw [show ((L + 1 : Nat) : Int) - 1 = (L : Int) from by omega]; exact IntWalk.i64_in _ (by omega)
   have e2 : (L : Int).toNat = L := by omega
   have e3 : IntKind.i64.wrap (9 * (L : Int)) = 9 * (L : Int) := IntWalk.i64_in _ (by omega)
   have e4 : IntKind.i64.wrap (9 * (L : Int) + (Lib.nDigits t : Int)) = (Lib.nDigits n : Int) := by rw [show 9 * (L : Int) + (Lib.nDigits t : Int) = (Lib.nDigits n : Int) from by omega]; exact IntWalk.i64_in _ (by omega)
   have HFF := Lib.hid hff
   clear hff hc ht htd hsz hL
   go_enter Tryz.func218, Tryz.ntmps218
   go_wp2_with (go_at_call 253; refine HFF.out.mono ?_; rintro e w' ⟨rfl, hb⟩)
   go_ret
   exact ⟨rfl, hb⟩
theorem builder_below {T e : TypeId} {B b C : Nat} {p : Value} {bs : List Value} {w w' : World} (h : Lib.BuilderAt T e B b p bs w) (hb : Below C w w') (hC : w.heap.size <= C) : Lib.BuilderAt T e B b p bs w' := by
 have hlt := h.lt
 obtain ⟨hB, v, hk, hown, hne⟩ := h
 refine ⟨hB, v, by rw [hb.block b (by omega)]; exact hk, ?_, hne⟩
 exact hown.kept (row := none) ⟨hb.os, hb.tape, hb.output, hb.size, fun k hk _ => hb.block k (by omega)⟩ (by cases hv : v.ownBlock <;> simp)
theorem repeat_zero (c : Nat) : Lib.repeatL [48] c = List.replicate c 48 := by
 induction c with
 | zero => rfl
 | succ c ih => rw [Lib.repeatL, ih, List.replicate_succ]; rfl
theorem cat_cells {rs : ByteArray} {k x : Nat} (h : rs.data.toList = List.replicate k 48) : Lib.strCells (rs ++ ⟨(Lib.decDigits x).toArray⟩) = Lib.byteCells (List.replicate k 48 ++ Lib.decDigits x) := by
 rw [Lib.strCells_eq]
 simp [ByteArray.data_append, h]
set_option maxRecDepth 100000 in
set_option maxHeartbeats 4000000 in
theorem natText_any (v : Value) (n : Nat) (w : World) (hv : NatV w v n) (ht : Tab w) (hl : (dig n).length <= 8796093022208) :
 Calls Tryz.prog 254 #[v] w fun e w' => e = .returned (.string (decB n)) /\ Below w.heap.size w w' := by
 by_cases h0 : n = 0
 · subst h0
   obtain ⟨a, c, rfl⟩ := hv.cases
   have hl0 : (dig 0).length = 0 := by rw [dig_zero]; rfl
   rw [hl0]
   clear hv hl0
   go_enter Tryz.func254, Tryz.ntmps254
   go_wp2
   go_ret
   have hz : decB 0 = ⟨#[48]⟩ := by unfold decB; rw [dec_zero]
   rw [hz]
   exact ⟨rfl, Below.refl _ _⟩
 · obtain ⟨a, c, rfl, hc, _⟩ := hv
   obtain ⟨L, hL⟩ : ∃ L, (dig n).length = L + 1 := ⟨(dig n).length - 1, by have := mt dig_len_pos.1 h0; omega⟩
   obtain ⟨t, htd⟩ := get_of_lt (show L < (dig n).length by omega)
   have htd' : (dig n)[(dig n).length - 1]? = some t := by rw [hL]; exact htd
   have hsz := size_dig_eq htd'
   have htp := top_pos htd'
   have hvt := val_top htd'
   have hdp := drop_pos htd' htp
   have htb : t <= 999999999 := sm_get (sm_dig n) htd
   obtain ⟨b, off, rfl⟩ := hc.addr (dgs_ne (by omega))
   rw [hL] at hsz hl hvt hdp ⊢
   simp only [Nat.add_sub_cancel] at hsz hvt
   have hn9 := nDigits_le 8 t (by omega)
   have c0 : w.cell? ⟨b, off + L, none⟩ = some (.int .u64 (t : Nat)) := hc.dgs htd
   have hal := (Below.refl w.heap.size w).alloc (Nat.le_refl _) (.cells #[.pointer none, .slice none 0 0] 382)
   have c1 := cell_keep c0 hal (Nat.le_refl _)
   have htab1 := ht.below hal (Nat.le_refl _)
   have hbu : Lib.BuilderAt 382 5 w.heap.size w.heap.size (.pointer none) [] (w.alloc (.cells #[.pointer none, .slice none 0 0] 382)) :=
    ⟨Nat.le_refl _, .slice none 0 0, heap_alloc_new w _, World.ownsRow_nil _ _ _ _, by simp [Value.ownBlock]⟩
   have hff := fmtU_any t _ (by omega) htab1
   have HFF := Lib.hid hff; have HBU := Lib.hid hbu; have HC := Lib.hid hc; have HT := Lib.hid ht; have HVT := Lib.hid hvt; have HDP := Lib.hid hdp; have HSZ := Lib.hid hsz; have HL := Lib.hid hL
   clear hff hbu hc ht htd htd' hvt hdp c0 htab1
   have e1 : IntKind.i64.wrap (((L + 1 : Nat) : Int) - 1) = (L : Int) := by rw [show ((L + 1 : Nat) : Int) - 1 = (L : Int) from by omega]; exact IntWalk.i64_in _ (by omega)
   have e2 : (L : Int).toNat = L := by omega
   have e3 : IntKind.i64.wrap (((L + 1 : Nat) : Int) - 2) = (L : Int) - 1 := by rw [show ((L + 1 : Nat) : Int) - 2 = (L : Int) - 1 from by omega]; exact IntWalk.i64_in _ (by omega)
   go_enter Tryz.func254, Tryz.ntmps254
   go_wp2_with fail
   refine HFF.out.mono ?_
   rintro e w1 ⟨rfl, hb1⟩
   go_wp2_with fail
   refine (writeString_any w.heap.size w.heap.size [] (decB t) _ (.inl (builder_below HBU.out hb1 (Nat.le_refl _))) (by rw [decB_size]; show (0 : Nat) + _ <= _; omega) (Nat.le_trans hal.size hb1.size)).mono ?_
   rintro e w2 ⟨rfl, h2, hb2⟩
   have hb3 : Below w.heap.size w w2 := (hal.trans (hb1.mono hal.size)).trans hb2
   rw [List.nil_append, show Lib.strCells (decB t) = Lib.byteCells (Lib.decDigits t) from rfl] at h2
   have H2 := Lib.hid h2; have HB3 := Lib.hid hb3
   clear h2 hb3 hb1 hb2 HFF HBU c1 hal
   go_wp2_with fail
   go_loopw [4] (fun iv wr => ∃ j : Nat, j <= L /\ iv = .int .i64 ((j : Int) - 1) /\ Lib.BuilderAt 382 5 w.heap.size w.heap.size (.pointer (some ⟨w.heap.size, 0, none⟩)) (Lib.byteCells (Lib.decDigits (val ((dig n).drop j)))) wr /\ Below w.heap.size w wr) (fun iv _ => (intOf iv + 1).toNat)
   case atStart => exact ⟨L, Nat.le_refl _, congrArg (Value.int .i64) (by omega), by rw [HVT.out]; exact H2.out, HB3.out⟩
   case round =>
    clear H2 HB3
    obtain ⟨j, hj, rfl, hbu, hbr⟩ := hrel
    have HBU := Lib.hid hbu; have HBR := Lib.hid hbr
    clear hbu hbr
    rcases Nat.eq_zero_or_pos j with hj0 | hj0
    · subst hj0
      have hst := Tryz.Builder_String w.heap.size w.heap.size (Lib.decDigits n) wr (.inr (by have := HBU.out; rwa [List.drop_zero, val_dig] at this)) (by intro h; have := congrArg List.length h; rw [Lib.decDigits_length] at this; have := Lib.nDigits_pos n; simp at *; omega)
      have HST := Lib.hid hst; clear hst
      go_wp2_with fail
      refine HST.out.mono ?_
      rintro e w3 ⟨rfl, hb4⟩
      go_wp2
      go_ret
      exact ⟨rfl, HBR.out.trans hb4⟩
    · obtain ⟨i, rfl⟩ : ∃ i, j = i + 1 := ⟨j - 1, by omega⟩
      obtain ⟨x, hx⟩ := get_of_lt (show i < (dig n).length by rw [HL.out]; omega)
      have hxb : x <= 999999999 := sm_get (sm_dig n) hx
      have hdv := val_drop hx
      have hhp := HDP.out (i + 1) (by omega)
      have hdd := (dec_digit hhp (show x < B by simp only [B]; omega))
      have hx9 := hdd.2
      have hxp := Lib.nDigits_pos x
      have hlen := HBU.out
      have hdl : Lib.nDigits (val ((dig n).drop (i + 1))) <= 79164837199872 := by
       have h1 := nDigits_val (sm_dropM (sm_dig n) (i + 1)) (by rw [List.length_drop, HL.out]; omega)
       rw [List.length_drop, HL.out] at h1
       omega
      have c0 : wr.cell? ⟨b, off + i, none⟩ = some (.int .u64 (x : Nat)) := (HC.out.below HBR.out (Nat.le_refl _)).dgs hx
      have hff := fmtU_any x wr (by omega) (HT.out.below HBR.out (Nat.le_refl _))
      have e1 : (((i + 1 : Nat) : Int) - 1) = (i : Int) := by omega
      have e2 : (i : Int).toNat = i := by omega
      have e4 : (0 : Int) <= i := by omega
      have e5 : (i : Int) < ((L + 1 : Nat) : Int) := by omega
      have e6 : IntKind.i64.wrap (9 - (Lib.nDigits x : Int)) = ((9 - Lib.nDigits x : Nat) : Int) := by rw [show 9 - (Lib.nDigits x : Int) = ((9 - Lib.nDigits x : Nat) : Int) from by omega]; exact IntWalk.i64_in _ (by omega)
      have e7 : IntKind.i64.wrap ((i : Int) - 1) = (i : Int) - 1 := IntWalk.i64_in _ (by omega)
      have hs : (⟨(Lib.decDigits x).toArray⟩ : ByteArray).size = Lib.nDigits x := decB_size x
      rw [e1]
      have HFF := Lib.hid hff; have HDD := Lib.hid hdd.1; have HDV := Lib.hid hdv
      clear hff hdd hdv hx e1 hhp hlen
      go_wp2_with fail
      refine HFF.out.mono ?_
      rintro e w3 ⟨rfl, hb4⟩
      go_wp2_with fail
      refine (Tryz.strings_Repeat ⟨#[48]⟩ (9 - Lib.nDigits x) _ (by omega) (by show 1 * _ <= _; omega)).mono ?_
      rintro e w4 ⟨rfl, hb5⟩
      obtain ⟨rs, hrs⟩ : ∃ rs : ByteArray, rs = ⟨(Lib.repeatL (⟨#[48]⟩ : ByteArray).data.toList (9 - Lib.nDigits x)).toArray⟩ := ⟨_, rfl⟩
      rw [<- hrs]
      have hrl : rs.data.toList = List.replicate (9 - Lib.nDigits x) 48 := by rw [hrs]; exact repeat_zero _
      have hrz : rs.size = 9 - Lib.nDigits x := by have := congrArg List.length hrl; rw [List.length_replicate, Array.length_toList] at this; exact this
      have HRL := Lib.hid hrl
      clear hrs hrl
      go_wp2_with fail
      refine (writeString_any w.heap.size w.heap.size _ _ _ (.inr (builder_below (builder_below HBU.out hb4 (Nat.le_refl _)) hb5 (Nat.le_refl _))) ?_ (Nat.le_trans HBR.out.size (Nat.le_trans hb4.size hb5.size))).mono ?_
      · rw [Lib.byteCells_length, Lib.decDigits_length]
        simp only [ByteArray.size_append]
        rw [hrz, hs]
        omega
      rintro e w5 ⟨rfl, h5, hb6⟩
      have hb7 := ((HBR.out.trans (hb4.mono HBR.out.size)).trans (hb5.mono (Nat.le_trans HBR.out.size hb4.size))).trans hb6
      have H5 := Lib.hid h5; have HB7 := Lib.hid hb7
      clear h5 hb7 hb4 hb5 hb6
      go_wp2
      go_roundw
      case rel => exact ⟨i, by omega, rfl, by rw [HDV.out, HDD.out, Lib.byteCells_append, <- cat_cells HRL.out]; exact H5.out, HB7.out⟩
      case measure => simp [intOf]
end Go.Proofs.YtdpjdifoonfcdaaGreatDoor

namespace Go.Proofs.YtdpjdifoonfcdaaGreatDoor
open Go.RowKit
def sgT (s : Bool) (n : Nat) : ByteArray := if s = true then ⟨#[45]⟩ ++ decB n else decB n
def ratT (s : Bool) (n d : Nat) : ByteArray := if d = 1 then sgT s n else sgT s n ++ (⟨#[47]⟩ ++ decB d)
theorem len_of_digits {n : Nat} (h : Lib.nDigits n <= 10000) : (dig n).length <= 1112 := by
 by_cases h0 : n = 0
 · subst h0; rw [dig_zero]; simp
 · have hp : 0 < (dig n).length := by have := mt dig_len_pos.1 h0; omega
   obtain ⟨t, ht⟩ := get_of_lt (show (dig n).length - 1 < (dig n).length by omega)
   have h1 := size_dig_eq ht
   have h2 := Lib.nDigits_pos t
   omega
set_option maxRecDepth 100000 in
set_option maxHeartbeats 2000000 in
theorem ratText_any (v : Value) (s : Bool) (n d : Nat) (w : World) (hv : RatV w v s n d) (ht : Tab w) (h : Lib.nDigits n <= 10000) (h2 : Lib.nDigits d <= 10000) (h3 : d ≠ 0) :
 Calls Tryz.prog 219 #[v] w fun e w' => e = .returned (.string (ratT s n d)) /\ Below w.heap.size w w' := by
 obtain ⟨vn, vd, rfl, hn, hd⟩ := hv
 have HN := Lib.hid hn; have HD := Lib.hid hd
 obtain ⟨an, cn, rfl⟩ := hn.cases
 obtain ⟨ad, cd, rfl, hdc, _⟩ := hd
 have hl1 := len_of_digits h
 have hl2 := len_of_digits h2
 have hdp := dig_pos h3
 have hdl : (dig d).length = (dig (d / B)).length + 1 := by rw [hdp]; rfl
 obtain ⟨b, off, rfl⟩ := hdc.addr (dgs_ne (by omega))
 have h0d : (dig d)[0]? = some (d % B) := by rw [hdp]; rfl
 have HDC : Hid (∀ w1 : World, Below w.heap.size w w1 -> w1.cell? ⟨b, off, none⟩ = some (.int .u64 (d % B : Nat))) := fun w1 hb => by
  have := (hdc.below hb (Nat.le_refl _)).dgs h0d; exact this
 have hs1 : (decB n).size = Lib.nDigits n := decB_size n
 have hs2 : (decB d).size = Lib.nDigits d := decB_size d
 have hs3 : (⟨#[45]⟩ : ByteArray).size = 1 := rfl
 have hs4 : (⟨#[47]⟩ : ByteArray).size = 1 := rfl
 have hD1 : d = 1 ↔ ((dig (d / B)).length = 0 /\ d % B = 1) := by
  rw [dig_len_pos]
  have hB := B_pos
  constructor
  · rintro rfl; decide
  · rintro ⟨h5, h6⟩
    have := Nat.div_add_mod d B
    rw [h5, h6] at this
    omega
 have hx0 : (dig (d / B)).length = 0 -> d % B ≠ 0 := by
  intro h5 h6
  rw [dig_len_pos] at h5
  have := Nat.div_add_mod d B
  rw [h5, h6] at this
  omega
 have HTX := fun w1 (hb : Below w.heap.size w w1) => Lib.hid (natText_any (.slice an (dig n).length cn) n w1 (HN.out.below hb (Nat.le_refl _)) (ht.below hb (Nat.le_refl _)) (by omega))
 have HTD := fun w1 (hb : Below w.heap.size w w1) => Lib.hid (natText_any (.slice (some ⟨b, off, none⟩) (dig d).length cd) d w1 (HD.out.below hb (Nat.le_refl _)) (ht.below hb (Nat.le_refl _)) (by omega))
 have HTN := Lib.hid HTX; have HTE := Lib.hid HTD
 clear HTX HTD hdc h0d
 rw [hdl] at *
 clear hn hdp hdl ht HN HD
 generalize (dig (d / B)).length = M at *
 generalize d % B = x at *
 go_enter Tryz.func219, Tryz.ntmps219
 go_wp2_with fail
 refine (HTN.out _ ((Below.refl _ _).alloc (Nat.le_refl _) _)).out.mono ?_
 rintro e w1 ⟨rfl, hb1⟩
 have q0 : w1.cell? ⟨w.heap.size, 0, none⟩ = some (.bool s) := box_keep hb1 (by simp) 0
 have q1 : w1.cell? ⟨w.heap.size, 1, none⟩ = some (.slice an (dig n).length cn) := box_keep hb1 (by simp) 1
 have q2 : w1.cell? ⟨w.heap.size, 2, none⟩ = some (.slice (some ⟨b, off, none⟩) (M + 1) cd) := box_keep hb1 (by simp) 2
 have hbw : Below w.heap.size w w1 := ((Below.refl _ _).alloc (Nat.le_refl _) _).trans (hb1.mono (by simp))
 have c0 := HDC.out w1 hbw
 have hte := HTE.out w1 hbw
 obtain ⟨st, hst⟩ : ∃ st, st = decB n := ⟨_, rfl⟩
 obtain ⟨dt, hdt⟩ : ∃ dt, dt = decB d := ⟨_, rfl⟩
 have hsg : (s = true -> sgT s n = ⟨#[45]⟩ ++ st) /\ (s = false -> sgT s n = st) := by rw [hst]; unfold sgT; exact ⟨fun h => by rw [if_pos h], fun h => by rw [h]; rfl⟩
 have hrt : ratT s n d = if M = 0 /\ x = 1 then sgT s n else sgT s n ++ (⟨#[47]⟩ ++ dt) := by
  unfold ratT; rw [hdt]; by_cases h5 : d = 1
  · rw [if_pos h5, if_pos (hD1.1 h5)]
  · rw [if_neg h5, if_neg (fun h6 => h5 (hD1.2 h6))]
 have HRT := Lib.hid hrt; have HSG := Lib.hid hsg
 rw [<- hst] at hs1
 rw [<- hdt] at hs2
 rw [<- hst]
 rw [<- hdt] at hte
 clear hst hdt hrt hsg hD1 HTN HTE HDC hb1
 rcases Bool.eq_false_or_eq_true s with hs | hs
 · subst hs
   have hs5 := HSG.out.1 rfl
   by_cases hM : M = 0
   · have hx := hx0 hM
     simp only [hM, Nat.zero_add] at hte
     have i1 : ¬ (1 : Int) < ((M + 1 : Nat) : Int) := by omega
     have i1' : ¬ (0 : Int) < M := by omega
     by_cases hx1 : x = 1
     · have i2 : ¬ (1 : Int) < (x : Int) := by omega
       go_wp2
       go_ret
       rw [HRT.out, if_pos ⟨hM, hx1⟩, hs5]
       exact ⟨rfl, hbw⟩
     · have i2 : (1 : Int) < (x : Int) := by omega
       go_wp2_with fail
       refine hte.out.mono ?_
       rintro e w2 ⟨rfl, hb2⟩
       go_wp2
       go_ret
       rw [HRT.out, if_neg (fun h5 => hx1 h5.2), hs5]
       exact ⟨rfl, hbw.trans (hb2.mono hbw.size)⟩
   · have i1 : (1 : Int) < ((M + 1 : Nat) : Int) := by omega
     have i1' : (0 : Int) < M := by omega
     go_wp2_with fail
     refine hte.out.mono ?_
     rintro e w2 ⟨rfl, hb2⟩
     go_wp2
     go_ret
     rw [HRT.out, if_neg (fun h5 => hM h5.1), hs5]
     exact ⟨rfl, hbw.trans (hb2.mono hbw.size)⟩
 · subst hs
   have hs5 := HSG.out.2 rfl
   by_cases hM : M = 0
   · have hx := hx0 hM
     simp only [hM, Nat.zero_add] at hte
     have i1 : ¬ (1 : Int) < ((M + 1 : Nat) : Int) := by omega
     have i1' : ¬ (0 : Int) < M := by omega
     by_cases hx1 : x = 1
     · have i2 : ¬ (1 : Int) < (x : Int) := by omega
       go_wp2
       go_ret
       rw [HRT.out, if_pos ⟨hM, hx1⟩, hs5]
       exact ⟨rfl, hbw⟩
     · have i2 : (1 : Int) < (x : Int) := by omega
       go_wp2_with fail
       refine hte.out.mono ?_
       rintro e w2 ⟨rfl, hb2⟩
       go_wp2
       go_ret
       rw [HRT.out, if_neg (fun h5 => hx1 h5.2), hs5]
       exact ⟨rfl, hbw.trans (hb2.mono hbw.size)⟩
   · have i1 : (1 : Int) < ((M + 1 : Nat) : Int) := by omega
     have i1' : (0 : Int) < M := by omega
     go_wp2_with fail
     refine hte.out.mono ?_
     rintro e w2 ⟨rfl, hb2⟩
     go_wp2
     go_ret
     rw [HRT.out, if_neg (fun h5 => hM h5.1), hs5]
     exact ⟨rfl, hbw.trans (hb2.mono hbw.size)⟩
end Go.Proofs.YtdpjdifoonfcdaaGreatDoor

namespace Go.Proofs.YtdpjdifoonfcdaaGreatDoor
open Go.RowKit
def bigQ (n d : Nat) : Bool := decide (2000 < Lib.nDigits n) || decide (2000 < Lib.nDigits d)
set_option maxRecDepth 100000 in
theorem big_any (v : Value) (s : Bool) (n d : Nat) (w : World) (hv : RatV w v s n d) (ht : Tab w) (h : (dig n).length <= 17592186044416) (h2 : (dig d).length <= 17592186044416) :
 Calls Tryz.prog 150 #[v] w fun e w' => e = .returned (.bool (bigQ n d)) /\ Below w.heap.size w w' := by
 obtain ⟨vn, vd, rfl, hn, hd⟩ := hv
 have hsn := size_any vn n _ (hn.below ((Below.refl w.heap.size w).alloc (Nat.le_refl _) (.cells #[.bool s, vn, vd] 146)) (Nat.le_refl _)) (ht.below ((Below.refl w.heap.size w).alloc (Nat.le_refl _) _) (Nat.le_refl _)) h
 have hsd := fun w1 (hb : Below w.heap.size w w1) => size_any vd d w1 (hd.below hb (Nat.le_refl _)) (ht.below hb (Nat.le_refl _)) h2
 have HSN := Lib.hid hsn; have HSD := Lib.hid hsd
 obtain ⟨an, cn, rfl⟩ := hn.cases
 obtain ⟨ad, cd, rfl⟩ := hd.cases
 clear hn hd hsn hsd ht
 have hbq : bigQ n d = (decide ((2000 : Int) < (Lib.nDigits n : Nat)) || decide ((2000 : Int) < (Lib.nDigits d : Nat))) := by
  unfold bigQ; congr 1 <;> (rw [Bool.eq_iff_iff, decide_eq_true_iff, decide_eq_true_iff]; omega)
 have HBQ := Lib.hid hbq
 clear hbq
 by_cases hb : (2000 : Int) < (Lib.nDigits n : Nat)
 · go_enter Tryz.func150, Tryz.ntmps150
   go_wp2_with fail
   refine HSN.out.mono ?_
   rintro e w1 ⟨rfl, hb1⟩
   have hbw : Below w.heap.size w w1 := ((Below.refl _ _).alloc (Nat.le_refl _) _).trans (hb1.mono (by simp))
   go_wp2
   go_ret
   rw [HBQ.out]
   exact ⟨by rw [decide_eq_true hb]; rfl, hbw⟩
 · go_enter Tryz.func150, Tryz.ntmps150
   go_wp2_with fail
   refine HSN.out.mono ?_
   rintro e w1 ⟨rfl, hb1⟩
   have hbw : Below w.heap.size w w1 := ((Below.refl _ _).alloc (Nat.le_refl _) _).trans (hb1.mono (by simp))
   have q2 : w1.cell? ⟨w.heap.size, 2, none⟩ = some (.slice ad (dig d).length cd) := box_keep hb1 (by simp) 2
   go_wp2_with fail
   refine (HSD.out w1 hbw).mono ?_
   rintro e w2 ⟨rfl, hb2⟩
   go_wp2
   go_ret
   rw [HBQ.out]
   exact ⟨by rw [decide_eq_false (Int.not_lt.2 hb)]; rfl, hbw.trans (hb2.mono hbw.size)⟩
set_option maxRecDepth 100000 in
theorem valText_any (v : Value) (s : Bool) (n d : Nat) (s2 : Bool) (d2 : Nat) (w : World) (hv : ValV w v s n d s2 0 d2) (ht : Tab w) (h : Lib.nDigits n <= 10000) (h2 : Lib.nDigits d <= 10000) (h3 : d ≠ 0) :
 Calls Tryz.prog 151 #[v] w fun e w' => e = .returned (.string (ratT s n d)) /\ Below w.heap.size w w' := by
 have HV := Lib.hid hv
 obtain ⟨va, vb, vc, vd, rfl, ha, hb, hc, hd⟩ := hv
 have HA := Lib.hid ha; have HB := Lib.hid hb
 obtain ⟨aa, ca, rfl⟩ := ha.cases
 obtain ⟨ab, cb, rfl⟩ := hb.cases
 obtain ⟨ac, cc, rfl⟩ := hc.cases
 obtain ⟨ad, cd, rfl⟩ := hd.cases
 clear ha hb hc hd
 go_enter Tryz.func151, Tryz.ntmps151
 go_wp2_with fail
 refine (isReal_any _ s s2 n d 0 d2 _ (HV.out.below ((Below.refl _ _).alloc (Nat.le_refl _) _) (Nat.le_refl _))).mono ?_
 rintro e w1 ⟨rfl, hb1⟩
 have hbw : Below w.heap.size w w1 := ((Below.refl _ _).alloc (Nat.le_refl _) _).trans (hb1.mono (by simp))
 have q0 : w1.cell? ⟨w.heap.size, 0, none⟩ = some (.bool s) := box_keep hb1 (by simp) 0
 have q1 : w1.cell? ⟨w.heap.size, 1, none⟩ = some (.slice aa (dig n).length ca) := box_keep hb1 (by simp) 1
 have q2 : w1.cell? ⟨w.heap.size, 2, none⟩ = some (.slice ab (dig d).length cb) := box_keep hb1 (by simp) 2
 go_wp2_with fail
 refine (ratText_any _ s n d _ ⟨_, _, rfl, HA.out.below hbw (Nat.le_refl _), HB.out.below hbw (Nat.le_refl _)⟩ (ht.below hbw (Nat.le_refl _)) h h2 h3).mono ?_
 rintro e w2 ⟨rfl, hb2⟩
 go_wp2
 go_ret
 exact ⟨rfl, hbw.trans (hb2.mono hbw.size)⟩
def putT (s : Bool) (n d : Nat) : ByteArray := if bigQ n d then ⟨#[]⟩ else ratT s n d
def putE (n d : Nat) : Int := if bigQ n d then 11 else 0
theorem big_one : bigQ 0 1 = false := by
 unfold bigQ; rw [Lib.nDigits_small (by decide), Lib.nDigits_small (by decide)]; rfl
set_option maxRecDepth 100000 in
theorem put_any (v : Value) (s : Bool) (n d : Nat) (s2 : Bool) (w : World) (hv : ValV w v s n d s2 0 1) (ht : Tab w) (h : (dig n).length <= 17592186044416) (h2 : (dig d).length <= 17592186044416) (h3 : d ≠ 0) :
 Calls Tryz.prog 83 #[v] w fun e w' => e = .returned (.tuple #[.string (putT s n d), .int .i64 (putE n d)]) /\ Below w.heap.size w w' := by
 have HV := Lib.hid hv
 obtain ⟨va, vb, vc, vd, rfl, ha, hb, hc, hd⟩ := hv
 have HA := Lib.hid ha; have HB := Lib.hid hb; have HC := Lib.hid hc; have HD := Lib.hid hd
 obtain ⟨aa, ca, rfl⟩ := ha.cases
 obtain ⟨ab, cb, rfl⟩ := hb.cases
 obtain ⟨ac, cc, rfl⟩ := hc.cases
 obtain ⟨ad, cd, rfl⟩ := hd.cases
 clear ha hb hc hd
 have HT := Lib.hid ht; clear ht
 go_enter Tryz.func83, Tryz.ntmps83
 go_wp2_with fail
 refine (big_any _ s n d _ ⟨_, _, rfl, HA.out.below ((Below.refl _ _).alloc (Nat.le_refl _) _) (Nat.le_refl _), HB.out.below ((Below.refl _ _).alloc (Nat.le_refl _) _) (Nat.le_refl _)⟩ (HT.out.below ((Below.refl _ _).alloc (Nat.le_refl _) _) (Nat.le_refl _)) h h2).mono ?_
 rintro e w1 ⟨rfl, hb1⟩
 have hbw : Below w.heap.size w w1 := ((Below.refl _ _).alloc (Nat.le_refl _) _).trans (hb1.mono (by simp))
 rcases Bool.eq_false_or_eq_true (bigQ n d) with hq | hq
 · have hpt : putT s n d = ⟨#[]⟩ := by unfold putT; rw [if_pos hq]
   have hpe : putE n d = 11 := by unfold putE; rw [if_pos hq]
   have HPT := Lib.hid hpt; have HPE := Lib.hid hpe
   clear hpt hpe
   rw [hq]
   clear hq
   go_wp2
   go_ret2
   rw [HPT.out, HPE.out]
   exact ⟨rfl, hbw⟩
 have hpt : putT s n d = ratT s n d := by unfold putT; rw [hq]; rfl
 have hpe : putE n d = 0 := by unfold putE; rw [hq]; rfl
 have HPT := Lib.hid hpt; have HPE := Lib.hid hpe
 have hd1 : Lib.nDigits n <= 10000 /\ Lib.nDigits d <= 10000 := by
  unfold bigQ at hq
  rw [Bool.or_eq_false_iff, decide_eq_false_iff_not, decide_eq_false_iff_not] at hq
  omega
 rw [hq]
 clear hpt hpe hq
 have q3 : w1.cell? ⟨w.heap.size, 3, none⟩ = some (.bool s2) := box_keep hb1 (by simp) 3
 have q4 : w1.cell? ⟨w.heap.size, 4, none⟩ = some (.slice ac (dig 0).length cc) := box_keep hb1 (by simp) 4
 have q5 : w1.cell? ⟨w.heap.size, 5, none⟩ = some (.slice ad (dig 1).length cd) := box_keep hb1 (by simp) 5
 go_wp2_with fail
 refine (big_any _ s2 0 1 _ ⟨_, _, rfl, HC.out.below hbw (Nat.le_refl _), HD.out.below hbw (Nat.le_refl _)⟩ (HT.out.below hbw (Nat.le_refl _)) (by rw [dig_zero]; simp) (by rw [dig_1]; simp)).mono ?_
 rw [big_one]
 rintro e w2 ⟨rfl, hb2⟩
 have hbx := hb1.trans (hb2.mono hb1.size)
 have hbw2 : Below w.heap.size w w2 := hbw.trans (hb2.mono hbw.size)
 clear q3 q4 q5
 have q0 : w2.cell? ⟨w.heap.size, 0, none⟩ = some (.bool s) := box_keep hbx (by simp) 0
 have q1 : w2.cell? ⟨w.heap.size, 1, none⟩ = some (.slice aa (dig n).length ca) := box_keep hbx (by simp) 1
 have q2 : w2.cell? ⟨w.heap.size, 2, none⟩ = some (.slice ab (dig d).length cb) := box_keep hbx (by simp) 2
 have q3 : w2.cell? ⟨w.heap.size, 3, none⟩ = some (.bool s2) := box_keep hbx (by simp) 3
 have q4 : w2.cell? ⟨w.heap.size, 4, none⟩ = some (.slice ac (dig 0).length cc) := box_keep hbx (by simp) 4
 have q5 : w2.cell? ⟨w.heap.size, 5, none⟩ = some (.slice ad (dig 1).length cd) := box_keep hbx (by simp) 5
 go_wp2_with fail
 refine (valText_any _ s n d s2 1 _ (HV.out.below hbw2 (Nat.le_refl _)) (HT.out.below hbw2 (Nat.le_refl _)) hd1.1 hd1.2 h3).mono ?_
 rintro e w3 ⟨rfl, hb3⟩
 go_wp2
 go_ret2
 rw [HPT.out, HPE.out]
 exact ⟨rfl, hbw2.trans (hb3.mono hbw2.size)⟩
end Go.Proofs.YtdpjdifoonfcdaaGreatDoor

namespace Go.Proofs.YtdpjdifoonfcdaaGreatDoor
open Go.RowKit
set_option maxRecDepth 100000 in
theorem whole_neg (m : Nat) (w : World) (h : m < 9223372036854775808) :
 Calls Tryz.prog 82 #[.int .i64 (-(m : Int) - 1)] w fun e w' => (∃ v, e = .returned v /\ RatV w' v true (m + 1) 1) /\ Below w.heap.size w w' := by
 have h0 : ¬ (0 : Int) <= -(m : Int) - 1 := by omega
 have h0' : -(m : Int) - 1 < 0 := by omega
 have hn := fun wx => natural_any (m + 1) wx (by omega)
 have HN := Lib.hid hn; clear hn
 have e1 : IntKind.i64.wrap (-(m : Int) - 1 + 1) = -(m : Int) := by rw [show -(m : Int) - 1 + 1 = -(m : Int) from by omega]; exact IntWalk.i64_in _ (by omega)
 have e2 : IntKind.i64.wrap (m : Int) = m := IntWalk.i64_in _ (by omega)
 have e3 : IntKind.u64.wrap (m : Int) = m := IntWalk.u64_in _ (by omega)
 have e4 : IntKind.u64.wrap ((m : Int) + 1) = ((m + 1 : Nat) : Int) := by rw [show (m : Int) + 1 = ((m + 1 : Nat) : Int) from by omega]; exact IntWalk.u64_in _ (by omega)
 go_enter Tryz.func82, Tryz.ntmps82
 go_wp2_with fail
 refine (HN.out _).mono ?_
 rintro e w1 ⟨⟨a, c, rfl, hc, hc1, hc2⟩, hb1⟩
 have H1 : Hid (NatV w1 (.slice a (dig (m + 1)).length c) (m + 1)) := ⟨a, c, rfl, hc, hc1, hc2⟩
 clear hc
 have hbw : Below w.heap.size w w1 := ((Below.refl _ _).alloc (Nat.le_refl _) _).trans (hb1.mono (by simp))
 go_wp2_with fail
 refine (one_any _).mono ?_
 rintro e w2 ⟨⟨v1, rfl, h1⟩, hb2⟩
 have hbx := hb1.trans (hb2.mono hb1.size)
 have hbw2 : Below w.heap.size w w2 := hbw.trans (hb2.mono hbw.size)
 have H2 := Lib.hid (H1.out.below hb2 (Nat.le_refl _))
 have H3 := Lib.hid h1
 obtain ⟨a1, c1, hv1⟩ := h1.cases
 rw [dig_1] at hv1
 subst hv1
 clear h1
 have q0 : w2.cell? ⟨w.heap.size, 0, none⟩ = some (.bool false) := box_keep hbx (by simp) 0
 have q1 : w2.cell? ⟨w.heap.size, 1, none⟩ = some (.slice none 0 0) := box_keep hbx (by simp) 1
 have q2 : w2.cell? ⟨w.heap.size, 2, none⟩ = some (.slice none 0 0) := box_keep hbx (by simp) 2
 have f0 := box_free hbx (by simp) 0
 have f1 := box_free hbx (by simp) 1
 have f2 := box_free hbx (by simp) 2
 go_wp2
 refine bodyPost_ret (v := .agg #[.bool true, .slice a (dig (m + 1)).length c, .slice a1 1 c1]) (by simp [results, Tryz.results82, go_sem, q0, q1, q2]) rfl ?_
 exact ⟨⟨_, rfl, _, _, rfl, H2.out.box3 q0 q1 q2 trivial trivial trivial, H3.out.box3 q0 q1 q2 trivial trivial trivial⟩, ((hbw2.setCell (Nat.le_refl _) _).setCell (Nat.le_refl _) _).setCell (Nat.le_refl _) _⟩
theorem whole_any (n : Int) (w : World) (h : -9223372036854775808 <= n) (h2 : n <= 9223372036854775807) :
 Calls Tryz.prog 82 #[.int .i64 n] w fun e w' => (∃ v, e = .returned v /\ RatV w' v (decide (n < 0)) n.natAbs 1) /\ Below w.heap.size w w' := by
 rcases (show n < 0 ∨ 0 <= n from by omega) with hn | hn
 · obtain ⟨m, rfl⟩ : ∃ m : Nat, n = -(m : Int) - 1 := ⟨(-n - 1).toNat, by omega⟩
   have e1 : (-(m : Int) - 1).natAbs = m + 1 := by omega
   rw [decide_eq_true hn, e1]
   exact whole_neg m w (by omega)
 · obtain ⟨m, rfl⟩ : ∃ m : Nat, n = (m : Int) := ⟨n.toNat, by omega⟩
   rw [decide_eq_false (by omega), Int.natAbs_natCast]
   exact whole_pos m w (by omega)
def ofS (n d : Int) : Bool := (decide (n < 0) != decide (d < 0)) && decide (n.natAbs ≠ 0)
def ofN (n d : Int) : Nat := n.natAbs / Nat.gcd n.natAbs d.natAbs
def ofD (n d : Int) : Nat := d.natAbs / Nat.gcd n.natAbs d.natAbs
theorem ofD_pos {n d : Int} (h : d ≠ 0) : ofD n d ≠ 0 := by
 unfold ofD
 have h1 := Nat.gcd_dvd_right n.natAbs d.natAbs
 have h2 : 0 < d.natAbs := by omega
 have h3 : 0 < Nat.gcd n.natAbs d.natAbs := Nat.gcd_pos_of_pos_right _ h2
 have := Nat.div_pos (Nat.le_of_dvd h2 h1) h3
 omega
theorem digits_u64 {n : Nat} (h : n < 18446744073709551616) : Lib.nDigits n <= 20 := by
 exact nDigits_le 19 n (by omega)
theorem of_small (n d : Int) (h : -9223372036854775808 <= n) (h2 : n <= 9223372036854775807) (h3 : -9223372036854775808 <= d) (h4 : d <= 9223372036854775807) : bigQ (ofN n d) (ofD n d) = false := by
 have e1 : ofN n d <= n.natAbs := Nat.div_le_self _ _
 have e2 : ofD n d <= d.natAbs := Nat.div_le_self _ _
 have e3 := digits_u64 (show ofN n d < 18446744073709551616 by omega)
 have e4 := digits_u64 (show ofD n d < 18446744073709551616 by omega)
 unfold bigQ
 rw [Bool.or_eq_false_iff, decide_eq_false_iff_not, decide_eq_false_iff_not]
 omega
set_option maxRecDepth 100000 in
set_option maxHeartbeats 1000000 in
theorem of_any (n d : Int) (w : World) (ht : Tab w) (h : -9223372036854775808 <= n) (h2 : n <= 9223372036854775807) (h3 : -9223372036854775808 <= d) (h4 : d <= 9223372036854775807) (h0 : d ≠ 0) :
 Calls Tryz.prog 25 #[.int .i64 n, .int .i64 d] w fun e w' => e = .returned (.tuple #[.string (ratT (ofS n d) (ofN n d) (ofD n d)), .int .i64 0]) /\ Below w.heap.size w w' := by
 have hl1 : (dig n.natAbs).length <= 17592186044415 := Nat.le_trans (dig_len_u64 (by omega)) (by decide)
 have hl2 : (dig d.natAbs).length <= 17592186044415 := Nat.le_trans (dig_len_u64 (by omega)) (by decide)
 have hne : (d == 0) = false := by rw [beq_eq_false_iff_ne]; omega
 have hsm := of_small n d h h2 h3 h4
 have hpt : putT (ofS n d) (ofN n d) (ofD n d) = ratT (ofS n d) (ofN n d) (ofD n d) := by unfold putT; rw [hsm]; rfl
 have hpe : putE (ofN n d) (ofD n d) = 0 := by unfold putE; rw [hsm]; rfl
 have hn1 : (dig (ofN n d)).length <= 17592186044416 := Nat.le_trans (dig_len_mono (Nat.div_le_self _ _)) (by omega)
 have hd1 : (dig (ofD n d)).length <= 17592186044416 := Nat.le_trans (dig_len_mono (Nat.div_le_self _ _)) (by omega)
 have hd0 := ofD_pos (n := n) h0
 have hred := fun va vb wx ha hb => reduced_any (d.natAbs + 1) (overOK_all _) (decide (n < 0) != decide (d < 0)) va vb n.natAbs d.natAbs wx ha hb hl1 hl2 (by omega) (by omega)
 have hwn := fun wx => whole_any n wx h h2
 have hwd := fun wx => whole_any d wx h3 h4
 have HR := Lib.hid hred; have HWN := Lib.hid hwn; have HWD := Lib.hid hwd; have HT := Lib.hid ht; have HPT := Lib.hid hpt; have HPE := Lib.hid hpe
 clear hred hwn hwd ht hl1 hl2 hpt hpe hsm
 have hus : ((decide (n < 0) != decide (d < 0)) && decide (n.natAbs ≠ 0)) = ofS n d := rfl
 have hun : n.natAbs / Nat.gcd n.natAbs d.natAbs = ofN n d := rfl
 have hud : d.natAbs / Nat.gcd n.natAbs d.natAbs = ofD n d := rfl
 rw [hus, hun, hud] at HR
 clear hus hun hud
 generalize decide (n < 0) = sn at *
 generalize decide (d < 0) = sd at *
 go_enter Tryz.func25, Tryz.ntmps25
 go_wp2_with fail
 refine (HWN.out _).mono ?_
 rintro e w1 ⟨⟨v1, rfl, h1⟩, hb1⟩
 obtain ⟨v11, v12, rfl, h11, h12⟩ := h1
 go_wp2_with fail
 refine (HWD.out _).mono ?_
 rintro e w2 ⟨⟨v2, rfl, hv2⟩, hb2⟩
 obtain ⟨v21, v22, rfl, h21, h22⟩ := hv2
 have hbw : Below w.heap.size w w2 := hb1.trans (hb2.mono hb1.size)
 have H11 := Lib.hid (h11.below hb2 (Nat.le_refl _))
 have H21 := Lib.hid h21
 obtain ⟨a11, c11, rfl⟩ := h11.cases
 obtain ⟨a12, c12, rfl⟩ := h12.cases
 obtain ⟨a21, c21, rfl⟩ := h21.cases
 obtain ⟨a22, c22, rfl⟩ := h22.cases
 clear h11 h12 h21 h22
 go_wp2_with fail
 refine (HR.out _ _ _ (H11.out.below (((Below.refl w2.heap.size _).alloc (Nat.le_refl _) _).alloc (by simp) _) (Nat.le_refl _)) (H21.out.below (((Below.refl w2.heap.size _).alloc (Nat.le_refl _) _).alloc (by simp) _) (Nat.le_refl _))).mono ?_
 rintro e w3 ⟨⟨v3, rfl, h3'⟩, hb3⟩
 have hbw3 : Below w.heap.size w w3 := ((hbw.alloc hbw.size _).alloc (by have := hbw.size; simp; omega) _).trans (hb3.mono (by have := hbw.size; simp; omega))
 have H3 := Lib.hid h3'
 obtain ⟨v31, v32, rfl, h31, h32⟩ := h3'
 clear h31 h32
 go_wp2_with fail
 refine (plain_any _ _ _ _ _ H3.out).mono ?_
 rintro e w4 ⟨⟨v4, rfl, h4⟩, hb4⟩
 have hbw4 : Below w.heap.size w w4 := hbw3.trans (hb4.mono hbw3.size)
 have H4 := Lib.hid h4; clear h4
 go_wp2_with fail
 refine (put_any _ _ _ _ _ _ H4.out (HT.out.below hbw4 (Nat.le_refl _)) hn1 hd1 hd0).mono ?_
 rw [HPT.out, HPE.out]
 rintro e w5 ⟨rfl, hb5⟩
 go_wp2
 go_ret2
 exact ⟨rfl, hbw4.trans (hb5.mono hbw4.size)⟩
end Go.Proofs.YtdpjdifoonfcdaaGreatDoor

namespace Go.Proofs.YtdpjdifoonfcdaaGreatDoor
open Go.RowKit
theorem tone_any (w : World) :
 Calls Tryz.prog 34 #[] w fun e w' => e = .returned (.agg #[.int .i64 16, .int .i64 0]) /\ Below w.heap.size w w' := by
 go_enter Tryz.func34, Tryz.ntmps34
 go_wp2
 refine bodyPost_ret (v := .agg #[.int .i64 16, .int .i64 0]) ?_ rfl ⟨rfl, ?_⟩
 · exact results_cell_row rfl _ _ w.heap.size _ _ _ _ (by rfl) (heap_alloc_new _ _) Tryz.underlying23 rfl (by kernel_rfl)
 · exact (Below.refl _ _).alloc (by simp) _
theorem num_any (n d : Int) (w : World) (ht : Tab w) (h : -9223372036854775808 <= n) (h2 : n <= 9223372036854775807) (h3 : -9223372036854775808 <= d) (h4 : d <= 9223372036854775807) (h0 : d ≠ 0) :
 Calls Tryz.prog 90 #[.agg #[.int .i64 n, .int .i64 d]] w fun e w' => e = .returned (.tuple #[.string (ratT (ofS n d) (ofN n d) (ofD n d)), .int .i64 0]) /\ Below w.heap.size w w' := by
 have hb : Below w.heap.size w (w.alloc (.cells #[.int .i64 n, .int .i64 d] 185)) := (Below.refl _ _).alloc (Nat.le_refl _) _
 have ho := of_any n d (w.alloc (.cells #[.int .i64 n, .int .i64 d] 185)) (ht.below hb (Nat.le_refl _)) h h2 h3 h4 h0
 generalize ratT (ofS n d) (ofN n d) (ofD n d) = t at *
 have HO := Lib.hid ho; clear ho
 go_enter Tryz.func90, Tryz.ntmps90
 go_wp2_with (go_at_call 25; refine HO.out.mono ?_; rintro e w1 ⟨rfl, hb1⟩)
 go_ret2
 exact ⟨rfl, hb.trans (hb1.mono hb.size)⟩
end Go.Proofs.YtdpjdifoonfcdaaGreatDoor

namespace Go.Proofs.YtdpjdifoonfcdaaGreatDoor
open Go.RowKit
def matE (L p q r s : Int) : Int := if waveOK L p q && waveOK L r s then (if silentB (wav L p q) || silentB (wav L r s) then 4 else 0) else 70
theorem store_shape (V Z : Array Value) (hVs : V.size = 65) (hZs : Z.size = 65) (hV1 : ∀ v ∈ V.toList, v.oneCell' = true) (wx : World) :
 (storeCells ⟨wx.heap.size, 0, none⟩ V.toList 0).run Tryz.prog (wx.alloc (.cells Z 129)) = .ok () (wx.alloc (.cells V 129)) := by
 rw [run_storeCells_row _ _ 129 Z _ (heap_alloc_new _ _) (by rw [hZs, Array.length_toList, hVs]) hV1, Array.toArray_toList]
 congr 1
 exact World.setRow_alloc_new _ _ _ _
set_option maxRecDepth 100000 in
set_option maxHeartbeats 4000000 in
theorem match_bad (L p q r s : Int) (w : World) (h : (waveOK L p q && waveOK L r s) = false) :
 Calls Tryz.prog 36 #[.int .i64 L, .agg #[.int .i64 p, .int .i64 q], .agg #[.int .i64 r, .int .i64 s]] w fun e w' => e = .returned (.tuple #[.string ⟨#[]⟩, .int .i64 70]) /\ Below w.heap.size w w' := by
 obtain ⟨Z, hZ⟩ : ∃ Z, Z = shp 0 (smp 0 0 0) := ⟨_, rfl⟩
 have z : Tryz.zeroCells129 = Z := by rw [hZ]; exact zero101
 have hZs : Z.size = 65 := by rw [hZ, shp_size, smp_length]
 have hw1 := fun w => wave_any L p q w
 have hw2 := fun w => wave_any L r s w
 have hst1 := store_shape (waveV L p q) Z (waveV_size L p q) hZs (waveV_one L p q)
 have hst2 := store_shape (waveV L r s) Z (waveV_size L r s) hZs (waveV_one L r s)
 have hs1 := waveV_size L p q
 have hs2 := waveV_size L r s
 generalize waveV L p q = V at hw1 hst1 hs1
 generalize waveV L r s = V2 at hw2 hst2 hs2
 have hne : ¬ V = #[] := by intro h; rw [h] at hs1; simp at hs1
 have hne2 : ¬ V2 = #[] := by intro h; rw [h] at hs2; simp at hs2
 have HW1 := Lib.hid hw1; clear hw1
 have HW2 := Lib.hid hw2; clear hw2
 clear hZ
 have cB0 : ((w.alloc (.cells #[.int .i64 p, .int .i64 q] 23)).alloc (.cells #[.int .i64 r, .int .i64 s] 23)).cell? ⟨w.heap.size + 1, 0, none⟩ = some (.int .i64 r) := (cell_of_row _ _ 0 _ _ _ (heap_alloc2_new w _ _)).trans rfl
 have cB1 : ((w.alloc (.cells #[.int .i64 p, .int .i64 q] 23)).alloc (.cells #[.int .i64 r, .int .i64 s] 23)).cell? ⟨w.heap.size + 1, 1, none⟩ = some (.int .i64 s) := (cell_of_row _ _ 1 _ _ _ (heap_alloc2_new w _ _)).trans rfl
 generalize waveOK L p q = b1 at HW1 h
 generalize waveOK L r s = b2 at HW2 h
 cases b1
 · clear h
   go_enter Tryz.func36, Tryz.ntmps36
   go_wp2_with fail
   refine (HW1.out _).mono ?_
   rintro e w1 ⟨rfl, hb1⟩
   have kk0 := cell_keep (cell_keep cB0 hb1 (Nat.le_refl _)) ((Below.refl _ w1).alloc (Nat.le_refl _) (.cells V 129)) (Nat.le_refl _)
   have kk1 := cell_keep (cell_keep cB1 hb1 (Nat.le_refl _)) ((Below.refl _ w1).alloc (Nat.le_refl _) (.cells V 129)) (Nat.le_refl _)
   go_wp2_with fail
   refine (HW2.out _).mono ?_
   rintro e w2 ⟨rfl, hb2⟩
   go_wp2
   go_ret2
   have g1 : Below w.heap.size w w1 := (((Below.refl _ _).alloc (Nat.le_refl _) _).alloc (by simp) _).trans (hb1.mono (by simp; omega))
   have g2 : Below w.heap.size w w2 := (g1.alloc g1.size _).trans (hb2.mono (by have := g1.size; simp; omega))
   exact ⟨rfl, g2.alloc g2.size _⟩
 · cases b2
   · clear h
     go_enter Tryz.func36, Tryz.ntmps36
     go_wp2_with fail
     refine (HW1.out _).mono ?_
     rintro e w1 ⟨rfl, hb1⟩
     have kk0 := cell_keep (cell_keep cB0 hb1 (Nat.le_refl _)) ((Below.refl _ w1).alloc (Nat.le_refl _) (.cells V 129)) (Nat.le_refl _)
     have kk1 := cell_keep (cell_keep cB1 hb1 (Nat.le_refl _)) ((Below.refl _ w1).alloc (Nat.le_refl _) (.cells V 129)) (Nat.le_refl _)
     go_wp2_with fail
     refine (HW2.out _).mono ?_
     rintro e w2 ⟨rfl, hb2⟩
     go_wp2
     go_ret2
     have g1 : Below w.heap.size w w1 := (((Below.refl _ _).alloc (Nat.le_refl _) _).alloc (by simp) _).trans (hb1.mono (by simp; omega))
     have g2 : Below w.heap.size w w2 := (g1.alloc g1.size _).trans (hb2.mono (by have := g1.size; simp; omega))
     exact ⟨rfl, g2.alloc g2.size _⟩
   · simp at h
end Go.Proofs.YtdpjdifoonfcdaaGreatDoor

namespace Go.Proofs.YtdpjdifoonfcdaaGreatDoor
open Go.RowKit
set_option maxRecDepth 100000 in
set_option maxHeartbeats 4000000 in
theorem match_silent (L p q r s : Int) (w : World) (h1 : waveOK L p q = true) (h2 : waveOK L r s = true) (h : (silentB (wav L p q) || silentB (wav L r s)) = true) :
 Calls Tryz.prog 36 #[.int .i64 L, .agg #[.int .i64 p, .int .i64 q], .agg #[.int .i64 r, .int .i64 s]] w fun e w' => e = .returned (.tuple #[.string ⟨#[]⟩, .int .i64 4]) /\ Below w.heap.size w w' := by
 obtain ⟨Z, hZ⟩ : ∃ Z, Z = shp 0 (smp 0 0 0) := ⟨_, rfl⟩
 have z : Tryz.zeroCells129 = Z := by rw [hZ]; exact zero101
 have hZs : Z.size = 65 := by rw [hZ, shp_size, smp_length]
 have hw1 := fun w => wave_any L p q w
 have hw2 := fun w => wave_any L r s w
 have hst1 := store_shape (waveV L p q) Z (waveV_size L p q) hZs (waveV_one L p q)
 have hst2 := store_shape (waveV L r s) Z (waveV_size L r s) hZs (waveV_one L r s)
 have hs1 := waveV_size L p q
 have hs2 := waveV_size L r s
 have hsi1 := fun w => silent_any L (wav L p q) w (wav_length _ _ _)
 have hsi2 := fun w => silent_any L (wav L r s) w (wav_length _ _ _)
 rw [show shp L (wav L p q) = waveV L p q by simp [waveV, h1]] at hsi1
 rw [show shp L (wav L r s) = waveV L r s by simp [waveV, h2]] at hsi2
 rw [h1] at hw1
 rw [h2] at hw2
 generalize waveV L p q = V at hw1 hst1 hs1 hsi1
 generalize waveV L r s = V2 at hw2 hst2 hs2 hsi2
 have hi : (Tryz.prog.info? 129).map (·.size) = some V.size := by rw [hs1]; kernel_rfl
 have hi2 : (Tryz.prog.info? 129).map (·.size) = some V2.size := by rw [hs2]; kernel_rfl
 have hne : ¬ V = #[] := by intro h; rw [h] at hs1; simp at hs1
 have hne2 : ¬ V2 = #[] := by intro h; rw [h] at hs2; simp at hs2
 have HI := Lib.hid hi; have HI2 := Lib.hid hi2; clear hi hi2
 have HW1 := Lib.hid hw1; clear hw1
 have HW2 := Lib.hid hw2; clear hw2
 have HS1 := Lib.hid hsi1; clear hsi1
 have HS2 := Lib.hid hsi2; clear hsi2
 clear hZ h1 h2
 have cB0 : ((w.alloc (.cells #[.int .i64 p, .int .i64 q] 23)).alloc (.cells #[.int .i64 r, .int .i64 s] 23)).cell? ⟨w.heap.size + 1, 0, none⟩ = some (.int .i64 r) := (cell_of_row _ _ 0 _ _ _ (heap_alloc2_new w _ _)).trans rfl
 have cB1 : ((w.alloc (.cells #[.int .i64 p, .int .i64 q] 23)).alloc (.cells #[.int .i64 r, .int .i64 s] 23)).cell? ⟨w.heap.size + 1, 1, none⟩ = some (.int .i64 s) := (cell_of_row _ _ 1 _ _ _ (heap_alloc2_new w _ _)).trans rfl
 generalize silentB (wav L p q) = b1 at HS1 h
 generalize silentB (wav L r s) = b2 at HS2 h
 have go : ∀ c1 c2 : Bool, (c1 || c2) = true -> b1 = c1 -> b2 = c2 -> Calls Tryz.prog 36 #[.int .i64 L, .agg #[.int .i64 p, .int .i64 q], .agg #[.int .i64 r, .int .i64 s]] w fun e w' => e = .returned (.tuple #[.string ⟨#[]⟩, .int .i64 4]) /\ Below w.heap.size w w' := by
  intro c1 c2 hc e1 e2
  subst e1; subst e2
  cases b1
  · cases b2
    · simp at hc
    clear h hc
    go_enter Tryz.func36, Tryz.ntmps36
    go_wp2_with fail
    refine (HW1.out _).mono ?_
    rintro e w1 ⟨rfl, hb1⟩
    have kk0 := cell_keep (cell_keep cB0 hb1 (Nat.le_refl _)) ((Below.refl _ w1).alloc (Nat.le_refl _) (.cells V 129)) (Nat.le_refl _)
    have kk1 := cell_keep (cell_keep cB1 hb1 (Nat.le_refl _)) ((Below.refl _ w1).alloc (Nat.le_refl _) (.cells V 129)) (Nat.le_refl _)
    have g1 : Below w.heap.size w w1 := (((Below.refl _ _).alloc (Nat.le_refl _) _).alloc (by simp) _).trans (hb1.mono (by simp; omega))
    go_wp2_with fail
    refine (HW2.out _).mono ?_
    rintro e w2 ⟨rfl, hb2⟩
    have g2 : Below w.heap.size w w2 := (g1.alloc g1.size _).trans (hb2.mono (by have := g1.size; simp; omega))
    have r1 : w2.heap[w1.heap.size]? = some (.cells V 129 (0, 0)) := (hb2.block _ (by simp)).trans (heap_alloc_new _ _)
    have hs12 : w1.heap.size < w2.heap.size := by have := hb2.size; simp at this; omega
    go_wp2_with (first
     | (refine wpList_load_row (by rfl) 129 _ (by rfl) w1.heap.size (by rfl) _ V _ _ ((hold_old w2 _ _ hs12).trans r1) Tryz.underlying129 (by rfl) HI.out ?_)
     | (go_at_call 64; refine (HS1.out _).mono ?_; rintro e w3 ⟨rfl, hb3⟩; have r2 : w3.heap[w2.heap.size]? = some (.cells V2 129 (0, 0)) := (hb3.block _ (by simp)).trans (heap_alloc_new _ _))
     | (refine wpList_step (fun K hK => ?_); rw [if_pos (by rfl)]; refine wp_load_row 129 _ (by rfl) w2.heap.size (by rfl) 129 V2 (0, 0) _ r2 Tryz.underlying129 (by rfl) HI2.out ?_; refine hK _ _ ?_; clear hK K; simp only [Act.put, List.setIfInBounds_toArray, List.set_cons_zero, List.set_cons_succ])
     | (go_at_call 64; refine (HS2.out _).mono ?_; rintro e w4 ⟨rfl, hb4⟩))
    have g3 : Below w.heap.size w (w2.alloc (.cells V2 129)) := g2.alloc g2.size _
    have g4 : Below w.heap.size w w3 := g3.trans (hb3.mono g3.size)
    have g5 : Below w.heap.size w w4 := g4.trans (hb4.mono g4.size)
    go_ret2
    exact ⟨rfl, g5⟩
  · clear h hc
    go_enter Tryz.func36, Tryz.ntmps36
    go_wp2_with fail
    refine (HW1.out _).mono ?_
    rintro e w1 ⟨rfl, hb1⟩
    have kk0 := cell_keep (cell_keep cB0 hb1 (Nat.le_refl _)) ((Below.refl _ w1).alloc (Nat.le_refl _) (.cells V 129)) (Nat.le_refl _)
    have kk1 := cell_keep (cell_keep cB1 hb1 (Nat.le_refl _)) ((Below.refl _ w1).alloc (Nat.le_refl _) (.cells V 129)) (Nat.le_refl _)
    have g1 : Below w.heap.size w w1 := (((Below.refl _ _).alloc (Nat.le_refl _) _).alloc (by simp) _).trans (hb1.mono (by simp; omega))
    go_wp2_with fail
    refine (HW2.out _).mono ?_
    rintro e w2 ⟨rfl, hb2⟩
    have g2 : Below w.heap.size w w2 := (g1.alloc g1.size _).trans (hb2.mono (by have := g1.size; simp; omega))
    have r1 : w2.heap[w1.heap.size]? = some (.cells V 129 (0, 0)) := (hb2.block _ (by simp)).trans (heap_alloc_new _ _)
    have hs12 : w1.heap.size < w2.heap.size := by have := hb2.size; simp at this; omega
    go_wp2_with (first
     | (refine wpList_load_row (by rfl) 129 _ (by rfl) w1.heap.size (by rfl) _ V _ _ ((hold_old w2 _ _ hs12).trans r1) Tryz.underlying129 (by rfl) HI.out ?_)
     | (go_at_call 64; refine (HS1.out _).mono ?_; rintro e w3 ⟨rfl, hb3⟩; have r2 : w3.heap[w2.heap.size]? = some (.cells V2 129 (0, 0)) := (hb3.block _ (by simp)).trans (heap_alloc_new _ _))
     | (refine wpList_step (fun K hK => ?_); rw [if_pos (by rfl)]; refine wp_load_row 129 _ (by rfl) w2.heap.size (by rfl) 129 V2 (0, 0) _ r2 Tryz.underlying129 (by rfl) HI2.out ?_; refine hK _ _ ?_; clear hK K; simp only [Act.put, List.setIfInBounds_toArray, List.set_cons_zero, List.set_cons_succ])
     | (go_at_call 64; refine (HS2.out _).mono ?_; rintro e w4 ⟨rfl, hb4⟩))
    have g3 : Below w.heap.size w (w2.alloc (.cells V2 129)) := g2.alloc g2.size _
    have g4 : Below w.heap.size w w3 := g3.trans (hb3.mono g3.size)
    go_ret2
    exact ⟨rfl, g4⟩
 exact go b1 b2 h rfl rfl
end Go.Proofs.YtdpjdifoonfcdaaGreatDoor

namespace Go.Proofs.YtdpjdifoonfcdaaGreatDoor
open Go.RowKit
theorem mul_self_nn (x : Int) : 0 <= x * x := by
 rcases Int.le_total 0 x with h | h
 · exact Int.mul_nonneg h h
 · have := Int.mul_nonneg (show 0 <= -x by omega) (show 0 <= -x by omega)
   rwa [Int.neg_mul_neg] at this
theorem ovTo_sq_nn (xs : List Int) (a : Int) (n : Nat) : 0 <= ovTo xs xs 0 a n := by
 induction n with
 | zero => simp [ovTo]
 | succ n ih =>
   simp only [ovTo, Int.add_zero]
   have := mul_self_nn (xs.getD (a + n).toNat 0)
   omega
theorem ovTo_sq_zero (xs : List Int) (n : Nat) (h : ovTo xs xs 0 0 n = 0) : ∀ k, k < n -> xs.getD k 0 = 0 := by
 induction n with
 | zero => intro k hk; omega
 | succ n ih =>
   intro k hk
   have h1 := ovTo_sq_nn xs 0 n
   simp only [ovTo, Int.add_zero, Int.zero_add, Int.toNat_natCast] at h
   have h2 := mul_self_nn (xs.getD n 0)
   by_cases e : k = n
   · subst e
     have h3 : xs.getD k 0 * xs.getD k 0 = 0 := by omega
     rcases Int.mul_eq_zero.1 h3 with h | h <;> exact h
   · exact ih (by omega) k (by omega)
theorem ovl_self (xs : List Int) (L : Int) : ovl xs xs L 0 = ovTo xs xs 0 0 L.toNat := by
 simp only [ovl]
 rw [show max 0 (-(0 : Int)) = 0 by omega, show min L (L - 0) = L by omega, show L - 0 = L by omega]
theorem norm_nn (xs : List Int) (L : Int) : 0 <= ovl xs xs L 0 := by rw [ovl_self]; exact ovTo_sq_nn xs 0 _
theorem norm_pos {L p q : Int} (h : silentB (wav L p q) = false) : 1 <= ovl (wav L p q) (wav L p q) L 0 := by
 have h0 := norm_nn (wav L p q) L
 by_cases e : ovl (wav L p q) (wav L p q) L 0 = 0
 · exfalso
   rw [ovl_self] at e
   have hz := ovTo_sq_zero _ _ e
   have : wav L p q = smp 0 0 0 := by
    apply List.ext_getElem
    · rw [wav_length, smp_length]
    · intro k h1 h2
      have hk : k < 64 := by rwa [smp_length] at h2
      have e1 := smp_at p.toNat q.toNat L.toNat k hk
      have e2 := smp_at 0 0 0 k hk
      rw [List.getElem?_eq_getElem h2] at e2
      have e2 := Option.some.inj e2
      rw [if_neg (by omega)] at e2
      rw [e2]
      by_cases hL : k < L.toNat
      · have := hz k hL
        rwa [List.getD_eq_getElem?_getD, List.getElem?_eq_getElem h1] at this
      · rw [if_neg hL] at e1
        have e1' : (wav L p q)[k]? = some 0 := e1
        rw [List.getElem?_eq_getElem h1] at e1'
        exact Option.some.inj e1'
   rw [silentB, this] at h
   simp at h
 · omega
end Go.Proofs.YtdpjdifoonfcdaaGreatDoor

namespace Go.Proofs.YtdpjdifoonfcdaaGreatDoor
open Go.RowKit
def matN (L p q r s : Int) : Int := bestN (wav L p q) (wav L r s) L.toNat
def matD (L p q r s : Int) : Int := ovl (wav L p q) (wav L p q) L 0 * ovl (wav L r s) (wav L r s) L 0
def matR (n d : Int) : ByteArray := ratT (ofS (n * n) d) (ofN (n * n) d) (ofD (n * n) d)
theorem mat_bd {L p q r s : Int} (h1 : waveOK L p q = true) : 0 <= matN L p q r s /\ matN L p q r s <= 1032256 := by
 have hL := waveOK_true h1
 have bd := ovl_bd (wav_bd L p q) (wav_bd L r s) L.toNat (bstV (ovl (wav L p q) (wav L r s) L.toNat) (shl L.toNat (2 * L.toNat - 1))) (by omega)
 unfold matN bestN
 omega
theorem matD_pos {L p q r s : Int} (h1 : waveOK L p q = true) (_ : waveOK L r s = true) (h3 : silentB (wav L p q) = false) (h4 : silentB (wav L r s) = false) : 1 <= matD L p q r s /\ matD L p q r s <= 1065552449536 := by
 have hL := waveOK_true h1
 have n1 := norm_pos h3
 have n2 := norm_pos h4
 have b1 := ovl_bd (wav_bd L p q) (wav_bd L p q) L 0 (by omega)
 have b2 := ovl_bd (wav_bd L r s) (wav_bd L r s) L 0 (by omega)
 unfold matD
 generalize ovl (wav L p q) (wav L p q) L 0 = a at *
 generalize ovl (wav L r s) (wav L r s) L 0 = b at *
 have m1 := Int.mul_le_mul n1 n2 (by omega) (by omega)
 have m2 := Int.mul_le_mul (show a <= 1032256 by omega) (show b <= 1032256 by omega) (by omega) (by omega)
 omega
set_option maxRecDepth 100000 in
set_option maxHeartbeats 4000000 in
theorem match_ok (L p q r s : Int) (w : World) (ht : Tab w) (h1 : waveOK L p q = true) (h2 : waveOK L r s = true) (h3 : silentB (wav L p q) = false) (h4 : silentB (wav L r s) = false) :
 Calls Tryz.prog 36 #[.int .i64 L, .agg #[.int .i64 p, .int .i64 q], .agg #[.int .i64 r, .int .i64 s]] w fun e w' => e = .returned (.tuple #[.string (matR (matN L p q r s) (matD L p q r s)), .int .i64 0]) /\ Below w.heap.size w w' := by
 obtain ⟨Z, hZ⟩ : ∃ Z, Z = shp 0 (smp 0 0 0) := ⟨_, rfl⟩
 have z : Tryz.zeroCells129 = Z := by rw [hZ]; exact zero101
 have hZs : Z.size = 65 := by rw [hZ, shp_size, smp_length]
 have hw1 := fun w => wave_any L p q w
 have hw2 := fun w => wave_any L r s w
 have hst1 := store_shape (waveV L p q) Z (waveV_size L p q) hZs (waveV_one L p q)
 have hst2 := store_shape (waveV L r s) Z (waveV_size L r s) hZs (waveV_one L r s)
 have hs1 := waveV_size L p q
 have hs2 := waveV_size L r s
 have hsi1 := fun w => silent_any L (wav L p q) w (wav_length _ _ _)
 have hsi2 := fun w => silent_any L (wav L r s) w (wav_length _ _ _)
 have hL := waveOK_true h1
 have hmt := fun w => matched_any L.toNat (wav L p q) (wav L r s) w (wav_length _ _ _) (wav_length _ _ _) (by omega) (by omega) (wav_bd _ _ _) (wav_bd _ _ _)
 rw [show ((L.toNat : Nat) : Int) = L by omega] at hmt
 have hd := matD_pos h1 h2 h3 h4
 have hn := mat_bd (r := r) (s := s) h1
 have hmd : ovl (wav L p q) (wav L p q) L 0 * ovl (wav L r s) (wav L r s) L 0 = matD L p q r s := rfl
 have hmn : bestN (wav L p q) (wav L r s) L.toNat = matN L p q r s := rfl
 rw [hmd, hmn] at hmt
 generalize matD L p q r s = D at *
 generalize matN L p q r s = N at *
 have hnn : 0 <= N * N /\ N * N <= 1065552449536 := by
  have m1 := Int.mul_le_mul hn.2 hn.2 hn.1 (by omega)
  have m2 := Int.mul_nonneg hn.1 hn.1
  omega
 have hnum := fun w ht => num_any (N * N) D w ht (by omega) (by omega) (by omega) (by omega) (by omega)
 have hR : ratT (ofS (N * N) D) (ofN (N * N) D) (ofD (N * N) D) = matR N D := rfl
 rw [hR] at hnum
 rw [show shp L (wav L p q) = waveV L p q by simp [waveV, h1]] at hsi1 hmt
 rw [show shp L (wav L r s) = waveV L r s by simp [waveV, h2]] at hsi2 hmt
 rw [h1] at hw1
 rw [h2] at hw2
 rw [h3] at hsi1
 rw [h4] at hsi2
 generalize waveV L p q = V at hw1 hst1 hs1 hsi1 hmt
 generalize waveV L r s = V2 at hw2 hst2 hs2 hsi2 hmt
 generalize matR N D = R at *
 generalize N * N = NN at *
 have hi : (Tryz.prog.info? 129).map (·.size) = some V.size := by rw [hs1]; kernel_rfl
 have hi2 : (Tryz.prog.info? 129).map (·.size) = some V2.size := by rw [hs2]; kernel_rfl
 have hne : ¬ V = #[] := by intro h; rw [h] at hs1; simp at hs1
 have hne2 : ¬ V2 = #[] := by intro h; rw [h] at hs2; simp at hs2
 have HI := Lib.hid hi; have HI2 := Lib.hid hi2; clear hi hi2
 have HW1 := Lib.hid hw1; clear hw1
 have HW2 := Lib.hid hw2; clear hw2
 have HS1 := Lib.hid hsi1; clear hsi1
 have HS2 := Lib.hid hsi2; clear hsi2
 have HMT := Lib.hid hmt; clear hmt
 have HNUM := Lib.hid hnum; clear hnum
 have HT := Lib.hid ht; clear ht
 clear hZ h1 h2 h3 h4 hmd hmn hR hn hd hnn hL
 have cB0 : ((w.alloc (.cells #[.int .i64 p, .int .i64 q] 23)).alloc (.cells #[.int .i64 r, .int .i64 s] 23)).cell? ⟨w.heap.size + 1, 0, none⟩ = some (.int .i64 r) := (cell_of_row _ _ 0 _ _ _ (heap_alloc2_new w _ _)).trans rfl
 have cB1 : ((w.alloc (.cells #[.int .i64 p, .int .i64 q] 23)).alloc (.cells #[.int .i64 r, .int .i64 s] 23)).cell? ⟨w.heap.size + 1, 1, none⟩ = some (.int .i64 s) := (cell_of_row _ _ 1 _ _ _ (heap_alloc2_new w _ _)).trans rfl
 go_enter Tryz.func36, Tryz.ntmps36
 go_wp2_with fail
 refine (HW1.out _).mono ?_
 rintro e w1 ⟨rfl, hb1⟩
 have kk0 := cell_keep (cell_keep cB0 hb1 (Nat.le_refl _)) ((Below.refl _ w1).alloc (Nat.le_refl _) (.cells V 129)) (Nat.le_refl _)
 have kk1 := cell_keep (cell_keep cB1 hb1 (Nat.le_refl _)) ((Below.refl _ w1).alloc (Nat.le_refl _) (.cells V 129)) (Nat.le_refl _)
 have g1 : Below w.heap.size w w1 := (((Below.refl _ _).alloc (Nat.le_refl _) _).alloc (by simp) _).trans (hb1.mono (by simp; omega))
 go_wp2_with fail
 refine (HW2.out _).mono ?_
 rintro e w2 ⟨rfl, hb2⟩
 have g2 : Below w.heap.size w w2 := (g1.alloc g1.size _).trans (hb2.mono (by have := g1.size; simp; omega))
 have r1 : w2.heap[w1.heap.size]? = some (.cells V 129 (0, 0)) := (hb2.block _ (by simp)).trans (heap_alloc_new _ _)
 have hs12 : w1.heap.size < w2.heap.size := by have := hb2.size; simp at this; omega
 go_wp2_with (first
  | (refine wpList_load_row (by rfl) 129 _ (by rfl) w1.heap.size (by rfl) _ V _ _ ((hold_old w2 _ _ hs12).trans r1) Tryz.underlying129 (by rfl) HI.out ?_)
  | (go_at_call 64; refine (HS1.out _).mono ?_; rintro e w3 ⟨rfl, hb3⟩; have r2 : w3.heap[w2.heap.size]? = some (.cells V2 129 (0, 0)) := (hb3.block _ (by simp)).trans (heap_alloc_new _ _))
  | (refine wpList_step (fun K hK => ?_); rw [if_pos (by rfl)]; refine wp_load_row 129 _ (by rfl) w2.heap.size (by rfl) 129 V2 (0, 0) _ r2 Tryz.underlying129 (by rfl) HI2.out ?_; refine hK _ _ ?_; clear hK K; simp only [Act.put, List.setIfInBounds_toArray, List.set_cons_zero, List.set_cons_succ])
  | (go_at_call 64; refine (HS2.out _).mono ?_; rintro e w4 ⟨rfl, hb4⟩; refine Hid.out ?_))
 have g3 : Below w.heap.size w (w2.alloc (.cells V2 129)) := g2.alloc g2.size _
 have g4 : Below w.heap.size w w3 := g3.trans (hb3.mono g3.size)
 have g5 : Below w.heap.size w w4 := g4.trans (hb4.mono g4.size)
 have hs3 := hb3.size
 have r1a : w4.heap[w1.heap.size]? = some (.cells V 129 (0, 0)) := ((hb4.block _ (by simp at hs3; omega)).trans (hb3.block _ (by simp; omega))).trans ((hold_old w2 _ _ hs12).trans r1)
 have r2a : w4.heap[w2.heap.size]? = some (.cells V2 129 (0, 0)) := (hb4.block _ (by simp at hs3; omega)).trans r2
 clear hs3
 refine Lib.hid ?_
 go_wp2_with (first
  | (refine wpList_load_row (by rfl) 129 _ (by rfl) w1.heap.size (by rfl) _ V _ _ r1a Tryz.underlying129 (by rfl) HI.out ?_)
  | (refine wpList_load_row (by rfl) 129 _ (by rfl) w2.heap.size (by rfl) _ V2 _ _ r2a Tryz.underlying129 (by rfl) HI2.out ?_)
  | (go_at_call 89; refine (HMT.out _).mono ?_; rintro e w5 ⟨rfl, hb5⟩; have g6 : Below w.heap.size w w5 := g5.trans (hb5.mono g5.size))
  | (go_at_call 90; refine (HNUM.out _ (HT.out.below g6 (Nat.le_refl _))).mono ?_; rintro e w6 ⟨rfl, hb6⟩))
 go_ret2
 exact ⟨rfl, g6.trans (hb6.mono g6.size)⟩
def matT (L p q r s : Int) : ByteArray := if matE L p q r s = 0 then matR (matN L p q r s) (matD L p q r s) else ⟨#[]⟩
theorem match_any (L p q r s : Int) (w : World) (ht : Tab w) :
 Calls Tryz.prog 36 #[.int .i64 L, .agg #[.int .i64 p, .int .i64 q], .agg #[.int .i64 r, .int .i64 s]] w fun e w' => e = .returned (.tuple #[.string (matT L p q r s), .int .i64 (matE L p q r s)]) /\ Below w.heap.size w w' := by
 by_cases h : (waveOK L p q && waveOK L r s) = true
 · have h' := Bool.and_eq_true_iff.1 h
   by_cases h2 : (silentB (wav L p q) || silentB (wav L r s)) = true
   · have he : matE L p q r s = 4 := by simp only [matE, h, h2, if_true]
     have ht : matT L p q r s = ⟨#[]⟩ := by unfold matT; rw [he]; rfl
     rw [he, ht]
     exact match_silent L p q r s w h'.1 h'.2 h2
   · have h2 : (silentB (wav L p q) || silentB (wav L r s)) = false := by simpa using h2
     have he : matE L p q r s = 0 := by simp only [matE, h, h2, if_true]; rfl
     have hm : matT L p q r s = matR (matN L p q r s) (matD L p q r s) := by unfold matT; rw [he]; rfl
     rw [he, hm]
     have h3 := Bool.or_eq_false_iff.1 h2
     exact match_ok L p q r s w ht h'.1 h'.2 h3.1 h3.2
 · have h : (waveOK L p q && waveOK L r s) = false := by simpa using h
   have he : matE L p q r s = 70 := by simp only [matE, h]; rfl
   have ht : matT L p q r s = ⟨#[]⟩ := by unfold matT; rw [he]; rfl
   rw [he, ht]
   exact match_bad L p q r s w h
end Go.Proofs.YtdpjdifoonfcdaaGreatDoor
