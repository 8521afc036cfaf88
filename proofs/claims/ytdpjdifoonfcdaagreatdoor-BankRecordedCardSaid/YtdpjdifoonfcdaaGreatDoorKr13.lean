/- Parts of a proof, in build order: Zb, Zf, Zg, P1, JG, JA, JB, Sort, JD, JH. -/
import Derived.Test.YtdpjdifoonfcdaaGreatDoorKr8
import Derived.Test.YtdpjdifoonfcdaaGreatDoorKr11
import Derived.Test.YtdpjdifoonfcdaaGreatDoorKr12
import Derived.Shelf.SlSortCmp.WholeK
import Derived.Test.YtdpjdifoonfcdaaGreatDoorProg

namespace Go.Proofs.YtdpjdifoonfcdaaGreatDoor.Z4
open Go.RowKit
theorem val_drop {l : List Nat} {i x : Nat} (hx : l[i]? = some x) : val (l.drop i) = x + B * val (l.drop (i + 1)) := by
 have hi : i < l.length := (List.getElem?_eq_some_iff.1 hx).1
 rw [List.drop_eq_getElem_cons hi, val_cons]
 rw [List.getElem?_eq_getElem hi] at hx
 cases hx
 rfl
theorem top_pos {n t : Nat} (h : (dig n)[(dig n).length - 1]? = some t) : 0 < t := by
 have h1 := last_dig n
 rw [List.getLast?_eq_getElem?, h] at h1
 rcases Nat.eq_zero_or_pos t with h2 | h2
 · subst h2; exact absurd rfl h1
 · exact h2
theorem drop_pos {l : List Nat} {t : Nat} (h : l[l.length - 1]? = some t) (ht : 0 < t) (i : Nat) (hi : i < l.length) : 0 < val (l.drop i) := by
 rcases Nat.eq_zero_or_pos (val (l.drop i)) with h0 | h0
 · exfalso
   have h1 := val_eq_zero.1 h0 t (List.mem_iff_getElem?.2 ⟨l.length - 1 - i, by rw [List.getElem?_drop, show i + (l.length - 1 - i) = l.length - 1 from by omega]; exact h⟩)
   omega
 · exact h0
theorem val_top {l : List Nat} {t : Nat} (h : l[l.length - 1]? = some t) : val (l.drop (l.length - 1)) = t := by
 have hi := (List.getElem?_eq_some_iff.1 h).1
 rw [val_drop h, List.drop_of_length_le (by omega)]
 simp [val]
theorem B_pow (k : Nat) : B ^ k = 10 ^ (4 * k) := by
 rw [Nat.pow_mul]; rfl
theorem size_dig_eq {n t : Nat} (h : (dig n)[(dig n).length - 1]? = some t) : Lib.nDigits n = 4 * ((dig n).length - 1) + Lib.nDigits t := by
 have ht := top_pos h
 have h1 := val_split h
 have hi := (List.getElem?_eq_some_iff.1 h).1
 rw [val_dig, List.drop_of_length_le (by omega)] at h1
 simp only [val, Nat.mul_zero, Nat.add_zero] at h1
 have h2 : val ((dig n).take ((dig n).length - 1)) < B ^ ((dig n).length - 1) := by
  have h3 := val_lt (xs := (dig n).take ((dig n).length - 1)) (fun d hd => sm_dig n d (List.mem_of_mem_take hd))
  rwa [List.length_take, Nat.min_eq_left (by omega)] at h3
 rw [B_pow] at h1 h2
 generalize 4 * ((dig n).length - 1) = k at *
 generalize val ((dig n).take ((dig n).length - 1)) = lo at *
 rw [h1, Nat.add_comm lo, Nat.mul_comm, nDigits_shift k t lo ht h2]
 omega
theorem dec_digit {h x : Nat} (hh : 0 < h) (hx : x < B) : Lib.decDigits (x + B * h) = Lib.decDigits h ++ padD 4 x /\ Lib.decDigits (10000 + x) = 49 :: padD 4 x := by
 have hx' : x < 10 ^ 4 := hx
 refine ⟨?_, ?_⟩
 · rw [<- dec_shift 4 h x hh hx', show x + B * h = h * 10 ^ 4 + x from by simp only [B]; omega]
 · have := dec_shift 4 1 x (by omega) hx'
   rw [Nat.one_mul] at this
   rw [show (10000 : Nat) + x = 10 ^ 4 + x from rfl, this, Lib.decDigits_one (by decide)]
   rfl
end Go.Proofs.YtdpjdifoonfcdaaGreatDoor.Z4

namespace Go.Proofs.YtdpjdifoonfcdaaGreatDoor.Z4
open Go.RowKit
def CR (w : World) (v : Value) (s : Bool) (n d : Nat) : Prop := ∃ vn vd v0 v1, v = .agg #[.bool s, vn, .bool false, vd, .bool false, v0, .bool false, v1] /\ MV w vn n /\ MV w vd d /\ MV w v0 0 /\ MV w v1 1
theorem MV.set {w : World} {v : Value} {n : Nat} {p : Addr} {v0 u : Value} (h : MV w v n) (hp : w.cell? p = some v0) (hn : NoNum v0) : MV (w.setCell p u) v n := by
 obtain ⟨a, c, h1, h2, h3⟩ := h
 refine ⟨a, c, h1, h2.set hp ?_, h3⟩
 intro x hx e
 simp only [zs, List.mem_map] at hx
 obtain ⟨d, _, rfl⟩ := hx
 subst e; exact hn
end Go.Proofs.YtdpjdifoonfcdaaGreatDoor.Z4

namespace Go.Proofs.YtdpjdifoonfcdaaGreatDoor.Z4
open Go.RowKit
theorem CR.below {w w' : World} {B : Nat} {v : Value} {s : Bool} {n d : Nat} (h : CR w v s n d) (hb : Below B w w') (hB : w.heap.size <= B) : CR w' v s n d := by
 obtain ⟨a, b, c, e, rfl, h1, h2, h3, h4⟩ := h
 exact ⟨a, b, c, e, rfl, h1.below hb hB, h2.below hb hB, h3.below hb hB, h4.below hb hB⟩
end Go.Proofs.YtdpjdifoonfcdaaGreatDoor.Z4

namespace Go.Proofs.YtdpjdifoonfcdaaGreatDoor
open Go.RowKit
def abS (us : List Int) : Nat -> Int
 | 0 => 0
 | n + 1 => abS us n + ((us.getD n 0).natAbs : Int)
theorem abS_bd {us : List Int} (h1 : ∀ x ∈ us, -127 <= x /\ x <= 127) (n : Nat) : 0 <= abS us n /\ abS us n <= 127 * (n : Int) := by
 induction n with
 | zero => simp [abS]
 | succ n ih =>
   have g1 := getD_in (by omega) h1 n
   simp only [abS]; omega
def enoB (us : List Int) (L : Nat) (a ns bd : Int) : Bool := decide (0 < a * sqTo us 0 L - ns * abS us L) && decide (bd <= (a * sqTo us 0 L - ns * abS us L) * (a * sqTo us 0 L - ns * abS us L))
end Go.Proofs.YtdpjdifoonfcdaaGreatDoor

namespace Go.Proofs.YtdpjdifoonfcdaaGreatDoor
open Go.RowKit
theorem mul_abs_ge {x c B : Int} (h1 : -B <= c) (h2 : c <= B) : -(B * (x.natAbs : Int)) <= x * c := by
 rcases Int.le_total 0 x with h | h
 · have e : (x.natAbs : Int) = x := by omega
   have h3 : 0 <= x * (c + B) := Int.mul_nonneg h (by omega)
   rw [Int.mul_add] at h3
   rw [e, Int.mul_comm B x]
   omega
 · have e : (x.natAbs : Int) = -x := by omega
   have h3 : 0 <= (-x) * (B - c) := Int.mul_nonneg (by omega) (by omega)
   rw [Int.neg_mul, Int.mul_sub] at h3
   rw [e, Int.mul_neg, Int.neg_neg, Int.mul_comm B x]
   omega
theorem dot_ge {xs ds : List Int} {t L : Nat} {A B : Int} (c : Nat -> Int) (hc : ∀ i, i < L -> -B <= c i /\ c i <= B) (hd : ∀ i, i < L -> ds.getD (t + i) 0 = c i + A * xs.getD i 0) : ∀ n, n <= L -> A * sqTo xs 0 n - B * abS xs n <= dotTo xs ds t 0 n := by
 intro n
 induction n with
 | zero => intro _; simp [sqTo, abS, dotTo]
 | succ n ih =>
   intro hn
   have h1 := ih (by omega)
   obtain ⟨h2, h3⟩ := hc n (by omega)
   have h4 := hd n (by omega)
   have h5 := mul_abs_ge (x := xs.getD n 0) h2 h3
   simp only [sqTo, abS, dotTo, Nat.zero_add]
   rw [h4, Int.mul_add, Int.mul_add, Int.mul_add, Int.mul_left_comm (xs.getD n 0) A]
   omega
theorem sure_hit {xs ds : List Int} {t L : Nat} {A a0 B bd : Int} (hf : enoB xs L a0 B bd = true) (hA : a0 <= A) (c : Nat -> Int) (hc : ∀ i, i < L -> -B <= c i /\ c i <= B) (hd : ∀ i, i < L -> ds.getD (t + i) 0 = c i + A * xs.getD i 0) :
 0 < dotTo xs ds t 0 L /\ bd <= dotTo xs ds t 0 L * dotTo xs ds t 0 L := by
 have h1 := dot_ge c hc hd L (Nat.le_refl _)
 simp only [enoB, Bool.and_eq_true, decide_eq_true_eq] at hf
 obtain ⟨h2, h3⟩ := hf
 have h4 := Int.mul_le_mul_of_nonneg_right hA (sqTo_nn xs 0 L)
 have h5 : a0 * sqTo xs 0 L - B * abS xs L <= dotTo xs ds t 0 L := by omega
 generalize a0 * sqTo xs 0 L - B * abS xs L = m at *
 generalize dotTo xs ds t 0 L = d at *
 refine ⟨by omega, Int.le_trans h3 (Int.mul_le_mul h5 h5 (by omega) (by omega))⟩
end Go.Proofs.YtdpjdifoonfcdaaGreatDoor

namespace Go.Proofs.YtdpjdifoonfcdaaGreatDoor
open Go.RowKit Go.Shelf
def chkB (L : Int) (cs : List (Int × Int)) : Int := if inB 4 L 64 = false then 70 else if bankOK L cs = false then 72 else 0
theorem chkB_0 {L : Int} {cs : List (Int × Int)} (h : chkB L cs = 0) : inB 4 L 64 = true /\ bankOK L cs = true := by
 unfold chkB at h
 cases h1 : inB 4 L 64
 · rw [if_pos h1] at h; cases h
 · rw [if_neg (by rw [h1]; decide)] at h
   cases h2 : bankOK L cs
   · rw [if_pos h2] at h; cases h
   · exact ⟨rfl, rfl⟩
set_option maxRecDepth 100000 in
set_option maxHeartbeats 2000000 in
theorem checkBank_any (L : Int) (cs : List (Int × Int)) (ao : Option Addr) (cap : Nat) (w : World) (hc : Cells w ao (prs cs)) (hl : cs.length <= 9223372036854775807) (hcap : cs.length <= cap) (hcap2 : cap <= 9223372036854775807) :
 Calls Tryz.prog 28 #[.int .i64 L, .slice ao cs.length cap] w fun e w' => e = .returned (.int .i64 (chkB L cs)) /\ Below w.heap.size w w' := by
 have hwv := waves_any L cs ao cap w hc hl hcap hcap2
 have hwi := fun W => bwithin_any L 4 64 W
 have hE : chkB L cs = if inB 4 L 64 = false then 70 else if bankOK L cs = false then 72 else 0 := rfl
 have HWV := Lib.hid hwv
 clear hwv hc
 cases h4 : inB 4 L 64 with
 | false =>
   rw [h4, if_pos rfl] at hE
   rw [h4] at hwi
   have HW := Lib.hid hwi; have HE := Lib.hid hE
   clear hwi hE h4
   go_enter Tryz.func28, Tryz.ntmps28
   go_wp2_with (go_at_call 66; refine (HW.out _).mono ?_; rintro e w1 ⟨rfl, rfl⟩)
   go_ret
   exact ⟨by rw [HE.out]; rfl, Below.refl _ _⟩
 | true =>
   rw [h4, if_neg (by decide)] at hE
   rw [h4] at hwi
   have HW := Lib.hid hwi
   clear hwi h4
   cases hb : bankOK L cs with
   | false =>
     rw [hb, if_pos rfl] at hE
     have HE := Lib.hid hE; have HB := Lib.hid hb
     clear hE hb
     go_enter Tryz.func28, Tryz.ntmps28
     go_wp2_with (first
      | (go_at_call 66; refine (HW.out _).mono ?_; rintro e w1 ⟨rfl, rfl⟩)
      | (go_at_call 87; refine HWV.out.mono ?_; rintro e w1 ⟨hr, hb1⟩; rw [HB.out] at hr; obtain rfl : e = _ := hr))
     go_ret
     exact ⟨by rw [HE.out]; rfl, hb1⟩
   | true =>
     rw [hb, if_neg (by decide)] at hE
     have HE := Lib.hid hE; have HB := Lib.hid hb
     clear hE hb
     go_enter Tryz.func28, Tryz.ntmps28
     go_wp2_with (first
      | (go_at_call 66; refine (HW.out _).mono ?_; rintro e w1 ⟨rfl, rfl⟩)
      | (go_at_call 87; refine HWV.out.mono ?_; rintro e w1 ⟨hr, hb1⟩; rw [HB.out] at hr; obtain ⟨bo, cb, rfl, _⟩ := hr))
     go_ret
     exact ⟨by rw [HE.out]; rfl, hb1⟩
def hitE (L : Int) (cs : List (Int × Int)) (ds : List Int) (va fl : Int) : Int := if chkB L cs ≠ 0 then chkB L cs else if dataOK ds = false then 73 else if (inB 1 va 1048576 && inB 0 fl 65536) = false then 8 else 0
theorem hitE_0 {L : Int} {cs : List (Int × Int)} {ds : List Int} {va fl : Int} (h : hitE L cs ds va fl = 0) : chkB L cs = 0 /\ dataOK ds = true /\ inB 1 va 1048576 = true /\ inB 0 fl 65536 = true := by
 unfold hitE at h
 split at h
 · rename_i h1; exact absurd h h1
 · rename_i h1
   split at h
   · cases h
   · rename_i h2
     split at h
     · cases h
     · rename_i h3
       simp only [Bool.not_eq_false, Bool.and_eq_true] at h2 h3
       exact ⟨by omega, h2, h3.1, h3.2⟩
def LisRes (L : Int) (cs : List (Int × Int)) (ds : List Int) (va fl : Int) (w : World) (e : Ending) (w' : World) : Prop :=
 ((hitE L cs ds va fl = 0 /\ ∃ (C : Nat) (bo : Option Addr) (cb : Nat), e = .returned (.tuple #[.pointer (some ⟨C, 0, none⟩), .int .i64 0]) /\ Blk w' C 297 #[.slice bo cs.length cb, .int .i64 va, .int .i64 fl] /\ w.heap.size <= C /\ Cells w' bo (shpL L (wvs L cs)))
   ∨ (hitE L cs ds va fl ≠ 0 /\ e = .returned (.tuple #[.pointer none, .int .i64 (hitE L cs ds va fl)]))) /\ Below w.heap.size w w'
theorem lis_no {L : Int} {cs : List (Int × Int)} {ds : List Int} {va fl : Int} {w w' : World} {v : Int} (h : hitE L cs ds va fl = v) (h0 : v ≠ 0) (hb : Below w.heap.size w w') : LisRes L cs ds va fl w (.returned (.tuple #[.pointer none, .int .i64 v])) w' := by subst h; exact ⟨.inr ⟨h0, rfl⟩, hb⟩
theorem lis_yes {L : Int} {cs : List (Int × Int)} {ds : List Int} {va fl : Int} {w w' : World} {C : Nat} {bo : Option Addr} {cb : Nat} (h : hitE L cs ds va fl = 0) (hq : Blk w' C 297 #[.slice bo cs.length cb, .int .i64 va, .int .i64 fl]) (hC : w.heap.size <= C) (hc : Cells w' bo (shpL L (wvs L cs))) (hb : Below w.heap.size w w') : LisRes L cs ds va fl w (.returned (.tuple #[.pointer (some ⟨C, 0, none⟩), .int .i64 0])) w' := ⟨.inl ⟨h, C, bo, cb, rfl, hq, hC, hc⟩, hb⟩
set_option maxRecDepth 100000 in
set_option maxHeartbeats 4000000 in
theorem listening_any (L : Int) (cs : List (Int × Int)) (ao : Option Addr) (cap : Nat) (ds : List Int) (da : Option Addr) (dc : Nat) (va fl : Int) (w : World) (hc : Cells w ao (prs cs)) (hl : cs.length <= 9223372036854775807) (hcap : cs.length <= cap) (hcap2 : cap <= 9223372036854775807) (hd : Cells w da (ds.map (Value.int .i64))) (hld : ds.length <= 9223372036854775807) :
 Calls Tryz.prog 123 #[.int .i64 L, .slice ao cs.length cap, .slice da ds.length dc, .int .i64 va, .int .i64 fl] w (LisRes L cs ds va fl w) := by
 have hck := checkBank_any L cs ao cap w hc hl hcap hcap2
 have hwv := fun (W : World) (h : Below w.heap.size w W) => waves_any L cs ao cap W (hc.below h (Nat.le_refl _)) hl hcap hcap2
 have hda := fun (W : World) (h : Below w.heap.size w W) => dataOK_any da ds dc W (hd.below h (Nat.le_refl _)) hld
 have hw1 := fun W => bwithin_any va 1 1048576 W
 have hw2 := fun W => bwithin_any fl 0 65536 W
 have hE : hitE L cs ds va fl = if chkB L cs ≠ 0 then chkB L cs else if dataOK ds = false then 73 else if (inB 1 va 1048576 && inB 0 fl 65536) = false then 8 else 0 := rfl
 have hbk := chkB_0 (L := L) (cs := cs)
 obtain ⟨E, hEq⟩ : ∃ E, E = chkB L cs := ⟨_, rfl⟩
 rw [<- hEq] at hck hE hbk
 have HCK := Lib.hid hck; have HWV := Lib.hid hwv; have HDA := Lib.hid hda
 clear hck hwv hda hc hd hEq
 by_cases h0 : E = 0
 · subst h0
   obtain ⟨-, hb⟩ := hbk rfl
   rw [if_neg (by decide)] at hE
   have HB := Lib.hid hb
   clear hb hbk
   have hwk : ∀ (W : World), Below w.heap.size w W -> Calls Tryz.prog 87 #[.int .i64 L, .slice ao cs.length cap] W fun e w' => (∃ bo cb, e = .returned (.tuple #[.slice bo cs.length cb, .bool true]) /\ Cells w' bo (shpL L (wvs L cs))) /\ Below W.heap.size W w' := fun W h => (HWV.out W h).mono fun e w' ⟨hr, hb⟩ => by rw [HB.out] at hr; exact ⟨hr, hb⟩
   have HWK := Lib.hid hwk
   clear hwk HWV HB
   cases hdo : dataOK ds with
   | false =>
     rw [hdo, if_pos rfl] at hE
     have HE := Lib.hid hE; have HDO := Lib.hid hdo
     clear hE hdo
     go_enter Tryz.func123, Tryz.ntmps123
     go_wp2_with fail
     refine HCK.out.mono ?_
     rintro e w1 ⟨rfl, hb1⟩
     go_wp2_with fail
     refine (HWK.out w1 hb1).mono ?_
     rintro e w2 ⟨⟨bo, cb, rfl, hcs⟩, hb2⟩
     have hb02 := hb1.trans (hb2.mono hb1.size)
     have HCS := Lib.hid hcs
     clear hcs
     go_wp2_with fail
     refine (HDA.out w2 hb02).mono ?_
     rintro e w3 ⟨rfl, hb3⟩
     rw [HDO.out]
     go_wp2_with fail
     go_ret2
     exact lis_no HE.out (by decide) (hb02.trans (hb3.mono hb02.size))
   | true =>
     rw [hdo, if_neg (by decide)] at hE
     have HDO := Lib.hid hdo
     clear hdo
     cases h1 : inB 1 va 1048576 with
     | false =>
       rw [h1, Bool.false_and, if_pos rfl] at hE
       rw [h1] at hw1
       have HE := Lib.hid hE; have HW1 := Lib.hid hw1
       clear hE h1 hw1 hw2
       go_enter Tryz.func123, Tryz.ntmps123
       go_wp2_with fail
       refine HCK.out.mono ?_
       rintro e w1 ⟨rfl, hb1⟩
       go_wp2_with fail
       refine (HWK.out w1 hb1).mono ?_
       rintro e w2 ⟨⟨bo, cb, rfl, hcs⟩, hb2⟩
       have hb02 := hb1.trans (hb2.mono hb1.size)
       have HCS := Lib.hid hcs
       clear hcs
       go_wp2_with fail
       refine (HDA.out w2 hb02).mono ?_
       rintro e w3 ⟨rfl, hb3⟩
       rw [HDO.out]
       have hb03 := hb02.trans (hb3.mono hb02.size)
       go_wp2_with (go_at_call 66; refine (HW1.out _).mono ?_; rintro e w4 ⟨rfl, rfl⟩)
       go_ret2
       exact lis_no HE.out (by decide) hb03
     | true =>
       rw [h1, Bool.true_and] at hE
       rw [h1] at hw1
       have HW1 := Lib.hid hw1
       clear h1 hw1
       cases h2 : inB 0 fl 65536 with
       | false =>
         rw [h2, if_pos rfl] at hE
         rw [h2] at hw2
         have HE := Lib.hid hE; have HW2 := Lib.hid hw2
         clear hE h2 hw2
         go_enter Tryz.func123, Tryz.ntmps123
         go_wp2_with fail
         refine HCK.out.mono ?_
         rintro e w1 ⟨rfl, hb1⟩
         go_wp2_with fail
         refine (HWK.out w1 hb1).mono ?_
         rintro e w2 ⟨⟨bo, cb, rfl, hcs⟩, hb2⟩
         have hb02 := hb1.trans (hb2.mono hb1.size)
         have HCS := Lib.hid hcs
         clear hcs
         go_wp2_with fail
         refine (HDA.out w2 hb02).mono ?_
         rintro e w3 ⟨rfl, hb3⟩
         rw [HDO.out]
         have hb03 := hb02.trans (hb3.mono hb02.size)
         go_wp2_with (first
          | (go_at_call 66; with_reducible refine Calls.mono (HW1.out _) ?_; rintro e w4 ⟨rfl, rfl⟩)
          | (go_at_call 66; with_reducible refine Calls.mono (HW2.out _) ?_; rintro e w4 ⟨rfl, rfl⟩))
         go_ret2
         exact lis_no HE.out (by decide) hb03
       | true =>
         rw [h2, if_neg (by decide)] at hE
         rw [h2] at hw2
         have HE := Lib.hid hE; have HW2 := Lib.hid hw2
         clear hE h2 hw2
         go_enter Tryz.func123, Tryz.ntmps123
         go_wp2_with fail
         refine HCK.out.mono ?_
         rintro e w1 ⟨rfl, hb1⟩
         go_wp2_with fail
         refine (HWK.out w1 hb1).mono ?_
         rintro e w2 ⟨⟨bo, cb, rfl, hcs⟩, hb2⟩
         have hb02 := hb1.trans (hb2.mono hb1.size)
         have HCS := Lib.hid hcs
         clear hcs
         go_wp2_with fail
         refine (HDA.out w2 hb02).mono ?_
         rintro e w3 ⟨rfl, hb3⟩
         rw [HDO.out]
         have hb03 := hb02.trans (hb3.mono hb02.size)
         have HCS3 := Lib.hid (HCS.out.below hb3 (Nat.le_refl _))
         have hq := Blk.new w3 297 #[.slice bo cs.length cb, .int .i64 va, .int .i64 fl]
         have HQ := Lib.hid hq
         clear hq
         go_wp2_with (first
          | (go_at_call 66; with_reducible refine Calls.mono (HW1.out _) ?_; rintro e w4 ⟨rfl, rfl⟩)
          | (go_at_call 66; with_reducible refine Calls.mono (HW2.out _) ?_; rintro e w4 ⟨rfl, rfl⟩))
         go_ret2
         exact lis_yes HE.out HQ.out hb03.size (HCS3.out.below ((Below.refl _ _).alloc (Nat.le_refl _) _) (Nat.le_refl _)) (hb03.alloc hb03.size _)
 · rw [if_pos h0] at hE
   have HE := Lib.hid hE
   clear hE hbk hw1 hw2
   go_enter Tryz.func123, Tryz.ntmps123
   go_wp2_with fail
   refine HCK.out.mono ?_
   rintro e w1 ⟨rfl, hb1⟩
   go_wp2_with fail
   go_ret2
   exact lis_no HE.out h0 hb1
end Go.Proofs.YtdpjdifoonfcdaaGreatDoor

namespace Go.Proofs.YtdpjdifoonfcdaaGreatDoor
open Go.RowKit
def htOK (h : Int × Int × Int) : Prop := (0 <= h.1 /\ h.1 <= 1000) /\ (0 <= h.2.1 /\ h.2.1 <= 63) /\ 0 <= h.2.2 /\ h.2.2 <= 268435456
instance (h : Int × Int × Int) : Decidable (htOK h) := by unfold htOK; exact inferInstance
abbrev Ht := {h : Int × Int × Int // htOK h}
instance : Inhabited Ht := ⟨⟨(0, 0, 0), by decide⟩⟩
def mkH (t c o : Int) : Ht := if h : htOK (t, c, o) then ⟨(t, c, o), h⟩ else default
theorem mkH_val {t c o : Int} (h : htOK (t, c, o)) : (mkH t c o).1 = (t, c, o) := by rw [mkH, dif_pos h]
def encH (x : Ht) : List Value := [.int .i64 x.1.1, .int .i64 x.1.2.1, .int .i64 x.1.2.2]
def hts (l : List Ht) : List Value := l.flatMap encH
theorem hts_append (a b : List Ht) : hts (a ++ b) = hts a ++ hts b := by simp [hts]
theorem hts_one (x : Ht) : hts [x] = encH x := by simp [hts]
theorem hts_len (l : List Ht) : (hts l).length = l.length * 3 := by
 induction l with
 | nil => rfl
 | cons x r ih => rw [show hts (x :: r) = encH x ++ hts r from rfl, List.length_append, ih, List.length_cons]; simp [encH]; omega
def hitB (xs ds : List Int) (L : Nat) (va fl : Int) (t : Nat) : Bool := decide (0 < dotTo xs ds t 0 L) && decide (fl * va * ovl xs xs L 0 <= dotTo xs ds t 0 L * dotTo xs ds t 0 L)
def hitC (xs ds : List Int) (L : Nat) (va fl : Int) (i : Nat) : Nat -> List Ht
 | 0 => []
 | n + 1 => hitC xs ds L va fl i n ++ (if hitB xs ds L va fl n = true then [mkH n i (dotTo xs ds n 0 L)] else [])
def hitW (ws : List (List Int)) (ds : List Int) (L : Nat) (va fl : Int) : Nat -> List Ht
 | 0 => []
 | k + 1 => hitW ws ds L va fl k ++ hitC (ws.getD k []) ds L va fl k (nOut L ds.length)
theorem hitC_len (xs ds : List Int) (L : Nat) (va fl : Int) (i n : Nat) : (hitC xs ds L va fl i n).length <= n := by
 induction n with
 | zero => simp [hitC]
 | succ n ih =>
   simp only [hitC, List.length_append]
   split <;> simp <;> omega
theorem hitW_len (ws : List (List Int)) (ds : List Int) (L : Nat) (va fl : Int) (k : Nat) (h : nOut L ds.length <= 513) : (hitW ws ds L va fl k).length <= k * 513 := by
 induction k with
 | zero => simp [hitW]
 | succ k ih =>
   simp only [hitW, List.length_append]
   have := hitC_len (ws.getD k []) ds L va fl k (nOut L ds.length)
   omega
theorem hitC_mem {xs ds : List Int} {L : Nat} {va fl : Int} {i : Nat} {x : Ht} : ∀ {n : Nat}, x ∈ hitC xs ds L va fl i n ↔ ∃ t, t < n /\ hitB xs ds L va fl t = true /\ x = mkH t i (dotTo xs ds t 0 L) := by
 intro n
 induction n with
 | zero => simp [hitC]
 | succ n ih =>
   simp only [hitC, List.mem_append, ih]
   constructor
   · rintro (⟨t, h1, h2, h3⟩ | h)
     · exact ⟨t, by omega, h2, h3⟩
     · by_cases hb : hitB xs ds L va fl n = true
       · rw [if_pos hb] at h
         exact ⟨n, by omega, hb, by simpa using h⟩
       · rw [if_neg hb] at h; simp at h
   · rintro ⟨t, h1, h2, h3⟩
     by_cases ht : t = n
     · subst ht
       exact .inr (by rw [if_pos h2]; simp [h3])
     · exact .inl ⟨t, by omega, h2, h3⟩
theorem hitW_mem {ws : List (List Int)} {ds : List Int} {L : Nat} {va fl : Int} {x : Ht} : ∀ {k : Nat}, x ∈ hitW ws ds L va fl k ↔ ∃ c t, c < k /\ t < nOut L ds.length /\ hitB (ws.getD c []) ds L va fl t = true /\ x = mkH t c (dotTo (ws.getD c []) ds t 0 L) := by
 intro k
 induction k with
 | zero => simp [hitW]
 | succ k ih =>
   simp only [hitW, List.mem_append, ih, hitC_mem]
   constructor
   · rintro (⟨c, t, h1, h2⟩ | ⟨t, h1, h2⟩)
     · exact ⟨c, t, by omega, h2⟩
     · exact ⟨k, t, by omega, h1, h2⟩
   · rintro ⟨c, t, h1, h2⟩
     by_cases hc : c = k
     · subst hc; exact .inr ⟨t, h2⟩
     · exact .inl ⟨c, t, by omega, h2⟩
def cfH (a b : Ht) : Int := if a.1.1 = b.1.1 then a.1.2.1 - b.1.2.1 else a.1.1 - b.1.1
theorem ltH {a b : Ht} : ltOf cfH a b = decide (a.1.1 < b.1.1 ∨ a.1.1 = b.1.1 /\ a.1.2.1 < b.1.2.1) := by
 unfold ltOf cfH
 refine decide_eq_decide.2 ?_
 split <;> omega
theorem swoH : Go.Sort.SWO (ltOf cfH) where
 irrefl x := by rw [ltH]; simp
 trans x y z h1 h2 := by rw [ltH] at *; simp only [decide_eq_true_eq] at *; omega
 ntrans x y z h1 h2 := by rw [ltH] at *; simp only [decide_eq_false_iff_not] at *; omega
def hitS (l : List Ht) : List Ht := l.mergeSort fun a b => !ltOf cfH b a
theorem hitS_perm (l : List Ht) : (hitS l).Perm l := List.mergeSort_perm _ _
theorem hitS_pair (l : List Ht) : (hitS l).Pairwise fun a b => ltOf cfH b a = false := by
 have h := List.pairwise_mergeSort (le := fun a b : Ht => !ltOf cfH b a) (fun a b c h1 h2 => by
  simp only [Bool.not_eq_true'] at *
  exact swoH.ntrans _ _ _ h2 h1) (fun a b => by
  simp only [ltH, Bool.or_eq_true, Bool.not_eq_true', decide_eq_false_iff_not]
  omega) l
 exact h.imp (fun h => by simpa using h)
def Parted (l : List Ht) : Prop := ∀ a b, a ∈ l -> b ∈ l -> a.1.1 = b.1.1 -> a.1.2.1 = b.1.2.1 -> a = b
theorem hitS_eq {l r : List Ht} (hP : Parted l) (hp : r.Perm l) (hs : r.Pairwise fun a b => ltOf cfH b a = false) : r = hitS l :=
 List.Perm.eq_of_pairwise (le := fun a b => ltOf cfH b a = false) (fun a b ha hb h1 h2 => by
  rw [ltH] at h1 h2
  simp only [decide_eq_false_iff_not] at h1 h2
  exact hP a b (hp.subset ha) ((hitS_perm l).subset hb) (by omega) (by omega)) hs (hitS_pair l) (hp.trans (hitS_perm l).symm)
theorem hit_ok {ws : List (List Int)} {ds : List Int} {L c t : Nat} {va fl : Int} (hL : L <= 64) (hw : ∀ xs ∈ ws, ∀ x ∈ xs, -127 <= x /\ x <= 127) (hd : ∀ x ∈ ds, -32768 <= x /\ x <= 32768) (hc : c < ws.length) (hc2 : ws.length <= 64) (ht : t < nOut L ds.length) (hl : ds.length <= 512) (hb : hitB (ws.getD c []) ds L va fl t = true) :
 htOK ((t : Int), (c : Int), dotTo (ws.getD c []) ds t 0 L) := by
 simp only [hitB, Bool.and_eq_true, decide_eq_true_eq] at hb
 have hm : ∀ x ∈ ws.getD c [], -127 <= x /\ x <= 127 := by
  rw [List.getD_eq_getElem?_getD, List.getElem?_eq_getElem hc]
  exact hw _ (List.getElem_mem hc)
 have h2 := dotTo_bd hm hd t 0 L
 unfold nOut at ht
 refine ⟨⟨by omega, by show (t : Int) <= 1000; omega⟩, ⟨by show (0 : Int) <= (c : Int); omega, by show (c : Int) <= 63; omega⟩, by show 0 <= dotTo _ _ _ _ _; omega, by show dotTo _ _ _ _ _ <= 268435456; omega⟩
theorem hitW_parted {ws : List (List Int)} {ds : List Int} {L : Nat} {va fl : Int} (hL : L <= 64) (hw : ∀ xs ∈ ws, ∀ x ∈ xs, -127 <= x /\ x <= 127) (hd : ∀ x ∈ ds, -32768 <= x /\ x <= 32768) (hc2 : ws.length <= 64) (hl : ds.length <= 512) : Parted (hitW ws ds L va fl ws.length) := by
 intro a b ha hb h1 h2
 obtain ⟨c, t, hc, ht, hB, rfl⟩ := hitW_mem.1 ha
 obtain ⟨c', t', hc', ht', hB', rfl⟩ := hitW_mem.1 hb
 have o1 := mkH_val (hit_ok hL hw hd hc hc2 ht hl hB)
 have o2 := mkH_val (hit_ok hL hw hd hc' hc2 ht' hl hB')
 rw [o1, o2] at h1 h2
 obtain rfl : t = t' := by have h3 : (t : Int) = (t' : Int) := h1; omega
 obtain rfl : c = c' := by have h3 : (c : Int) = (c' : Int) := h2; omega
 rfl
end Go.Proofs.YtdpjdifoonfcdaaGreatDoor

namespace Go.Proofs
open Go.Shelf
def Tryz.sortHit_ren : Go.Shelf.Ren := ⟨fun | 6 => 192 | 15 => 238 | 14 => 237 | 28 => 267 | 29 => 268 | 20 => 259 | 21 => 260 | 22 => 261 | 23 => 262 | 24 => 263 | 25 => 264 | 26 => 265 | 27 => 266 | 46 => 290 | 47 => 291 | 48 => 292 | 49 => 293 | 50 => 294 | 57 => 321 | n => n, fun | 22 => 116 | 24 => 120 | 25 => 299 | 3 => 3 | 39 => 289 | 0 => 0 | 53 => 370 | 55 => 208 | 4 => 4 | 46 => 364 | 45 => 363 | 50 => 155 | 5 => 5 | 9 => 9 | 66 => 391 | 70 => 395 | 76 => 419 | 77 => 258 | n => n, fun | n => n⟩
theorem Tryz.sortHit : Go.Proofs.SlLaysF0.n6 Tryz.prog Tryz.sortHit_ren := {
 mixed := by kernel_rfl
 f6 := ⟨Tryz.f192.name, by decide, Tryz.func192.trans (congrArg some (by kernel_rfl))⟩
 f14 := ⟨Tryz.f237.name, by decide, Tryz.func237.trans (congrArg some (by kernel_rfl))⟩
 f15 := Tryz.func238.trans (congrArg some (by kernel_rfl))
 f20 := ⟨Tryz.f259.name, by decide, Tryz.func259.trans (congrArg some (by kernel_rfl))⟩
 f21 := ⟨Tryz.f260.name, by decide, Tryz.func260.trans (congrArg some (by kernel_rfl))⟩
 f22 := ⟨Tryz.f261.name, by decide, Tryz.func261.trans (congrArg some (by kernel_rfl))⟩
 f23 := ⟨Tryz.f262.name, by decide, Tryz.func262.trans (congrArg some (by kernel_rfl))⟩
 f24 := ⟨Tryz.f263.name, by decide, Tryz.func263.trans (congrArg some (by kernel_rfl))⟩
 f25 := ⟨Tryz.f264.name, by decide, Tryz.func264.trans (congrArg some (by kernel_rfl))⟩
 f26 := ⟨Tryz.f265.name, by decide, Tryz.func265.trans (congrArg some (by kernel_rfl))⟩
 f27 := ⟨Tryz.f266.name, by decide, Tryz.func266.trans (congrArg some (by kernel_rfl))⟩
 f28 := Tryz.func267.trans (congrArg some (by kernel_rfl))
 f29 := Tryz.func268.trans (congrArg some (by kernel_rfl))
 f46 := ⟨Tryz.f290.name, by decide, Tryz.func290.trans (congrArg some (by kernel_rfl))⟩
 f47 := Tryz.func291.trans (congrArg some (by kernel_rfl))
 f48 := Tryz.func292.trans (congrArg some (by kernel_rfl))
 f49 := ⟨Tryz.f293.name, by decide, Tryz.func293.trans (congrArg some (by kernel_rfl))⟩
 f50 := ⟨Tryz.f294.name, by decide, Tryz.func294.trans (congrArg some (by kernel_rfl))⟩
 f57 := ⟨Tryz.f321.name, by decide, Tryz.func321.trans (congrArg some (by kernel_rfl))⟩
 t0 := Tryz.underlying0
 a0 := Tryz.isAgg0
 z0 := Tryz.sizeOf0
 v0 := Tryz.zeroValue0
 t3 := Tryz.underlying3
 a3 := Tryz.isAgg3
 z3 := Tryz.sizeOf3
 v3 := Tryz.zeroValue3
 t4 := Tryz.underlying4
 a4 := Tryz.isAgg4
 z4 := Tryz.sizeOf4
 v4 := Tryz.zeroValue4
 t5 := Tryz.underlying5
 a5 := Tryz.isAgg5
 z5 := Tryz.sizeOf5
 v5 := Tryz.zeroValue5
 t9 := Tryz.underlying9
 a9 := Tryz.isAgg9
 z9 := Tryz.sizeOf9
 v9 := Tryz.zeroValue9
 t22 := Tryz.underlying116
 a22 := Tryz.isAgg116
 z22 := Tryz.sizeOf116
 v22 := Tryz.zeroValue116
 t25 := Tryz.underlying299
 a25 := Tryz.isAgg299
 z25 := Tryz.sizeOf299
 v25 := Tryz.zeroValue299
 t39 := Tryz.underlying289
 a39 := Tryz.isAgg289
 z39 := Tryz.sizeOf289
 v39 := Tryz.zeroValue289
 t45 := Tryz.underlying363
 a45 := Tryz.isAgg363
 z45 := Tryz.sizeOf363
 v45 := Tryz.zeroValue363
 t46 := Tryz.underlying364
 a46 := Tryz.isAgg364
 z46 := Tryz.sizeOf364
 v46 := Tryz.zeroValue364
 t50 := Tryz.underlying155
 a50 := Tryz.isAgg155
 z50 := Tryz.sizeOf155
 v50 := Tryz.zeroValue155
 t53 := Tryz.underlying370
 a53 := Tryz.isAgg370
 z53 := Tryz.sizeOf370
 v53 := Tryz.zeroValue370
 t55 := Tryz.underlying208
 a55 := Tryz.isAgg208
 z55 := Tryz.sizeOf208
 v55 := Tryz.zeroValue208
 t66 := Tryz.underlying391
 a66 := Tryz.isAgg391
 z66 := Tryz.sizeOf391
 v66 := Tryz.zeroValue391
 t70 := Tryz.underlying395
 a70 := Tryz.isAgg395
 z70 := Tryz.sizeOf395
 v70 := Tryz.zeroValue395
 t76 := Tryz.underlying419
 a76 := Tryz.isAgg419
 z76 := Tryz.sizeOf419
 v76 := Tryz.zeroValue419
 t77 := Tryz.underlying258
 a77 := Tryz.isAgg258
 z77 := Tryz.sizeOf258
 v77 := Tryz.zeroValue258 }
end Go.Proofs

namespace Go.Proofs.YtdpjdifoonfcdaaGreatDoor
open Go.RowKit Go.Shelf Go.Sort
theorem encH_len (x : Ht) : (encH x).length = 3 := rfl
theorem encH_one (x : Ht) : ∀ v ∈ encH x, v.oneCell' = true := by
 intro v hv
 simp only [encH, List.mem_cons, List.not_mem_nil, or_false] at hv
 rcases hv with rfl | rfl | rfl <;> rfl
theorem get_list! {α : Type} [Inhabited α] {l : List α} {i : Nat} {x : α} (h : l[i]? = some x) : l.toArray[i]! = x := by
 simp [h]
theorem hts_get : ∀ (l : List Ht) (t : Nat), t < l.length * 3 -> (hts l)[t]? = some ((encH l.toArray[t / 3]!)[t % 3]!)
 | [], t, h => by simp at h
 | x :: r, t, h => by
   rw [show hts (x :: r) = encH x ++ hts r from rfl]
   by_cases h3 : t < 3
   · rw [List.getElem?_append_left (by rw [encH_len]; exact h3), show t / 3 = 0 by omega, show t % 3 = t by omega]
     have : (x :: r).toArray[0]! = x := rfl
     rw [this, List.getElem?_eq_getElem (by rw [encH_len]; exact h3), getElem!_pos _ _ (by rw [encH_len]; exact h3)]
   · rw [List.getElem?_append_right (by rw [encH_len]; omega), encH_len, hts_get r (t - 3) (by simp at h; omega), show (t - 3) / 3 = t / 3 - 1 by omega, show (t - 3) % 3 = t % 3 by omega]
     have : (x :: r).toArray[t / 3]! = r.toArray[t / 3 - 1]! := by
      obtain ⟨k, hk⟩ : ∃ k, t / 3 = k + 1 := ⟨t / 3 - 1, by omega⟩
      rw [hk]; simp
     rw [this]
def RowH (w : World) (b off : Nat) (l : List Ht) : Prop := HoldsK encH 3 w b off l.toArray
theorem RowH.cells {w : World} {b off : Nat} {l : List Ht} (h : RowH w b off l) : Cells w (some ⟨b, off, none⟩) (hts l) := by
 refine .inr ⟨b, off, rfl, fun j u hu => ?_⟩
 have hj : j < l.length * 3 := by rw [<- hts_len]; exact (List.getElem?_eq_some_iff.1 hu).1
 have h1 := (h j (by simpa using hj)).1
 rw [hts_get l j hj] at hu
 rw [h1, get_flatK encH 3 l.toArray j (by simpa using hj)]
 simpa using hu
theorem RowH.below {w w' : World} {b off B : Nat} {l : List Ht} (h : RowH w b off l) (hb : Below B w w') (hB : b < B) : RowH w' b off l := fun j hj => by
 obtain ⟨h1, h2⟩ := h j hj
 exact ⟨(hb.cell (p := ⟨b, off + j, none⟩) hB).trans h1, (hb.frozen (p := ⟨b, off + j, none⟩) hB).trans h2⟩
theorem rowH_own {w : World} {B : Nat} {t : TypeId} {v : Value} {n : Nat} {l : List Ht} (h : w.ownsRow B t 3 v n (hts l)) (hn : n = l.length) : (v = .slice none 0 0 /\ l = []) ∨ ∃ b c, v = .slice (some ⟨b, 0, none⟩) l.length c /\ B <= b /\ b < w.heap.size /\ RowH w b 0 l := by
 obtain ⟨h1, ⟨rfl, h2⟩ | ⟨g, cap, cur, rfl, hg, hh, h3, h4, h5, h6⟩⟩ := h
 · exact .inl ⟨rfl, by rw [h2] at hn; exact List.eq_nil_of_length_eq_zero hn.symm⟩
 · subst hn
   refine .inr ⟨g, cap, rfl, hg, (Array.getElem?_eq_some_iff.1 hh).1, fun j hj => ?_⟩
   have hj' : j < l.length * 3 := by simpa using hj
   have h7 : cur[j]? = (hts l)[j]? := by
    rw [<- h6, List.getElem?_take, if_pos hj']; simp
   rw [hts_get l j hj'] at h7
   rw [get_flatK encH 3 l.toArray j (by simpa using hj)]
   refine ⟨by simp only [World.cell?, hh, Nat.zero_add]; exact h7, by simp [World.frozen?, hh]⟩
theorem below_sortK {α : Type} [Inhabited α] (enc : α -> List Value) (k : Nat) (w : World) (b off n : Nat) (d : Array α) (os : Array Obj) (hb : b < w.heap.size) : Below b w (sortWorldK enc k w b off n d os) := by
 refine ⟨rfl, rfl, rfl, by simp [sortWorldK, grow, putRowK, putRow, mapBlock], fun i hi => ?_⟩
 unfold sortWorldK
 rw [heap_grow_old _ _ (by simp [putRowK, putRow, mapBlock]; omega)]
 simp only [putRowK, putRow, mapBlock, heap_ahead]
 rw [Array.getElem?_modify]
 rw [if_neg (by omega)]
set_option maxHeartbeats 1000000 in
theorem sort_law (cf : Ht -> Ht -> Int) (hO : SWO (ltOf cf)) (g : Nat) (cb : Array Value) (b off cap : Nat) (l : List Ht) (w : World)
 (eg : ∀ args w, (callFunc g args).run Tryz.prog w = .ok (.enter g args) w) (hcmp : CmpLays Tryz.prog g cb encH 3 cf b off l.length w) (hH : RowH w b off l) (hb : b < w.heap.size) (hl : l.length < 4611686018427387904) :
 Calls Tryz.prog 192 #[.slice (some ⟨b, off, none⟩) l.length cap, .func (.func g) #[] cb] w fun e w' => e = .returned (.tuple #[]) /\ (∃ r : List Ht, r.Perm l /\ (r.Pairwise fun x y => ltOf cf y x = false) /\ r.length = l.length /\ RowH w' b off r) /\ Below b w w' /\ w.heap.size <= w'.heap.size := by
 have h := AnyQ.slices_SortFunc (P := Tryz.prog) Tryz.sortHit 3 Tryz.isAgg120 Tryz.sizeOf120 encH encH_len encH_one cf hO g cb b off cap l.toArray w eg (by simpa using hcmp) hH hb (by simpa using hl)
 change Calls Tryz.prog 192 _ _ _ at h
 simp only [List.size_toArray] at h
 refine h.mono ?_
 rintro e w' ⟨rfl, d', n, os, ⟨hs, hp1, hp2⟩, hsd, rfl⟩
 have hsz : d'.size = l.length := by simpa using hs
 have hperm : d'.toList.Perm l := by
  have := hp2
  rw [<- hsz, Array.extract_size] at this
  rw [show d'.size = l.toArray.size by simpa using hsz, Array.extract_size] at this
  simpa using this
 refine ⟨rfl, ⟨d'.toList, hperm, ?_, by simpa using hsz, ?_⟩, below_sortK encH 3 w b off n d' os hb, (below_sortK encH 3 w b off n d' os hb).size⟩
 · rw [List.pairwise_iff_getElem]
   intro i j hi hj hij
   have h3 := hsd i j (Nat.zero_le _) hij (by simpa [hsz] using hj)
   rw [getElem!_pos d' i (by simpa using hi), getElem!_pos d' j (by simpa using hj)] at h3
   simpa using h3
 · unfold RowH
   rw [Array.toArray_toList]
   exact holdsK_sortWorldK_c encH 3 w b off l.toArray d' n os hH hb (by simpa using hsz)
set_option maxHeartbeats 1000000 in
theorem hits1_any (x y : Ht) (W : World) : Calls Tryz.prog 193 #[.agg (encH x).toArray, .agg (encH y).toArray] W fun e w' => e = .returned (.int .i64 (cfH x y)) /\ ∃ q os', w' = grow (W.drewN q) os' := by
 obtain ⟨⟨t, c, o⟩, ⟨h1, h2⟩, ⟨h3, h4⟩, -⟩ := x
 obtain ⟨⟨t', c', o'⟩, ⟨k1, k2⟩, ⟨k3, k4⟩, -⟩ := y
 simp only [encH, cfH] at *
 by_cases ht : t = t'
 · subst ht
   rw [if_pos rfl]
   have hc : -64 <= c - c' /\ c - c' <= 64 := by have e1 : 0 <= c := h3; have e2 : c <= 63 := h4; have e3 : 0 <= c' := k3; have e4 : c' <= 63 := k4; omega
   go_enter Tryz.func193, Tryz.ntmps193
   go_wp2
   go_ret
   exact ⟨rfl, 0, _, by rw [alloc_eq_grow, alloc_eq_grow, grow_grow]; rfl⟩
 · rw [if_neg ht]
   have hc : -1000 <= t - t' /\ t - t' <= 1000 := by have e1 : 0 <= t := h1; have e2 : t <= 1000 := h2; have e3 : 0 <= t' := k1; have e4 : t' <= 1000 := k2; omega
   go_enter Tryz.func193, Tryz.ntmps193
   go_wp2
   go_ret
   exact ⟨rfl, 0, _, by rw [alloc_eq_grow, alloc_eq_grow, grow_grow]; rfl⟩
theorem sort_hits (b off cap : Nat) (l : List Ht) (w : World) (hH : RowH w b off l) (hb : b < w.heap.size) (hl : l.length < 4611686018427387904) (hP : Parted l) :
 Calls Tryz.prog 192 #[.slice (some ⟨b, off, none⟩) l.length cap, .func (.func 193) #[] #[]] w fun e w' => e = .returned (.tuple #[]) /\ RowH w' b off (hitS l) /\ Below b w w' /\ w.heap.size <= w'.heap.size :=
 (sort_law cfH swoH 193 #[] b off cap l w (enters_of Tryz.func193 (by kernel_rfl) rfl) (fun _ _ _ _ x y => hits1_any x y _) hH hb hl).mono fun e w' ⟨h1, ⟨r, h2, h3, _, h4⟩, h5⟩ => ⟨h1, by rw [<- hitS_eq hP h2 h3]; exact h4, h5⟩
end Go.Proofs.YtdpjdifoonfcdaaGreatDoor

namespace Go.Proofs.YtdpjdifoonfcdaaGreatDoor
open Go.RowKit
set_option maxRecDepth 100000 in
set_option maxHeartbeats 4000000 in
theorem outputs_own (L : Nat) (xs ds : List Int) (ao : Option Addr) (cap : Nat) (w : World) (hx : xs.length = 64) (hc : Cells w ao (ds.map (Value.int .i64))) (hL1 : 1 <= L) (hL : L <= 64) (hl : ds.length <= 512)
 (h1 : ∀ x ∈ xs, -127 <= x /\ x <= 127) (h2 : ∀ x ∈ ds, -32768 <= x /\ x <= 32768) :
 Calls Tryz.prog 80 #[.agg (shp L xs), .slice ao ds.length cap] w fun e w' => (∃ v, e = .returned v /\ w'.ownsRow (w.heap.size + 1) 3 1 v (nOut L ds.length) ((outs xs ds L (nOut L ds.length)).map (Value.int .i64))) /\ Below w.heap.size w w' := by
 have hout : ∀ (t : Nat) (wx : World), Below w.heap.size w wx -> t + L <= ds.length -> Calls Tryz.prog 68 #[.agg (shp L xs), .slice ao ds.length cap, .int .i64 t, .int .i64 0, .int .i64 L] wx fun e w' => e = .returned (.int .i64 (dotTo xs ds t 0 L)) /\ Below wx.heap.size wx w' :=
  fun t wx hb ht => output_any L xs ds ao cap t 0 L wx hx (hc.below hb (Nat.le_refl _)) (Nat.zero_le _) hL ht hl h1 h2
 have hbd : ∀ t, -(4161536 * (L : Int)) <= dotTo xs ds t 0 L /\ dotTo xs ds t 0 L <= 4161536 * (L : Int) := fun t => dotTo_bd h1 h2 t 0 L
 have hi : (Tryz.prog.info? 129).map (·.size) = some (shp L xs).size := by rw [shp_size, hx]; kernel_rfl
 have hv0 : (shp L xs)[0]? = some (.int .i64 L) := shp_zero _ _
 generalize shp L xs = V at hout hi hv0
 have HO := Lib.hid hout; clear hout
 have HI := Lib.hid hi; clear hi
 have HBD := Lib.hid hbd; clear hbd
 have H0 := Lib.hid hv0; clear hv0
 obtain ⟨i0, hi, hz0, hz1, hz2⟩ := info_parts Tryz.infoInt
 have HN : Hid (nOut L ds.length = ds.length + 1 - L) := rfl
 have HS := Lib.hid (outs_succ xs ds L)
 clear h1 h2 hc
 go_enter Tryz.func80, Tryz.ntmps80
 go_wp2
 go_loopw [5, 6] (fun v i wr => ∃ k : Nat, k <= nOut L ds.length /\ i = .int .i64 k /\ wr.ownsRow (w.heap.size + 1) 3 1 v k ((outs xs ds L k).map (Value.int .i64)) /\ Below (w.heap.size + 1) (w.alloc (.cells V 129)) wr) (fun _ i _ => nOut L ds.length - (intOf i).toNat)
 case atStart => exact ⟨0, Nat.zero_le _, rfl, World.ownsRow_nil _ _ _ _, Below.refl _ _⟩
 case round =>
  obtain ⟨k, hk, rfl, hown, hbe⟩ := hrel
  have hbw : Below w.heap.size w wr := ((Below.refl _ _).alloc (Nat.le_refl _) _).trans (hbe.mono (by omega))
  have hc0 : wr.cell? ⟨w.heap.size, 0, none⟩ = some (.int .i64 L) := (box_keep hbe (by simp) 0).trans H0.out
  have hrow : wr.heap[w.heap.size]? = some (.cells V 129 (0, 0)) := (hbe.block _ (by omega)).trans (heap_alloc_new _ _)
  have HROW := Lib.hid hrow; clear hrow
  have hsz : w.heap.size + 1 <= wr.heap.size := by have := hbe.size; simpa using this
  have HNN := HN.out
  by_cases hlt : k + L <= ds.length
  · have bd := HBD.out k
    have HOB : Hid (∀ j, u5.ownBlock = some j -> w.heap.size + 1 <= j) := fun j e => (hown.lt j e).1
    clear HNN
    go_wp2_with (first
     | (refine wpList_load_row (by rfl) 129 _ (by rfl) w.heap.size (by rfl) _ V _ _ HROW.out Tryz.underlying129 (by rfl) HI.out ?_)
     | (go_at_call 68; refine (HO.out k _ hbw hlt).mono ?_; rintro e w1 ⟨rfl, hb1⟩)
     | (at_builtin; refine wpList_append_own _ rfl _ _ 24 rfl (w.heap.size + 1) 3 i0 (.int .i64 0) 1 8 Tryz.underlying24 hi hz0 hz1 hz2 rfl (by decide) _ _ _ rfl ((own_belowK hown hb1 (Nat.le_refl _)).alloc _) ⟨w1.heap.size, 0, none⟩ 1 1 [.int .i64 (dotTo xs ds k 0 L)] rfl rfl (news1 _ _ _) (by simp [Value.oneCell']) (by unfold maxLen; omega) (by omega) (by have := hb1.size; simp; omega) ?_; intro v1 wz hown1 hgrow _))
    have hfin := hown1
    rw [show (outs xs ds L k).map (Value.int .i64) ++ [.int .i64 (dotTo xs ds k 0 L)] = (outs xs ds L (k + 1)).map (Value.int .i64) from by rw [HS.out, List.map_append]; rfl] at hfin
    have hs1 := hb1.size
    have hbz := ((hbe.trans (hb1.mono hsz)).alloc (by omega) (.cells #[.int .i64 (dotTo xs ds k 0 L)] 3)).grown hgrow (by simp; omega) HOB.out
    clear hown1 hgrow hown
    have HFIN := Lib.hid hfin; clear hfin
    go_roundw
    case rel => exact ⟨k + 1, by have := HN.out; omega, by go_num, HFIN.out, hbz⟩
    case measure => have := HN.out; simp [intOf]; omega
  · have e : k = nOut L ds.length := by omega
    have hk2 : k <= 512 := by omega
    have HOWN := Lib.hid hown
    clear hown HNN
    have E := Lib.hid e; clear e
    go_wp2
    go_ret
    rw [<- E.out]
    exact ⟨⟨_, rfl, HOWN.out⟩, hbw⟩
end Go.Proofs.YtdpjdifoonfcdaaGreatDoor
