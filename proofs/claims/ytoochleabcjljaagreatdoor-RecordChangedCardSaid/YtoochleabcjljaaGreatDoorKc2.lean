/- Parts of a proof, in build order: A1, C3, C4, F0, F1, T0, D0, B0. -/
import Derived.Test.YtoochleabcjljaaGreatDoorKc1

/- Series: CheckSeries, of the program and of the reference. -/
namespace Go.Proofs.YtoochleabcjljaaGreatDoor
open Go.RowKit

set_option maxRecDepth 100000 in
theorem containsFunc_ints (F : FuncId) (capd : Array Value) (p : Int → Bool) (ao : Option Addr) (xs : List Int) (cap : Nat) (w : World) (hc : Cells w ao (xs.map (Value.int .i64))) (hl : xs.length ≤ 9223372036854775807)
    (hcf : ∀ (vs : Array Value) (wx : World), Sem.run Tryz.prog (callFunc F vs) wx = .ok (.enter F vs) wx)
    (hF : ∀ x wx, x ∈ xs → Below w.heap.size w wx → Calls Tryz.prog F (#[.int .i64 x] ++ capd) wx fun e w' => e = .returned (.bool (p x)) ∧ Below wx.heap.size wx w') :
    Calls Tryz.prog 111 #[.slice ao xs.length cap, .func (.func F) #[] capd] w fun e w' => e = .returned (.bool (xs.any p)) ∧ Below w.heap.size w w' := by
  have HC := Lib.hid hc; clear hc
  have HF := Lib.hid hF; clear hF
  have HCF := Lib.hid hcf; clear hcf
  go_enter Tryz.func111, Tryz.ntmps111
  go_wp2_with fail
  refine (indexFunc_ints F capd p ao xs cap w HC.out hl HCF.out HF.out).mono ?_
  rintro e w1 ⟨⟨r, rfl, hr⟩, hb⟩
  have HR := Lib.hid hr; clear hr
  go_wp2
  go_ret
  exact ⟨ret_bool (by rw [Bool.eq_iff_iff, decide_eq_true_iff]; exact HR.out), hb⟩

/-- a series -/
def serOK (xs : List Int) : Bool := decide (xs.length ≤ 4096) && xs.all (fun n => inB (-8388608) n 8388608)
def serErr (xs : List Int) : Int := if serOK xs then 0 else 55

theorem seriesOK_any (ao : Option Addr) (xs : List Int) (cap : Nat) (w : World) (hc : Cells w ao (xs.map (Value.int .i64))) (hl : xs.length ≤ 9223372036854775807) :
    Calls Tryz.prog 57 #[.slice ao xs.length cap] w fun e w' => e = .returned (.bool (serOK xs)) ∧ Below w.heap.size w w' := by
  have HC := Lib.hid hc; clear hc
  by_cases h : xs.length ≤ 4096
  · go_enter Tryz.func57, Tryz.ntmps57
    go_wp2_with fail
    refine (containsFunc_ints 112 #[] (fun n => !inB (-8388608) n 8388608) ao xs cap w HC.out hl (fun _ _ => by kernel_rfl) (fun x wx _ _ => (seriesOK1_any x wx).mono fun e w' h => ⟨h.1, h.2 ▸ Below.refl _ _⟩)).mono ?_
    rintro e w1 ⟨rfl, hb⟩
    go_wp2
    go_ret
    exact ⟨ret_bool (by simp [serOK, h, List.all_eq_not_any_not]), hb⟩
  · go_enter Tryz.func57, Tryz.ntmps57
    go_wp2
    go_ret
    exact ⟨ret_bool (by simp [serOK]; omega), Below.refl _ _⟩

theorem checkSeries_any (ao : Option Addr) (xs : List Int) (cap : Nat) (w : World) (hc : Cells w ao (xs.map (Value.int .i64))) (hl : xs.length ≤ 9223372036854775807) :
    Calls Tryz.prog 110 #[.slice ao xs.length cap] w fun e w' => e = .returned (.int .i64 (serErr xs)) ∧ Below w.heap.size w w' := by
  have HC := Lib.hid hc; clear hc
  cases hs : serOK xs
  all_goals
    go_enter Tryz.func110, Tryz.ntmps110
    go_wp2_with fail
    refine (seriesOK_any ao xs cap w HC.out hl).mono ?_
    rintro e w1 ⟨rfl, hb⟩
    go_wp2
    go_ret
    exact ⟨ret_int (by simp [serErr, hs]), hb⟩

theorem refCheckSeries_any (ao : Option Addr) (xs : List Int) (cap : Nat) (w : World) (hc : Cells w ao (xs.map (Value.int .i64))) (hl : xs.length ≤ 9223372036854775807) :
    Calls Tryz.prog 59 #[.slice ao xs.length cap] w fun e w' => e = .returned (.int .i64 (serErr xs)) ∧ Below w.heap.size w w' := by
  have HC := Lib.hid hc; clear hc
  go_enter Tryz.func59, Tryz.ntmps59
  go_wp2
  go_loopw [3, 4] (fun o i wr => ∃ k : Nat, k ≤ xs.length ∧ i = .int .i64 k ∧ o = .bool (decide (xs.length ≤ 4096) && (xs.take k).all (fun n => inB (-8388608) n 8388608)) ∧ Below w.heap.size w wr) (fun _ i _ => xs.length - (intOf i).toNat)
  case atStart => exact ⟨0, Nat.zero_le _, rfl, by simp; omega, Below.refl _ _⟩
  case round =>
    obtain ⟨k, hk, rfl, rfl, hb⟩ := hrel
    by_cases hlt : k < xs.length
    · obtain ⟨x, hx⟩ := get_of_lt hlt
      obtain ⟨b, off, rfl⟩ := HC.out.addr (by simpa using List.ne_nil_of_length_pos (by omega))
      have hcell := cell_keep (HC.out.int hx) hb (Nat.le_refl _)
      have hn : (decide (xs.length ≤ 4096) && (xs.take (k + 1)).all (fun n => inB (-8388608) n 8388608)) = ((decide (xs.length ≤ 4096) && (xs.take k).all (fun n => inB (-8388608) n 8388608)) && inB (-8388608) x 8388608) := by
        rw [take_get hx, List.all_append]; simp [Bool.and_assoc]
      have HX := Lib.hid hx; clear hx
      have HN := Lib.hid hn; clear hn
      generalize (decide (xs.length ≤ 4096) && (xs.take k).all (fun n => inB (-8388608) n 8388608)) = o at *
      cases o
      · go_wp2
        go_roundw
        case rel => exact ⟨k + 1, by omega, by go_num, by rw [HN.out]; rfl, hb⟩
        case measure => simp [intOf]; omega
      · go_wp2_with (go_at_call 54; refine (in_any _ _ _ _).mono ?_; rintro e w' ⟨rfl, rfl⟩)
        go_roundw
        case rel => exact ⟨k + 1, by omega, by go_num, by rw [HN.out]; simp, hb⟩
        case measure => simp [intOf]; omega
    · obtain rfl : k = xs.length := by omega
      have hn : serOK xs = (decide (xs.length ≤ 4096) && (xs.take xs.length).all (fun n => inB (-8388608) n 8388608)) := by simp [serOK]
      have HN := Lib.hid hn; clear hn
      generalize (decide (xs.length ≤ 4096) && (xs.take xs.length).all (fun n => inB (-8388608) n 8388608)) = o at *
      cases o
      all_goals
        go_wp2
        go_ret
        exact ⟨ret_int (by simp [serErr, HN.out]), hb⟩
end Go.Proofs.YtoochleabcjljaaGreatDoor

/- Frames: frameOK, CheckFrame. -/
namespace Go.Proofs.YtoochleabcjljaaGreatDoor
open Go.RowKit

/-- a slice of numbers, and a slice of such -/
def RowV (w : World) (v : Value) (xs : List Int) : Prop := ∃ a c, v = .slice a xs.length c ∧ Cells w a (xs.map (Value.int .i64)) ∧ xs.length ≤ 9223372036854775807
theorem RowV.below {w w' : World} {B : Nat} {v : Value} {xs : List Int} (h : RowV w v xs) (hb : Below B w w') (hB : w.heap.size ≤ B) : RowV w' v xs := by
  obtain ⟨a, c, h1, h2, h3⟩ := h; exact ⟨a, c, h1, h2.below hb hB, h3⟩
def RowsV (w : World) (vs : List Value) (xss : List (List Int)) : Prop := vs.length = xss.length ∧ ∀ (i : Nat) v xs, vs[i]? = some v → xss[i]? = some xs → RowV w v xs
theorem RowsV.below {w w' : World} {B : Nat} {vs : List Value} {xss : List (List Int)} (h : RowsV w vs xss) (hb : Below B w w') (hB : w.heap.size ≤ B) : RowsV w' vs xss :=
  ⟨h.1, fun i v xs h1 h2 => (h.2 i v xs h1 h2).below hb hB⟩

/-- the greatest magnitude of a channel -/
def mostOf (c : Chan) : Int := 2 ^ (c.bits - 1).toNat
def smpOK (c : Chan) (xs : List Int) : Bool := decide ((xs.length : Int) = c.rate) && !xs.any fun n => !inB (-(mostOf c)) n (mostOf c - 1)
def frTo (bs : List Chan) (xss : List (List Int)) : Nat → Bool
  | 0 => true
  | k + 1 => frTo bs xss k && match bs[k]?, xss[k]? with | some c, some xs => smpOK c xs | _, _ => true
def frOK (bs : List Chan) (st : Int) (xss : List (List Int)) : Bool := inB 0 st 1073741824 && (decide (xss.length = bs.length) && frTo bs xss bs.length)
theorem frTo_succ {bs : List Chan} {xss : List (List Int)} {k : Nat} {c : Chan} {xs : List Int} (h : bs[k]? = some c) (h2 : xss[k]? = some xs) : frTo bs xss (k + 1) = (frTo bs xss k && smpOK c xs) := by simp [frTo, h, h2]
theorem frTo_false {bs : List Chan} {xss : List (List Int)} {k : Nat} (h : frTo bs xss k = false) {n : Nat} (hn : k ≤ n) : frTo bs xss n = false := by
  induction n with
  | zero => obtain rfl : k = 0 := by omega
            exact h
  | succ n ih =>
    by_cases hk : k ≤ n
    · simp [frTo, ih hk]
    · obtain rfl : k = n + 1 := by omega
      exact h

theorem bookTo_get {bs : List Chan} {n : Nat} (h : bookTo bs n = true) {i : Nat} {c : Chan} (hi : i < n) (hc : bs[i]? = some c) : chanOK c = true := by
  induction n with
  | zero => omega
  | succ n ih =>
    simp only [bookTo, Bool.and_eq_true] at h
    by_cases hin : i < n
    · exact ih h.1 hin
    · obtain rfl : i = n := by omega
      have := h.2
      rw [hc] at this
      simp only [Bool.and_eq_true] at this
      exact this.1
theorem book_get {bs : List Chan} (h : bookOK bs = true) {i : Nat} {c : Chan} (hc : bs[i]? = some c) : 1 ≤ c.rate ∧ c.rate ≤ 64 ∧ 2 ≤ c.bits ∧ c.bits ≤ 24 := by
  simp only [bookOK, Bool.and_eq_true] at h
  have h1 := bookTo_get h.2 (List.getElem?_eq_some_iff.1 hc).1 hc
  simp only [chanOK, inB, Bool.and_eq_true, decide_eq_true_eq] at h1
  omega

theorem frameOK1_any (n m : Int) (bc : Nat) (w : World) (hc : w.cell? ⟨bc, 0, none⟩ = some (.int .i64 m)) (h1 : 1 ≤ m) (h2 : m ≤ 8388608) :
    Calls Tryz.prog 119 #[.int .i64 n, .pointer (some ⟨bc, 0, none⟩)] w fun e w' => e = .returned (.bool (!inB (-m) n (m - 1))) ∧ w = w' := by
  go_enter Tryz.func119, Tryz.ntmps119
  go_wp2_with (go_at_call 53; refine (within_any _ _ _ _).mono ?_; rintro e w' ⟨rfl, rfl⟩)
  go_ret
  exact ⟨rfl, rfl⟩

theorem new2_cell (w : World) (o : Obj) (cs : Array Value) (T : TypeId) (i : Nat) : ((w.alloc o).alloc (.cells cs T)).cell? ⟨w.heap.size + 1, i, none⟩ = cs[i]? := by
  simp

theorem most_bd {c : Chan} (h1 : 2 ≤ c.bits) (h2 : c.bits ≤ 24) : 1 ≤ mostOf c ∧ mostOf c ≤ 8388608 ∧ (1 : Int) * 2 ^ (c.bits - 1).toNat = mostOf c := by
  have hn : (c.bits - 1).toNat ≤ 23 := by omega
  have h3 : (2 : Nat) ^ (c.bits - 1).toNat ≤ 2 ^ 23 := Nat.pow_le_pow_right (by decide) hn
  have h4 : ((2 ^ (c.bits - 1).toNat : Nat) : Int) = mostOf c := by simp [mostOf]
  have h5 : 0 < (2 : Nat) ^ (c.bits - 1).toNat := Nat.pow_pos (by decide)
  have h6 : (2 : Nat) ^ 23 = 8388608 := by decide
  refine ⟨by omega, by omega, by simp [mostOf]⟩

set_option maxRecDepth 100000 in
set_option maxHeartbeats 1000000 in
theorem frameOK_any (ao : Option Addr) (bs : List Chan) (cap : Nat) (st : Int) (asm : Option Addr) (vs : List Value) (xss : List (List Int)) (cs : Nat) (w : World) (hc : Cells w ao (chs bs)) (hl : bs.length ≤ 9223372036854775807) (hs : Cells w asm vs) (hr : RowsV w vs xss) (_hls : xss.length ≤ 9223372036854775807) (hbk : bookOK bs = true) :
    Calls Tryz.prog 71 #[.slice ao bs.length cap, .agg #[.int .i64 st, .slice asm xss.length cs]] w fun e w' => e = .returned (.bool (frOK bs st xss)) ∧ Below w.heap.size w w' := by
  have HC := Lib.hid hc; have HS := Lib.hid hs; have HR := Lib.hid hr; have HBK := Lib.hid hbk
  clear hc hs hr hbk
  cases h1 : inB 0 st 1073741824
  · have hf : frOK bs st xss = false := by simp [frOK, h1]
    have HF := Lib.hid hf; clear hf
    go_enter Tryz.func71, Tryz.ntmps71
    go_wp2_with (go_at_call 53; refine (within_any _ _ _ _).mono ?_; rintro e w' ⟨rfl, rfl⟩)
    go_ret
    exact ⟨ret_bool HF.out.symm, (Below.refl _ _).alloc (Nat.le_refl _) _⟩
  · by_cases h2 : xss.length = bs.length
    · have hf : frOK bs st xss = frTo bs xss bs.length := by simp [frOK, h1, h2]
      have HF := Lib.hid hf; clear hf
      have hlen : ((xss.length : Int) != bs.length) = false := by simp [h2]
      have H2 := Lib.hid h2; clear h2
      have hle1 : xss.length ≤ bs.length := by have := H2.out; omega
      have hle2 : bs.length ≤ xss.length := by have := H2.out; omega
      go_enter Tryz.func71, Tryz.ntmps71
      go_wp2_with (go_at_call 53; refine (within_any _ _ _ _).mono ?_; rintro e w' ⟨rfl, rfl⟩)
      go_loopw [22] (fun i wr => ∃ k : Nat, k ≤ bs.length ∧ i = .int .i64 k ∧ frTo bs xss k = true ∧ Below (w.heap.size + 1) (w.alloc (.cells #[.int .i64 st, .slice asm xss.length cs] 43)) wr) (fun i _ => bs.length - (intOf i).toNat)
      case atStart => exact ⟨0, Nat.zero_le _, rfl, rfl, Below.refl _ _⟩
      case round =>
        obtain ⟨k, hk, rfl, hfr, hb⟩ := hrel
        have HFR := Lib.hid hfr; clear hfr
        have p1 : wr.cell? ⟨w.heap.size, 1, none⟩ = some (.slice asm xss.length cs) := box_keep hb (by simp) 1
        have hbw : Below w.heap.size w wr := ((Below.refl _ _).alloc (Nat.le_refl _) _).trans (hb.mono (by omega))
        have hsz : w.heap.size + 1 ≤ wr.heap.size := by have := hb.size; simpa using this
        by_cases hlt : k < bs.length
        · obtain ⟨c, hx⟩ := get_of_lt hlt
          obtain ⟨xs, hxs⟩ := get_of_lt (show k < xss.length by omega)
          obtain ⟨v, hv⟩ := get_of_lt (show k < vs.length by have := HR.out.1; omega)
          obtain ⟨b, off, rfl⟩ := HC.out.addr (chs_ne (by omega))
          obtain ⟨b2, off2, rfl⟩ := HS.out.addr (List.ne_nil_of_length_pos (by have := HR.out.1; omega))
          obtain ⟨g0, g1, g2⟩ := chs_get hx
          have c0 := cell_keep (HC.out.at g0) hbw (Nat.le_refl _)
          have c1 := cell_keep (HC.out.at g1) hbw (Nat.le_refl _)
          have c2 := cell_keep (HC.out.at g2) hbw (Nat.le_refl _)
          rw [← Nat.add_assoc] at c1 c2
          have c3 := cell_keep (HS.out.at hv) hbw (Nat.le_refl _)
          have hrow := HR.out.2 k v xs hv hxs
          obtain ⟨ax, cx, rfl, hax, haxl⟩ := hrow
          have hck := book_get HBK.out hx
          obtain ⟨k1, k2, k3, k4⟩ := hck
          obtain ⟨m1, m2, m3⟩ := most_bd k3 k4
          have hst := frTo_succ hx hxs
          rw [HFR.out, Bool.true_and] at hst
          have HST := Lib.hid hst; have HAX := Lib.hid hax; have M3 := Lib.hid m3
          clear g0 g1 g2 hst hax hx hxs hv m3
          have hmx : (c.bits - 1).toNat ≤ 23 := by omega
          have hmin : min (c.bits - 1).toNat 64 = (c.bits - 1).toNat := by omega
          have hpw : (2 : Int) ^ (c.bits.toNat - 1) = mostOf c := by rw [mostOf]; congr 1; omega
          go_wp2
          clear hpw hmx hmin
          have hbq := (hb.alloc hsz (.cells #[.string c.name, .int .i64 c.rate, .int .i64 c.bits] 106)).alloc (by simp; omega) (.cells #[.int .i64 (mostOf c)] 3)
          have hwq := ((Below.refl wr.heap.size wr).alloc (Nat.le_refl _) (.cells #[.string c.name, .int .i64 c.rate, .int .i64 c.bits] 106)).alloc (by simp) (.cells #[.int .i64 (mostOf c)] 3)
          have q3 := cell_keep c3 hwq (Nat.le_refl _)
          have qr : ((wr.alloc (.cells #[.string c.name, .int .i64 c.rate, .int .i64 c.bits] 106)).alloc (.cells #[.int .i64 (mostOf c)] 3)).cell? ⟨wr.heap.size, 1, none⟩ = some (.int .i64 c.rate) := by simp
          have qm : ((wr.alloc (.cells #[.string c.name, .int .i64 c.rate, .int .i64 c.bits] 106)).alloc (.cells #[.int .i64 (mostOf c)] 3)).cell? ⟨wr.heap.size + 1, 0, none⟩ = some (.int .i64 (mostOf c)) := new2_cell _ _ _ _ 0
          have hsq : wr.heap.size + 2 ≤ ((wr.alloc (.cells #[.string c.name, .int .i64 c.rate, .int .i64 c.bits] 106)).alloc (.cells #[.int .i64 (mostOf c)] 3)).heap.size := by simp
          generalize ((wr.alloc (.cells #[.string c.name, .int .i64 c.rate, .int .i64 c.bits] 106)).alloc (.cells #[.int .i64 (mostOf c)] 3)) = wq at *
          clear c0 c1 c2 c3 p1 hb hwq
          have p1 : wq.cell? ⟨w.heap.size, 1, none⟩ = some (.slice (some ⟨b2, off2, none⟩) xss.length cs) := box_keep hbq (by simp) 1
          have hbw2 : Below w.heap.size w wq := ((Below.refl _ _).alloc (Nat.le_refl _) _).trans (hbq.mono (by omega))
          have ki1 : (k : Int) < xss.length := by omega
          by_cases hlr : (xs.length : Int) = c.rate
          · have hst : frTo bs xss (k + 1) = !xs.any (fun n => !inB (-(mostOf c)) n (mostOf c - 1)) := by rw [HST.out]; simp [smpOK, hlr]
            have HST2 := Lib.hid hst; clear hst
            have hneq : ((xs.length : Int) != c.rate) = false := by simp [hlr]
            clear hlr
            go_still_tail 16, (by kernel_rfl)
            change wpList _ _ _ _ _ wq.drew
            have qm2 : wq.drew.cell? ⟨wr.heap.size + 1, 0, none⟩ = some (.int .i64 (mostOf c)) := qm
            have hbd : Below w.heap.size w wq.drew := hbw2.drew
            have hbqd : Below (w.heap.size + 1) (w.alloc (.cells #[.int .i64 st, .slice (some ⟨b2, off2, none⟩) xss.length cs] 43)) wq.drew := hbq.drew
            have hsq2 : wr.heap.size + 2 ≤ wq.drew.heap.size := hsq
            generalize wq.drew = wd at *
            clear qm qr q3 p1 hbq hbw2 hsq
            go_wp2_with fail
            refine (containsFunc_ints 119 #[.pointer (some ⟨wr.heap.size + 1, 0, none⟩)] (fun n => !inB (-(mostOf c)) n (mostOf c - 1)) ax xs cx wd (HAX.out.below hbd (Nat.le_refl _)) (by omega) (fun _ _ => by kernel_rfl) (fun x wx _ hbe => (frameOK1_any x (mostOf c) (wr.heap.size + 1) wx (cell_keep qm2 hbe (Nat.le_refl _)) m1 m2).mono fun e w' h => ⟨h.1, h.2 ▸ Below.refl _ _⟩)).mono ?_
            rintro e w1 ⟨rfl, hb1⟩
            have hbz := hbqd.trans (hb1.mono (by omega))
            cases hany : xs.any (fun n => !inB (-(mostOf c)) n (mostOf c - 1))
            · have hfr2 : frTo bs xss (k + 1) = true := by rw [HST2.out, hany]; rfl
              have HFR2 := Lib.hid hfr2; clear hfr2 hany
              go_wp2
              go_roundw
              case rel => exact ⟨k + 1, by omega, by go_num, HFR2.out, hbz⟩
              case measure => simp [intOf]; omega
            · have hfr2 : frTo bs xss bs.length = false := frTo_false (k := k + 1) (by rw [HST2.out, hany]; rfl) (by omega)
              have HFR2 := Lib.hid hfr2; clear hfr2 hany
              go_wp2
              go_ret
              exact ⟨ret_bool (by rw [HF.out, HFR2.out]), ((Below.refl _ _).alloc (Nat.le_refl _) _).trans (hbz.mono (by omega))⟩
          · have hfr2 : frTo bs xss bs.length = false := frTo_false (k := k + 1) (by rw [HST.out]; simp [smpOK, hlr]) (by omega)
            have HFR2 := Lib.hid hfr2; clear hfr2
            have hneq : ((xs.length : Int) != c.rate) = true := by simpa using hlr
            go_quiet (fail)
            go_wp2
            go_ret
            exact ⟨ret_bool (by rw [HF.out, HFR2.out]), bel_drewN hbw2 _⟩
        · obtain rfl : k = bs.length := by omega
          go_wp2
          go_ret
          exact ⟨ret_bool (by rw [HF.out, HFR.out]), hbw⟩
    · have hf : frOK bs st xss = false := by simp [frOK, h2]
      have HF := Lib.hid hf; clear hf
      have hlen : ((xss.length : Int) != bs.length) = true := by simp; omega
      go_enter Tryz.func71, Tryz.ntmps71
      go_wp2_with (go_at_call 53; refine (within_any _ _ _ _).mono ?_; rintro e w' ⟨rfl, rfl⟩)
      go_ret
      exact ⟨ret_bool HF.out.symm, (Below.refl _ _).alloc (Nat.le_refl _) _⟩
end Go.Proofs.YtoochleabcjljaaGreatDoor

/- Frames: CheckFrame. -/
namespace Go.Proofs.YtoochleabcjljaaGreatDoor
open Go.RowKit

def frmErr (bs : List Chan) (st : Int) (xss : List (List Int)) : Int := if bookErr bs ≠ 0 then bookErr bs else if frOK bs st xss then 0 else 51
theorem bookErr_zero {bs : List Chan} (h : bookErr bs = 0) : bookOK bs = true := by
  cases e : bookOK bs
  · simp [bookErr, e] at h
  · rfl

/-- what is asked of a book, whatever it holds -/
structure BookIn (w : World) (ao : Option Addr) (bs : List Chan) (cap : Nat) : Prop where
  cells : Cells w ao (chs bs)
  len : bs.length ≤ 9223372036854775807
  lecap : bs.length ≤ cap
  cap2 : cap ≤ 9223372036854775807
  names : ∀ c ∈ bs, c.name.size ≤ 9223372036854775807
  rates : ∀ c ∈ bs, -9223372036854775808 ≤ c.rate
theorem BookIn.below {w w' : World} {B : Nat} {ao : Option Addr} {bs : List Chan} {cap : Nat} (h : BookIn w ao bs cap) (hb : Below B w w') (hB : w.heap.size ≤ B) : BookIn w' ao bs cap :=
  ⟨h.cells.below hb hB, h.len, h.lecap, h.cap2, h.names, h.rates⟩

set_option maxRecDepth 100000 in
theorem checkFrame_any (ao : Option Addr) (bs : List Chan) (cap : Nat) (st : Int) (asm : Option Addr) (vs : List Value) (xss : List (List Int)) (cs : Nat) (w : World) (hb : BookIn w ao bs cap) (hs : Cells w asm vs) (hr : RowsV w vs xss) (hls : xss.length ≤ 9223372036854775807) :
    Calls Tryz.prog 26 #[.slice ao bs.length cap, .agg #[.int .i64 st, .slice asm xss.length cs]] w fun e w' => e = .returned (.int .i64 (frmErr bs st xss)) ∧ Below w.heap.size w w' := by
  have HB := Lib.hid hb; have HS := Lib.hid hs; have HR := Lib.hid hr
  have hlen := hb.len
  clear hs hr hb
  have hck := fun wx (h : BookIn wx ao bs cap) => checkBook_any ao bs cap wx h.cells (by have := h.len; omega) h.lecap h.cap2 h.names h.rates
  have HCK := Lib.hid hck; clear hck
  by_cases h1 : bookErr bs = 0
  · have hok := bookErr_zero h1
    have hfr := fun wx h2 h3 h4 => frameOK_any ao bs cap st asm vs xss cs wx h2 hlen h3 h4 hls hok
    have HFR := Lib.hid hfr; clear hfr hok
    have he : frmErr bs st xss = if frOK bs st xss then 0 else 51 := by simp [frmErr, h1]
    have HE := Lib.hid he; have H1 := Lib.hid h1; clear he h1
    cases h2 : frOK bs st xss
    all_goals
      have H2 := Lib.hid h2
      go_enter Tryz.func26, Tryz.ntmps26
      go_wp2_with fail
      refine (HCK.out _ (HB.out.below ((Below.refl _ _).alloc (Nat.le_refl _) _) (Nat.le_refl _))).mono ?_
      rintro e w1 ⟨rfl, hb1⟩
      rw [H1.out]
      have hbw : Below w.heap.size w w1 := ((Below.refl _ _).alloc (Nat.le_refl _) _).trans (hb1.mono (by simp))
      have q0 : w1.cell? ⟨w.heap.size, 0, none⟩ = some (.int .i64 st) := box_keep hb1 (by simp) 0
      have q1 : w1.cell? ⟨w.heap.size, 1, none⟩ = some (.slice asm xss.length cs) := box_keep hb1 (by simp) 1
      go_wp2_with fail
      refine (HFR.out _ (HB.out.below hbw (Nat.le_refl _)).cells (HS.out.below hbw (Nat.le_refl _)) (HR.out.below hbw (Nat.le_refl _))).mono ?_
      rintro e w2 ⟨rfl, hb2⟩
      go_wp2
      go_ret
      exact ⟨ret_int (by rw [HE.out, H2.out]; rfl), hbw.trans (hb2.mono hbw.size)⟩
  · have he : frmErr bs st xss = bookErr bs := by simp [frmErr, h1]
    have h3 : (bookErr bs != 0) = true := by simpa using h1
    have h4 : (bookErr bs == 0) = false := by simpa using h1
    have HE := Lib.hid he; clear he
    go_enter Tryz.func26, Tryz.ntmps26
    go_wp2_with fail
    refine (HCK.out _ (HB.out.below ((Below.refl _ _).alloc (Nat.le_refl _) _) (Nat.le_refl _))).mono ?_
    rintro e w1 ⟨rfl, hb1⟩
    go_wp2
    go_ret
    exact ⟨ret_int HE.out.symm, ((Below.refl _ _).alloc (Nat.le_refl _) _).trans (hb1.mono (by simp))⟩
end Go.Proofs.YtoochleabcjljaaGreatDoor

/- Codes: encode. -/
namespace Go.Proofs.YtoochleabcjljaaGreatDoor
open Go.RowKit Go.Shelf

theorem grown_of_below {n : Nat} {w w' : World} (hb : Below n w w') (hn : w.heap.size ≤ n) (row : Option Nat) : w.grownBy w' row := ⟨hb.os, hb.tape, hb.output, hb.size, fun k hk _ => hb.block k (by omega)⟩
theorem own_base {w : World} {B B' : Nat} {e : TypeId} {s : Nat} {v : Value} {n : Nat} {xs : List Value} (h : w.ownsRow B e s v n xs) (hB : B' ≤ B) : w.ownsRow B' e s v n xs := by
  refine ⟨h.1, h.2.imp id ?_⟩
  rintro ⟨g, cap, cur, h1, h2, h3⟩
  exact ⟨g, cap, cur, h1, by omega, h3⟩
theorem own_below {w w' : World} {B n : Nat} {e : TypeId} {s : Nat} {v : Value} {m : Nat} {xs : List Value} (h : w.ownsRow B e s v m xs) (hb : Below n w w') (hn : w.heap.size ≤ n) : w'.ownsRow B e s v m xs :=
  h.kept (row := none) (grown_of_below hb hn none) (by cases hv : v.ownBlock <;> simp)
theorem WrS.wide {B bW n : Nat} {S : Nat → Prop} {w w' : World} {bs : List Nat} (h : WrS B bW S w bs) (hb : Below n w w') (hn : w.heap.size ≤ n) : WrS B bW (fun k => S k ∨ (w.heap.size ≤ k ∧ k < w'.heap.size)) w' bs := by
  obtain ⟨h1, h2, v, h3, h4, h5, h6⟩ := h
  have hl := heap_lt h3
  refine ⟨h1, h2, v, by rw [hb.block _ (by omega)]; exact h3, own_below h4 hb hn, h5, fun k hk => ?_⟩
  have hs := hb.size
  rcases hk with hk | ⟨hk1, hk2⟩
  · have := h6 k hk; exact ⟨by omega, this.2⟩
  · exact ⟨hk2, by omega, fun e => by have := (h4.lt _ e).2; omega⟩
theorem WrS.new (B : Nat) (S : Nat → Prop) (W : World) (hB : B ≤ W.heap.size) (hS : ∀ k, S k → k < W.heap.size) : WrS B W.heap.size S (W.alloc (.cells #[.slice none 0 0, .int .i64 0] 167)) [] :=
  ⟨hB, by simp, .slice none 0 0, World.alloc_heap_new W _, by rw [octs_nil]; exact World.ownsRow_nil _ _ _ _, by simp [Value.ownBlock], fun k hk => ⟨by have := hS k hk; simp; omega, by have := hS k hk; omega, by simp [Value.ownBlock]⟩⟩
theorem frBits_bits (st : Int) (xss : List (List Int)) : ∀ b ∈ frBits st xss, b ≤ 1 := by
  intro b hb
  rcases List.mem_append.1 hb with h | h
  · exact binL_bits _ _ b h
  · obtain ⟨x, _, hx⟩ := List.mem_flatMap.1 h
    unfold encC encL at hx
    rcases List.mem_append.1 hx with h | h
    · rcases List.mem_append.1 h with h | h <;> exact binL_bits _ _ b h
    · obtain ⟨r, _, hr⟩ := List.mem_flatMap.1 h
      exact encU_bits _ _ b hr

theorem best_way (ao : Option Addr) (xs : List Int) (cap : Nat) (w : World) (hc : Cells w ao (xs.map (Value.int .i64))) (hl : xs.length ≤ 4096) (hx : ∀ x ∈ xs, -8388608 ≤ x ∧ x ≤ 8388608) :
    Calls Tryz.prog 122 #[.slice ao xs.length cap] w fun e w' => ∃ o s : Nat, wayOf xs = (o, s) ∧ e = .returned (.agg #[.int .i64 (o : Nat), .int .i64 (s : Nat)]) ∧ Below w.heap.size w w' := by
  have h := best_any ao xs cap w hc hl hx
  unfold wayOf
  generalize wvs 124 = q at *
  exact h.mono fun e w' h => ⟨_, _, rfl, h⟩

theorem enc_write {B bW : Nat} (S : Nat → Prop) (o sh : Nat) (ho : o ≤ 3) (hsh : sh ≤ 30) (al : Option Addr) (l : List Int) (cl : Nat) (bs : List Nat) {n : Nat} (w : World)
    (hst : WrS B bW S w bs) (hS : ∀ b, n ≤ b ∧ b < w.heap.size → S b) (hl : ∀ b off, al = some ⟨b, off, none⟩ → n ≤ b) (hc : Cells w al (l.map (Value.int .i64))) (hlen : l.length ≤ 4096) (hbs : bs.length ≤ 1000000) (hr : ∀ r ∈ l, -67108864 ≤ r ∧ r ≤ 67108864) :
    Calls Tryz.prog 123 #[.agg #[.int .i64 (o : Nat), .int .i64 (sh : Nat)], .iface 165 (.pointer (some ⟨bW, 0, none⟩)), .slice al l.length cl] w fun e w' => e = .returned (.tuple #[]) ∧ WrS B bW S w' (bs ++ encL o sh l) ∧ KeepS S B w w' := by
  refine write_any (writer_ok B bW) S o sh ho hsh al l cl bs w hst (fun b off hb hne => hS b ⟨hl b off hb, ?_⟩) hc hlen hbs hr
  subst hb
  obtain ⟨r, hr0⟩ := get_of_lt (List.length_pos_iff.2 hne)
  exact World.block_lt_of_cell? w _ (hc.at (j := 0) (by rw [List.getElem?_map, hr0]; rfl))

theorem WrS.lit (w : World) : WrS w.heap.size (w.heap.size + 1) (fun k => k < w.heap.size) ((w.alloc (.cells #[.int .u8 165, .int .u8 90] 5)).alloc (.cells #[.slice (some ⟨w.heap.size, 0, none⟩) 2 2, .int .i64 0] 167)) (unB [165, 90]) := by
  refine ⟨by omega, unB_bits _, .slice (some ⟨w.heap.size, 0, none⟩) 2 2, ?_, ?_, by simp [Value.ownBlock], fun k hk => ⟨by simp; omega, by omega, by simp [Value.ownBlock]; omega⟩⟩
  · have h := World.alloc_heap_new (w.alloc (.cells #[.int .u8 165, .int .u8 90] 5)) (.cells #[.slice (some ⟨w.heap.size, 0, none⟩) 2 2, .int .i64 0] 167)
    rw [World.size_alloc] at h
    exact h
  · rw [octs_unB _ (by decide)]
    refine ⟨rfl, .inr ⟨w.heap.size, 2, #[.int .u8 165, .int .u8 90], rfl, Nat.le_refl _, ?_, by decide, by unfold maxLen; omega, rfl, rfl⟩⟩
    rw [Below.heap_alloc _ _ _ (by simp)]
    exact World.alloc_heap_new w _

set_option maxRecDepth 100000 in
set_option maxHeartbeats 2000000 in
theorem encode_any (ao : Option Addr) (nb : Nat) (cap : Nat) (st : Int) (asm : Option Addr) (vs : List Value) (xss : List (List Int)) (cs : Nat) (w : World) (hl : nb ≤ 16) (hnb : xss.length = nb) (hs : Cells w asm vs) (hr : RowsV w vs xss)
    (hst0 : 0 ≤ st) (hst1 : st ≤ 1073741824) (hxl : ∀ xs ∈ xss, xs.length ≤ 64) (hxb : ∀ xs ∈ xss, ∀ x ∈ xs, -8388608 ≤ x ∧ x ≤ 8388608) :
    Calls Tryz.prog 75 #[.slice ao nb cap, .agg #[.int .i64 st, .slice asm nb cs]] w fun e w' => (∃ v, e = .returned v ∧ w'.ownsRow w.heap.size 5 1 v (encB st xss).length (bys (encB st xss))) ∧ Below w.heap.size w w' := by
  have HS := Lib.hid hs; have HR := Lib.hid hr; have HXL := Lib.hid hxl; have HXB := Lib.hid hxb; have HNB := Lib.hid hnb
  clear hs hr hxl hxb hnb
  go_enter Tryz.func75, Tryz.ntmps75
  go_wp2_with fail
  have hw0 := WrS.new (w.heap.size + 1) (fun _ => False) (w.alloc (.cells #[.int .i64 st, .slice asm nb cs] 43)) (by simp) (fun k h => h.elim)
  rw [World.size_alloc] at hw0
  refine (writer_put _ _ _ _ st 32 _ hw0 hst0 (by omega) (by omega) (by simp)).mono ?_
  rintro e w1 ⟨rfl, hw1, hk1⟩
  have hb1 : Below (w.heap.size + 1) (w.alloc (.cells #[.int .i64 st, .slice asm nb cs] 43)) w1 := ((Below.refl _ _).alloc (by simp) _).trans hk1.below
  have HW1 := Lib.hid hw1
  clear hw0 hw1 hk1
  go_wp2
  go_loopw [18] (fun i wr => ∃ k : Nat, k ≤ nb ∧ i = .int .i64 k ∧ WrS (w.heap.size + 1) (w.heap.size + 1) (fun _ => False) wr (frBits st (xss.take k)) ∧ Below (w.heap.size + 1) (w.alloc (.cells #[.int .i64 st, .slice asm nb cs] 43)) wr) (fun i _ => nb - (intOf i).toNat)
  case atStart => exact ⟨0, Nat.zero_le _, rfl, by simpa [frBits] using HW1.out, hb1⟩
  case round =>
    clear hb1 HW1
    obtain ⟨k, hk, rfl, hwr, hb⟩ := hrel
    have HWR := Lib.hid hwr; clear hwr
    have hsz : w.heap.size + 1 ≤ wr.heap.size := by have := hb.size; simpa using this
    by_cases hlt : k < nb
    · obtain ⟨xs, hxs⟩ := get_of_lt (show k < xss.length by have := HNB.out; omega)
      obtain ⟨v, hv⟩ := get_of_lt (show k < vs.length by have := HR.out.1; have := HNB.out; omega)
      obtain ⟨b2, off2, rfl⟩ := HS.out.addr (List.ne_nil_of_length_pos (by have := HR.out.1; have := HNB.out; omega))
      have hbw : Below w.heap.size w wr := ((Below.refl _ _).alloc (Nat.le_refl _) _).trans (hb.mono (by omega))
      have c3 := cell_keep (HS.out.at hv) hbw (Nat.le_refl _)
      have p1 : wr.cell? ⟨w.heap.size, 1, none⟩ = some (.slice (some ⟨b2, off2, none⟩) nb cs) := box_keep hb (by simp) 1
      obtain ⟨ax, cx, rfl, hax, _⟩ := HR.out.2 k v xs hv hxs
      have hmem := List.mem_of_getElem? hxs
      have hxl := HXL.out xs hmem
      have hxb := HXB.out xs hmem
      have hax2 := hax.below hbw (Nat.le_refl _)
      have HXB2 := Lib.hid hxb; have HAX := Lib.hid hax2
      have HT : Hid (frBits st (xss.take (k + 1)) = frBits st (xss.take k) ++ encC xs) := Lib.hid (by
        rw [frBits, frBits, take_get hxs, List.flatMap_append]; simp)
      have HFL : Hid ((frBits st (xss.take k)).length ≤ 32 + 3335 * 16) := Lib.hid (by
        have h1 := flat_encC (xss.take k) 64 (fun y hy => HXL.out y (List.mem_of_mem_take hy))
        rw [List.length_take, Nat.min_eq_left (by have := HNB.out; omega)] at h1
        rw [frBits, List.length_append, binL_length]; omega)
      clear hv hxs hax hax2 hxb hmem
      go_wp2_with fail
      refine (best_way ax xs cx wr HAX.out (by omega) HXB2.out).mono ?_
      rintro e w1 ⟨o, sh, hwy, rfl, hb1⟩
      have hwb := wayOf_bd xs
      rw [hwy] at hwb
      obtain ⟨ho, hsh⟩ := hwb
      simp only at ho hsh
      have HE : Hid (encC xs = encL o sh (resid xs o)) := Lib.hid (by rw [encC, hwy])
      clear hwy
      have hb2 := hb.trans (hb1.mono hsz)
      have hbx := hb1.alloc hb1.size (.cells #[.int .i64 o, .int .i64 sh] 170)
      have HW2 := Lib.hid ((HWR.out.wide hbx (Nat.le_refl _)))
      have hn1 := hb1.size
      go_wp2
      have hax3 := HAX.out.below hbx.drew (Nat.le_refl _)
      have HAX3 := Lib.hid hax3
      have bw := (Blk.new w1 170 #[.int .i64 o, .int .i64 sh]).drew
      have HWd : Hid (WrS (w.heap.size + 1) (w.heap.size + 1) (fun k => False ∨ (wr.heap.size ≤ k ∧ k < (w1.alloc (.cells #[.int .i64 o, .int .i64 sh] 170)).drew.heap.size)) (w1.alloc (.cells #[.int .i64 o, .int .i64 sh] 170)).drew (frBits st (xss.take k))) := Lib.hid HW2.out
      have hsc : (w1.alloc (.cells #[.int .i64 o, .int .i64 sh] 170)).drew.heap.size = w1.heap.size + 1 := by simp
      have hbd := hbx.drew
      clear hax3 HW2 HAX hb1 hbx c3 p1
      have e0 := bw.c0
      have e1 := bw.c1
      have HBW := Lib.hid bw; have HSC := Lib.hid hsc
      clear bw hsc
      generalize (w1.alloc (.cells #[.int .i64 o, .int .i64 sh] 170)) = Wc at *
      go_region_with (first
        | (go_at_call 124; refine (residues_any ax xs cx o Wc.drew HAX3.out (by omega) ho HXB2.out).mono ?_; rintro e w2 ⟨⟨a1, k1, rfl, hca, hna⟩, hb3⟩; have HCA := Lib.hid hca; have HNA := Lib.hid hna; clear hca hna; have d0 := cell_keep e0 hb3 (Nat.le_refl _); have d1 := cell_keep e1 hb3 (Nat.le_refl _))
        | (go_at_call 123; refine (enc_write _ o sh ho hsh a1 (resid xs o) k1 _ w2 (HWd.out.wide hb3 (Nat.le_refl _)) (fun b hb => .inr hb) HNA.out HCA.out (by rw [resid_length]; omega) (by have := HFL.out; omega) (resid_bd HXB2.out o ho)).mono ?_; rintro e w3 ⟨rfl, hw3, hk3⟩; have hb4 := hk3.below; have HW3 := Lib.hid hw3; clear hw3 hk3))
      all_goals
        have hbz := (hb.trans ((hbd.mono hsz).trans (hb3.mono (Nat.le_trans hsz hbd.size)))).trans hb4
        have HBZ := Lib.hid hbz
        clear hbz hb4 hb3 hbd hb
        go_wp2
        go_roundw
        case rel => exact ⟨k + 1, by omega, by go_num, by rw [HT.out, HE.out]; exact (writer_ok _ _).mono _ _ _ _ (fun k h => h.elim) HW3.out, HBZ.out⟩
        case measure => simp [intOf]; omega
    · obtain rfl : k = nb := by omega
      have ht : xss.take k = xss := by rw [List.take_of_length_le (by have := HNB.out; omega)]
      rw [ht] at HWR
      have hfl : (frBits st xss).length ≤ 32 + 3335 * 16 := by
        have h1 := flat_encC xss 64 HXL.out
        have := HNB.out
        rw [frBits, List.length_append, binL_length]; omega
      have hfl2 : 32 ≤ (frBits st xss).length := by rw [frBits, List.length_append, binL_length]; omega
      have HBI := Lib.hid (frBits_bits st xss)
      have hol := octs_len (frBits st xss)
      have hbw : Below w.heap.size w wr := ((Below.refl _ _).alloc (Nat.le_refl _) _).trans (hb.mono (by omega))
      clear ht hb
      have HENC : Hid (encB st xss = hdB (octs (frBits st xss)) ++ octs (binL (chkL (hdB (octs (frBits st xss))) : Nat) 24)) := Lib.hid rfl
      have hok := (octs_ok _ HBI.out).1
      obtain ⟨eb, heb⟩ : ∃ eb, eb = encB st xss := ⟨_, rfl⟩
      rw [← heb] at HENC
      have HEB := Lib.hid heb
      clear heb
      generalize frBits st xss = fb at *
      have hn1 : 4 ≤ (octs fb).length := by omega
      have hn2 : (octs fb).length ≤ 6674 := by omega
      have HOK := Lib.hid hok
      clear hol hfl hfl2 hok
      obtain ⟨_, _, v1, hbk, hown, hne, _⟩ := HWR.out
      generalize octs fb = body at *
      obtain ⟨a1, c1, rfl, hca⟩ := own_cells hown
      obtain ⟨bv, ov, rfl⟩ := hca.addr (bys_ne (by omega))
      have p0 : wr.cell? ⟨w.heap.size + 1, 0, none⟩ = some (.slice (some ⟨bv, ov, none⟩) body.length c1) := by rw [Lib.cell_of_heap hbk]; rfl
      have hlt1 := heap_lt hbk
      have hlt2 := (hown.lt bv rfl).2
      have HBK := Lib.hid hbk; have HCA := Lib.hid hca; have HNE := Lib.hid hne
      have hba := (((Below.refl wr.heap.size wr).alloc (Nat.le_refl _) (.cells #[.int .u8 165, .int .u8 90] 5)).alloc (by simp) (.cells #[.slice (some ⟨wr.heap.size, 0, none⟩) 2 2, .int .i64 0] 167))
      have p1 := cell_keep p0 hba (Nat.le_refl _)
      have HPK := Lib.hid p0
      clear hbk hown hca hne HWR
      go_wp2_with fail
      have hw2 := WrS.lit wr
      clear p0 p1
      generalize ((wr.alloc (.cells #[.int .u8 165, .int .u8 90] 5)).alloc (.cells #[.slice (some ⟨wr.heap.size, 0, none⟩) 2 2, .int .i64 0] 167)) = wq at *
      refine (writer_put _ _ _ _ (body.length : Nat) 16 _ hw2 (by omega) (by omega) (by omega) (by rw [unB_length]; simp)).mono ?_
      rintro e w2 ⟨rfl, hw3, hk3⟩
      have hb3 := hba.trans hk3.below
      obtain ⟨_, hbits2, v2, hbk2, hown2, hne2, _⟩ := hw3
      have hoc : octs (unB [165, 90] ++ binL (body.length : Nat) 16) = [165, 90] ++ octs (binL (body.length : Nat) 16) := by
        rw [octs_append _ (by rw [unB_length]; rfl), octs_unB _ (by decide)]
      have hol := octs_len (binL (body.length : Nat) 16)
      rw [binL_length] at hol
      have hfr : freeOf (unB [165, 90] ++ binL (body.length : Nat) 16).length = 0 := by rw [List.length_append, unB_length, binL_length]; rfl
      rw [hoc] at hown2
      rw [hfr] at hbk2
      have hln : ([165, 90] ++ octs (binL (body.length : Nat) 16)).length = 4 := by rw [List.length_append, hol]; rfl
      rw [hln] at hown2
      have p2 := cell_keep HPK.out hb3 (Nat.le_refl _)
      have HC2 := Lib.hid hoc; have HLN := Lib.hid hln; have HBT := Lib.hid hbits2
      clear hoc hln hbits2 hol hfr hk3
      obtain ⟨g2, cg2, rfl, hg2, hg2l⟩ := hown2.form (by omega)
      have hne3 : g2 ≠ wr.heap.size + 1 := by simpa [Value.ownBlock] using hne2
      have q0 : w2.cell? ⟨wr.heap.size + 1, 0, none⟩ = some (.slice (some ⟨g2, 0, none⟩) 4 cg2) := by rw [Lib.cell_of_heap hbk2]; rfl
      have f0 : w2.frozen? ⟨wr.heap.size + 1, 0, none⟩ = false := Lib.frozen_of_heap hbk2 0
      have hl2 := heap_lt hbk2
      have hcb := HCA.out.below hb3 (Nat.le_refl _)
      have HCB := Lib.hid hcb; have HB2 := Lib.hid hbk2; have HO2 := Lib.hid hown2
      clear hne2 hcb hbk2 hown2 HNE HBK
      obtain ⟨i0, hi, hz0, hz1, hz2⟩ := info_parts Tryz.infoByte
      have hsz2 := hb3.size
      go_wp2
      have FA : ∀ (g : Nat) (wz : World), w2.drew.grownBy wz (some g2) → wz.frozen? ⟨wr.heap.size + 1, 0, none⟩ = false ∧ ∃ u, wz.cell? ⟨wr.heap.size + 1, 0, none⟩ = some u := fun g wz hg => by
        have e := hg.block (wr.heap.size + 1) hl2 (by simpa using Ne.symm hne3)
        have e2 := e.trans HB2.out
        exact ⟨Lib.frozen_of_heap e2 0, _, by rw [Lib.cell_of_heap e2]; rfl⟩
      replace FA := Lib.hid FA
      go_region_law (refine step_append_lies _ (by rfl) _ _ _ (by rfl) wr.heap.size 5 i0 _ 1 1 Tryz.underlying48 hi hz0 hz1 hz2 rfl (by omega) (.slice (some ⟨g2, 0, none⟩) 4 cg2) 4 _ (by rfl) (own_drewN HO2.out 1) ⟨bv, ov, none⟩ body.length c1 (bys body) (by rfl) (by simp [bys_length]) (fun j u hu => by rw [Addr.add_lit]; exact HCB.out.at hu) (by intro u hu; obtain ⟨d, _, rfl⟩ := List.mem_map.1 hu; rfl) (by omega) (by unfold maxLen; omega) (by omega) (by simp; omega) w2.heap.size (by simp) ?_; intro gg cp wz hown1 hgrow hat hlt1; obtain ⟨f9, u9, c9⟩ := FA.out gg wz hgrow)
      all_goals
        have hgne : gg ≠ wr.heap.size + 1 := by
          rcases hat with h | h
          · simp [Value.ownBlock] at h; omega
          · omega
        have hbz : wz.heap[wr.heap.size + 1]? = some (.cells #[.slice (some ⟨g2, 0, none⟩) 4 cg2, .int .i64 (0 : Nat)] 167 (0, 0)) := (hgrow.block (wr.heap.size + 1) hl2 (by simpa [Value.ownBlock] using Ne.symm hne3)).trans HB2.out
        have hbel : Below wr.heap.size wr wz := (hb3.drew).grown hgrow (by simpa using hsz2) (fun j e => by simp [Value.ownBlock] at e; omega)
        have hy1 := heap_set1 (u := .int .i64 0) (heap_set0 (u := .slice (some ⟨gg, 0, none⟩) (4 + body.length) cp) hbz)
        have hy2 := own_set_other (p := ⟨wr.heap.size + 1, 1, none⟩) (u := .int .i64 0) (own_set_other (p := ⟨wr.heap.size + 1, 0, none⟩) (u := .slice (some ⟨gg, 0, none⟩) (4 + body.length) cp) hown1 (by simpa [Value.ownBlock] using hgne)) (by simpa [Value.ownBlock] using hgne)
        have hy3 := (hbel.setCell (p := ⟨wr.heap.size + 1, 0, none⟩) (by simp) (.slice (some ⟨gg, 0, none⟩) (4 + body.length) cp)).setCell (p := ⟨wr.heap.size + 1, 1, none⟩) (by simp) (.int .i64 0)
        have f1 := Lib.frozen_of_heap hbz 1
        have c1' : ∃ u, wz.cell? ⟨wr.heap.size + 1, 1, none⟩ = some u := ⟨_, by rw [Lib.cell_of_heap hbz]; rfl⟩
        obtain ⟨_, c1'⟩ := c1'
        have HY1 := Lib.hid hy1; have HY2 := Lib.hid hy2; have HY3 := Lib.hid hy3
        clear hown1 hgrow hat hbz hbel hy1 hy2 hy3
        have hhd : bys ([165, 90] ++ octs (binL (body.length : Nat) 16)) ++ bys body = bys (hdB body) := by rw [hdB, bys_append (_ ++ _)]
        have hhl : (hdB body).length = 4 + body.length := by rw [hdB, List.length_append, HLN.out]
        have hhok : ∀ d ∈ hdB body, d < 256 := by
          intro d hd
          rcases List.mem_append.1 hd with h | h
          · have := (octs_ok (unB [165, 90] ++ binL (body.length : Nat) 16) HBT.out).1 d
            rw [HC2.out] at this
            exact this h
          · exact HOK.out d h
        have HHD := Lib.hid hhd; have HHL := Lib.hid hhl; have HHOK := Lib.hid hhok
        clear hhd hhl hhok
        go_wp2_with fail
        clear f1 f9 c9 c1'
        generalize ((wz.setCell ⟨wr.heap.size + 1, 0, none⟩ (.slice (some ⟨gg, 0, none⟩) (4 + body.length) cp)).setCell ⟨wr.heap.size + 1, 1, none⟩ (.int .i64 0)) = wx at *
        have hown4 := HY2.out
        rw [HHD.out] at hown4
        have hck := check_any (some ⟨gg, 0, none⟩) (hdB body) cp wx (by obtain ⟨a, c, h1, h2⟩ := own_cells hown4; simp at h1; rw [h1.1]; exact h2) HHOK.out (by rw [HHL.out]; omega)
        rw [HHL.out] at hck
        refine hck.mono ?_
        rintro e w4 ⟨rfl, rfl⟩
        clear hck
        go_wp2_with fail
        have hwx : WrS wr.heap.size (wr.heap.size + 1) (fun _ => False) wx (unB [165, 90] ++ binL (body.length : Nat) 16 ++ unB body) := by
          have ho : octs (unB [165, 90] ++ binL (body.length : Nat) 16 ++ unB body) = hdB body := by
            rw [octs_append _ (by rw [List.length_append, unB_length, binL_length]; rfl), HC2.out, octs_unB _ HOK.out]; rfl
          refine ⟨by omega, ?_, .slice (some ⟨gg, 0, none⟩) (4 + body.length) cp, ?_, ?_, by simpa [Value.ownBlock] using hgne, fun k h => h.elim⟩
          · intro b hb
            rcases List.mem_append.1 hb with h | h
            · exact HBT.out b h
            · exact unB_bits _ b h
          · have : freeOf (unB [165, 90] ++ binL (body.length : Nat) 16 ++ unB body).length = 0 := by
              unfold freeOf; rw [List.length_append, List.length_append, unB_length, unB_length, binL_length]; simp
            rw [this]; exact HY1.out
          · rw [ho, HHL.out]; exact hown4
        have hcl := chkL_lt (hdB body)
        have hpt := writer_put _ _ _ _ (chkL (hdB body) : Nat) 24 _ hwx (by omega) (by omega) (by omega) (by rw [List.length_append, List.length_append, unB_length, unB_length, binL_length]; simp <;> omega)
        have HPT := Lib.hid hpt
        clear hpt hwx hown4
        refine HPT.out.mono ?_
        rintro e w5 ⟨rfl, hw5, hk5⟩
        have hb5 := HY3.out.trans hk5.below
        obtain ⟨_, _, v5, hbk5, hown5, _, _⟩ := hw5
        have ho5 : octs (unB [165, 90] ++ binL (body.length : Nat) 16 ++ unB body ++ binL (chkL (hdB body) : Nat) 24) = eb := by
          rw [HENC.out, octs_append _ (by rw [List.length_append, List.length_append, unB_length, unB_length, binL_length]; simp <;> omega), octs_append _ (by rw [List.length_append, unB_length, binL_length]; rfl), HC2.out, octs_unB _ HOK.out]; rfl
        rw [ho5] at hown5
        have q5 : w5.cell? ⟨wr.heap.size + 1, 0, none⟩ = some v5 := by rw [Lib.cell_of_heap hbk5]; rfl
        have HO5 := Lib.hid (own_base hown5 (show w.heap.size ≤ wr.heap.size by omega))
        have hfin := hbw.trans (hb5.mono hbw.size)
        clear hbk5 hown5 ho5 hk5
        go_wp2_with fail
        go_ret
        exact ⟨⟨v5, rfl, by rw [← HEB.out]; exact HO5.out⟩, hfin⟩
end Go.Proofs.YtoochleabcjljaaGreatDoor

/- Codes: Encode. -/
namespace Go.Proofs.YtoochleabcjljaaGreatDoor
open Go.RowKit

theorem frTo_get {bs : List Chan} {xss : List (List Int)} {n : Nat} (h : frTo bs xss n = true) {i : Nat} {c : Chan} {xs : List Int} (hi : i < n) (hc : bs[i]? = some c) (hx : xss[i]? = some xs) : smpOK c xs = true := by
  induction n with
  | zero => omega
  | succ n ih =>
    simp only [frTo, Bool.and_eq_true] at h
    by_cases hin : i < n
    · exact ih h.1 hin
    · obtain rfl : i = n := by omega
      have := h.2
      rw [hc, hx] at this
      exact this
theorem frmErr_zero {bs : List Chan} {st : Int} {xss : List (List Int)} (h : frmErr bs st xss = 0) : bookOK bs = true ∧ bs.length ≤ 16 ∧ xss.length = bs.length ∧ 0 ≤ st ∧ st ≤ 1073741824 ∧ (∀ xs ∈ xss, xs.length ≤ 64) ∧ ∀ xs ∈ xss, ∀ x ∈ xs, -8388608 ≤ x ∧ x ≤ 8388608 := by
  unfold frmErr at h
  split at h
  · contradiction
  · rename_i hb
    have hb : bookErr bs = 0 := by simpa using hb
    have hk := bookErr_zero hb
    split at h
    · rename_i hf
      simp only [frOK, Bool.and_eq_true, decide_eq_true_eq] at hf
      obtain ⟨h1, h2, h3⟩ := hf
      have hk2 := hk
      simp only [bookOK, inB, Bool.and_eq_true, decide_eq_true_eq] at hk2
      simp only [inB, decide_eq_true_eq] at h1
      have key : ∀ xs ∈ xss, ∃ c, (1 ≤ c.rate ∧ c.rate ≤ 64 ∧ 2 ≤ c.bits ∧ c.bits ≤ 24) ∧ smpOK c xs = true := by
        intro xs hxs
        obtain ⟨i, hi, hx⟩ := List.mem_iff_getElem.1 hxs
        obtain ⟨c, hc⟩ := get_of_lt (show i < bs.length by omega)
        exact ⟨c, book_get hk hc, frTo_get h3 (by omega) hc (by rw [List.getElem?_eq_getElem hi, hx])⟩
      refine ⟨hk, by omega, h2, h1.1, h1.2, fun xs hxs => ?_, fun xs hxs x hx => ?_⟩
      · obtain ⟨c, hc, hs⟩ := key xs hxs
        simp only [smpOK, Bool.and_eq_true, decide_eq_true_eq] at hs
        omega
      · obtain ⟨c, hc, hs⟩ := key xs hxs
        simp only [smpOK, Bool.and_eq_true] at hs
        have h4 := hs.2
        obtain ⟨m1, m2, _⟩ := most_bd hc.2.2.1 hc.2.2.2
        rw [Bool.not_eq_true'] at h4
        have h5 := List.any_eq_false.1 h4 x hx
        simp [inB] at h5
        omega
    · contradiction
def encRes (bs : List Chan) (st : Int) (xss : List (List Int)) : List Nat := if frmErr bs st xss = 0 then encB st xss else []

set_option maxRecDepth 100000 in
theorem Encode_any (ao : Option Addr) (bs : List Chan) (cap : Nat) (st : Int) (asm : Option Addr) (vs : List Value) (xss : List (List Int)) (cs : Nat) (w : World) (hb : BookIn w ao bs cap) (hs : Cells w asm vs) (hr : RowsV w vs xss) (hls : xss.length ≤ 9223372036854775807) :
    Calls Tryz.prog 30 #[.slice ao bs.length cap, .agg #[.int .i64 st, .slice asm xss.length cs]] w fun e w' => (∃ v, e = .returned (.tuple #[v, .int .i64 (frmErr bs st xss)]) ∧ w'.ownsRow w.heap.size 5 1 v (encRes bs st xss).length (bys (encRes bs st xss))) ∧ Below w.heap.size w w' := by
  have HB := Lib.hid hb; have HS := Lib.hid hs; have HR := Lib.hid hr
  have hlen := hb.len
  clear hs hr hb
  have hck := fun wx h1 h2 h3 => checkFrame_any ao bs cap st asm vs xss cs wx h1 h2 h3 hls
  have HCK := Lib.hid hck; clear hck
  by_cases h1 : frmErr bs st xss = 0
  · have he : encRes bs st xss = encB st xss := by rw [encRes, if_pos h1]
    obtain ⟨_, z1, z2, z3, z4, z5, z6⟩ := frmErr_zero h1
    have hen := fun wx h1 h2 => encode_any ao bs.length cap st asm vs xss cs wx z1 z2 h1 h2 z3 z4 z5 z6
    rw [z2] at HCK ⊢
    have HEN := Lib.hid hen; have HE := Lib.hid he; have H1 := Lib.hid h1
    clear hen he h1 z1 z2 z3 z4 z5 z6 hls
    go_enter Tryz.func30, Tryz.ntmps30
    go_wp2_with fail
    have hb0 := (Below.refl w.heap.size w).alloc (Nat.le_refl _) (.cells #[.int .i64 st, .slice asm bs.length cs] 43)
    refine (HCK.out _ (HB.out.below hb0 (Nat.le_refl _)) (HS.out.below hb0 (Nat.le_refl _)) (HR.out.below hb0 (Nat.le_refl _))).mono ?_
    rintro e w1 ⟨rfl, hb1⟩
    rw [H1.out]
    have q0 : w1.cell? ⟨w.heap.size, 0, none⟩ = some (.int .i64 st) := box_keep hb1 (by simp) 0
    have q1 : w1.cell? ⟨w.heap.size, 1, none⟩ = some (.slice asm bs.length cs) := box_keep hb1 (by simp) 1
    have hbw := hb0.trans (hb1.mono (by simp))
    go_wp2_with fail
    refine (HEN.out _ (HS.out.below hbw (Nat.le_refl _)) (HR.out.below hbw (Nat.le_refl _))).mono ?_
    rintro e w2 ⟨⟨v, rfl, hown⟩, hb2⟩
    have HO := Lib.hid (own_base hown hbw.size)
    have hfin := hbw.trans (hb2.mono hbw.size)
    clear hown hb0 hb1 hbw hb2
    go_wp2
    go_ret2
    exact ⟨⟨v, by rw [H1.out]; rfl, by rw [HE.out]; exact HO.out⟩, hfin⟩
  · have he : encRes bs st xss = [] := by rw [encRes, if_neg h1]
    have h3 : (frmErr bs st xss != 0) = true := by simpa using h1
    have h4 : (frmErr bs st xss == 0) = false := by simpa using h1
    have HE := Lib.hid he; clear he
    go_enter Tryz.func30, Tryz.ntmps30
    go_wp2_with fail
    have hb0 := (Below.refl w.heap.size w).alloc (Nat.le_refl _) (.cells #[.int .i64 st, .slice asm xss.length cs] 43)
    refine (HCK.out _ (HB.out.below hb0 (Nat.le_refl _)) (HS.out.below hb0 (Nat.le_refl _)) (HR.out.below hb0 (Nat.le_refl _))).mono ?_
    rintro e w1 ⟨rfl, hb1⟩
    have hbw := hb0.trans (hb1.mono (by simp))
    go_wp2
    go_ret2
    exact ⟨⟨_, rfl, by rw [HE.out]; exact World.ownsRow_nil _ _ _ _⟩, hbw⟩
end Go.Proofs.YtoochleabcjljaaGreatDoor

/- Codes of the chapter: bits and bytes in plain words. -/
namespace Go.Proofs.YtoochleabcjljaaGreatDoor
open Go.RowKit

/-- bits as numbers, cell by cell -/
def bts (l : List Nat) : List Value := l.map fun b => Value.int .i64 (b : Nat)
theorem bts_length (l : List Nat) : (bts l).length = l.length := by simp [bts]
theorem bts_append (a b : List Nat) : bts (a ++ b) = bts a ++ bts b := by simp [bts]
theorem bts_get {l : List Nat} {i b : Nat} (h : l[i]? = some b) : (bts l)[i]? = some (.int .i64 (b : Nat)) := by simp [bts, h]
theorem bts_ne {l : List Nat} (h : 0 < l.length) : bts l ≠ [] := by
  intro e; have := bts_length l; rw [e] at this; simp at this; omega

/-- ones and a zero -/
theorem ones_bin : ∀ q : Fin 20, binL (2 ^ (q.val + 1) - 2) (q.val + 1) = List.replicate q.val 1 ++ [0] := by decide +kernel
theorem ones20 : binL 1048575 20 = List.replicate 20 1 := by decide +kernel
theorem encU_lt {u : Int} {sh q : Nat} (h0 : u / 2 ^ sh = q) (h : q < 20) : encU u sh = List.replicate q 1 ++ 0 :: binL u sh := by
  have h1 := ones_bin ⟨q, h⟩
  unfold encU
  rw [h0, if_pos (by omega), Int.toNat_natCast, h1, List.append_assoc]; rfl
theorem encU_ge {u : Int} {sh : Nat} (h : ¬ u / 2 ^ sh < 20) : encU u sh = List.replicate 20 1 ++ binL u 32 := by
  unfold encU
  rw [if_neg h, ones20]

theorem bin_step (n : Int) {k m : Nat} (h0 : 0 < m) (h : m ≤ k) : (binL n k).take (k - (m - 1)) = (binL n k).take (k - m) ++ [(n / 2 ^ (m - 1) % 2).toNat] := by
  have h1 := binL_get n k (m - 1) (by omega)
  have e1 : k - 1 - (m - 1) = k - m := by omega
  have e2 : k - (m - 1) = (k - m) + 1 := by omega
  rw [e1] at h1
  rw [e2, take_get h1]

/-- eight bits as a number, with bits 0 behind them -/
def padP (b : List Nat) : Nat → Nat
  | 0 => 0
  | j + 1 => 2 * padP b j + b.getD j 0
theorem padP_lt {b : List Nat} (h : ∀ x ∈ b, x ≤ 1) (j : Nat) : padP b j < 2 ^ j := by
  induction j with
  | zero => simp [padP]
  | succ j ih =>
    have hg : b.getD j 0 ≤ 1 := by
      rw [List.getD_eq_getElem?_getD]
      cases hb : b[j]? with
      | none => simp
      | some x => simpa using h x (List.mem_of_getElem? hb)
    rw [padP, Nat.pow_succ]; omega
theorem padP_take (b : List Nat) (n j : Nat) (h : j ≤ n) : padP (b.take n) j = padP b j := by
  induction j with
  | zero => rfl
  | succ j ih =>
    rw [padP, padP, ih (by omega), List.getD_eq_getElem?_getD, List.getD_eq_getElem?_getD, List.getElem?_take, if_pos (by omega)]
theorem octs_short : ∀ b : List Nat, 1 ≤ b.length → b.length ≤ 8 → octs b = [padP b 8]
  | [], h, _ => by simp at h
  | [_], _, _ => by simp [octs, octsP, pushBit, padP]; omega
  | [_, _], _, _ => by simp [octs, octsP, pushBit, padP]; omega
  | [_, _, _], _, _ => by simp [octs, octsP, pushBit, padP]; omega
  | [_, _, _, _], _, _ => by simp [octs, octsP, pushBit, padP]; omega
  | [_, _, _, _, _], _, _ => by simp [octs, octsP, pushBit, padP]; omega
  | [_, _, _, _, _, _], _, _ => by simp [octs, octsP, pushBit, padP]; omega
  | [_, _, _, _, _, _, _], _, _ => by simp [octs, octsP, pushBit, padP]; omega
  | [_, _, _, _, _, _, _, _], _, _ => by simp [octs, octsP, pushBit, padP]; omega
  | _ :: _ :: _ :: _ :: _ :: _ :: _ :: _ :: _ :: _, _, h => by simp at h
theorem octs_take {l : List Nat} {i : Nat} (hi : i < l.length) (h8 : i % 8 = 0) : octs (l.take (i + 8)) = octs (l.take i) ++ [padP (l.drop i) 8] := by
  rw [List.take_add, octs_append _ (by rw [List.length_take, Nat.min_eq_left (by omega)]; exact h8), octs_short ((l.drop i).take 8) (by simp; omega) (by simp; omega), padP_take _ _ _ (Nat.le_refl _)]

/-- the best way, asked at each of them alike -/
def step2 (xs : List Int) (b : (Nat × Nat) × Nat) (x : Way) : (Nat × Nat) × Nat := if cost xs x.1.1 x.1.2 < b.2 then (x.1, cost xs x.1.1 x.1.2) else b
def chF (xs : List Int) (k : Nat) : (Nat × Nat) × Nat := (wvs k).foldl (step2 xs) ((0, 0), cost xs 0 0)
theorem chF_zero (xs : List Int) : chF xs 0 = ((0, 0), cost xs 0 0) := rfl
theorem chF_succ (xs : List Int) (k : Nat) : chF xs (k + 1) = step2 xs (chF xs k) (wy k) := by simp [chF, wvs_succ]
theorem wy_ne {k : Nat} (h0 : 1 ≤ k) (h : k < 124) : (wy k).1 ≠ (0, 0) := by
  simp only [wy, Ne, Prod.mk.injEq]; omega
theorem wy_at {o s : Nat} (ho : o < 4) (hs : s < 31) : (wy (31 * o + s)).1 = (o, s) := by
  simp only [wy, Prod.mk.injEq]; omega
theorem chF_cost (xs : List Int) (k : Nat) : (chF xs k).2 = cost xs (chF xs k).1.1 (chF xs k).1.2 := by
  induction k with
  | zero => rfl
  | succ k ih =>
    rw [chF_succ]; unfold step2
    split
    · rfl
    · exact ih
theorem bestF_chF (xs : List Int) (k : Nat) (h : k + 1 ≤ 124) : bestF xs (wvs (k + 1)) = chF xs (k + 1) := by
  induction k with
  | zero =>
    rw [chF_succ, chF_zero, wvs_succ, bestF_snoc]
    have e : bestF xs (wvs 0) = ((0, 0), 0) := rfl
    have w0 : (wy 0).1 = (0, 0) := rfl
    rw [e]
    unfold stepB step2
    rw [w0]; simp
  | succ k ih =>
    rw [chF_succ, wvs_succ, bestF_snoc, ih (by omega)]
    unfold stepB step2
    have := wy_ne (k := k + 1) (by omega) (by omega)
    simp only [this, false_or]
theorem chF_bd (xs : List Int) (k : Nat) : (chF xs k).1.1 ≤ 3 ∧ (chF xs k).1.2 ≤ 30 := by
  induction k with
  | zero => rw [chF_zero]; simp
  | succ k ih =>
    rw [chF_succ]; unfold step2
    split
    · exact way_bd _
    · exact ih
theorem wayOf_chF (xs : List Int) : wayOf xs = (chF xs 124).1 := by
  unfold wayOf
  rw [show (124 : Nat) = 123 + 1 from rfl, bestF_chF xs 123 (by omega)]
/-- the bits of the best way so far -/
def encK (xs : List Int) (k : Nat) : List Nat := encL (chF xs k).1.1 (chF xs k).1.2 (resid xs (chF xs k).1.1)
theorem encK_length (xs : List Int) (k : Nat) : (encK xs k).length = (chF xs k).2 := (chF_cost xs k).symm
theorem encK_zero (xs : List Int) : encK xs 0 = encL 0 0 (resid xs 0) := rfl
theorem encK_lt (xs : List Int) {o s : Nat} (ho : o < 4) (hs : s < 31) (h : (encL o s (resid xs o)).length < (encK xs (31 * o + s)).length) : encK xs (31 * o + s + 1) = encL o s (resid xs o) := by
  have h1 := wy_at ho hs
  have h2 : chF xs (31 * o + s + 1) = ((o, s), cost xs o s) := by
    rw [chF_succ]; unfold step2
    rw [h1, if_pos (by rw [← encK_length]; exact h)]
  unfold encK; rw [h2]
theorem encK_ge (xs : List Int) {o s : Nat} (ho : o < 4) (hs : s < 31) (h : ¬ (encL o s (resid xs o)).length < (encK xs (31 * o + s)).length) : encK xs (31 * o + s + 1) = encK xs (31 * o + s) := by
  have h1 := wy_at ho hs
  have h2 : chF xs (31 * o + s + 1) = chF xs (31 * o + s) := by
    rw [chF_succ]; unfold step2
    rw [h1, if_neg (by rw [← encK_length]; exact h)]
  unfold encK; rw [h2]
theorem encK_all (xs : List Int) : encK xs 124 = encC xs := by
  unfold encK encC; rw [wayOf_chF]
theorem encK_le (xs : List Int) (k : Nat) : (encK xs k).length ≤ 7 + 52 * xs.length := cost_le xs _ _ (chF_bd xs k).2
end Go.Proofs.YtoochleabcjljaaGreatDoor

/- Codes: what a code is read as, in plain words. -/
namespace Go.Proofs.YtoochleabcjljaaGreatDoor
open Go.RowKit

/-- bits as a number, the highest one first -/
def valB (l : List Nat) : Nat := l.foldl (fun n b => 2 * n + b) 0
theorem valB_snoc (l : List Nat) (b : Nat) : valB (l ++ [b]) = 2 * valB l + b := by simp [valB]
theorem valB_nil : valB [] = 0 := rfl
theorem binN (n k : Nat) : binL (n : Int) (k + 1) = (n / 2 ^ k % 2) :: binL (n : Int) k := by
  have h : ((n : Int) / 2 ^ k % 2).toNat = n / 2 ^ k % 2 := by
    have : ((n / 2 ^ k % 2 : Nat) : Int) = (n : Int) / 2 ^ k % 2 := by simp
    omega
  rw [binL, h]
theorem binN_snoc (n k : Nat) : binL (n : Int) (k + 1) = binL ((n / 2 : Nat) : Int) k ++ [n % 2] := by
  induction k with
  | zero => rw [binN]; simp [binL]
  | succ k ih =>
    rw [binN, ih, binN (n / 2) k, List.cons_append, Nat.div_div_eq_div_mul, Nat.pow_succ, Nat.mul_comm 2]
theorem valB_bin (n k : Nat) : valB (binL (n : Int) k) = n % 2 ^ k := by
  induction k generalizing n with
  | zero => simp [binL, valB, Nat.mod_one]
  | succ k ih =>
    rw [binN_snoc, valB_snoc, ih, Nat.pow_succ, Nat.mul_comm (2 ^ k), Nat.mod_mul]
    omega
theorem valB_lt {l : List Nat} (h : ∀ b ∈ l, b ≤ 1) : valB l < 2 ^ l.length := by
  suffices ∀ n (l : List Nat), l.length = n → (∀ b ∈ l, b ≤ 1) → valB l < 2 ^ n from this _ l rfl h
  intro n
  induction n with
  | zero => intro l hl _; rw [List.length_eq_zero_iff.1 hl]; simp [valB]
  | succ n ih =>
    intro l hl hb
    obtain ⟨l', b, rfl⟩ : ∃ l' b, l = l' ++ [b] := by
      rcases List.eq_nil_or_concat l with rfl | ⟨l', b, rfl⟩
      · simp at hl
      · exact ⟨l', b, by simp⟩
    simp at hl
    have h1 := ih l' hl (fun x hx => hb x (by simp [hx]))
    have h2 : b ≤ 1 := hb b (by simp)
    rw [valB_snoc, Nat.pow_succ]; omega

/-- so many bits, as a number; false: there are not so many -/
def takeR (r : List Nat) (k : Nat) : (Nat × Bool) × List Nat := if k ≤ r.length then ((valB (r.take k), true), r.drop k) else ((0, false), [])
theorem takeR_bin (n k : Nat) (r : List Nat) : takeR (binL (n : Int) k ++ r) k = ((n % 2 ^ k, true), r) := by
  have hl := binL_length (n : Int) k
  unfold takeR
  rw [if_pos (by rw [List.length_append]; omega), List.take_append_of_le_length (by omega), List.take_of_length_le (by omega), valB_bin, List.drop_append_of_le_length (by omega), List.drop_eq_nil_of_le (by omega), List.nil_append]
theorem takeR_bd {r : List Nat} (h : ∀ b ∈ r, b ≤ 1) (k : Nat) : (takeR r k).1.1 < 2 ^ k ∧ ∀ b ∈ (takeR r k).2, b ≤ 1 := by
  unfold takeR
  split
  · rename_i hk
    have := valB_lt (l := r.take k) (fun b hb => h b (List.mem_of_mem_take hb))
    rw [List.length_take, Nat.min_eq_left hk] at this
    exact ⟨this, fun b hb => h b (List.mem_of_mem_drop hb)⟩
  · exact ⟨Nat.pow_pos (by decide), fun b hb => by simp at hb⟩

/-- a folded value; so many bits 1 may still come -/
def valueR (sh : Nat) : Nat → List Nat → (Nat × Bool) × List Nat
  | 0, r => takeR r 32
  | _ + 1, [] => ((0, false), [])
  | f + 1, b :: r => if b = 0 then (((20 - (f + 1)) * 2 ^ sh + (takeR r sh).1.1, (takeR r sh).1.2), (takeR r sh).2) else valueR sh f r
theorem valueR_ones (sh f q : Nat) (s : List Nat) : valueR sh (f + q) (List.replicate q 1 ++ s) = valueR sh f s := by
  induction q generalizing s with
  | zero => simp
  | succ q ih =>
    rw [List.replicate_succ, List.cons_append, ← Nat.add_assoc, valueR, if_neg (by decide), ih]
theorem valueR_enc {u sh : Nat} (hu : u < 4294967296) (r : List Nat) : valueR sh 20 (encU (u : Int) sh ++ r) = ((u, true), r) := by
  by_cases h : u / 2 ^ sh < 20
  · have h0 : (u : Int) / 2 ^ sh = ((u / 2 ^ sh : Nat) : Int) := by simp
    rw [encU_lt h0 h]
    generalize hq : u / 2 ^ sh = q at *
    obtain ⟨f, hf⟩ : ∃ f, 20 = f + 1 + q := ⟨19 - q, by omega⟩
    rw [List.append_assoc]
    conv => lhs; rw [hf]
    rw [valueR_ones, List.cons_append, valueR, if_pos rfl, takeR_bin]
    have e : 20 - (f + 1) = q := by omega
    have := Nat.div_add_mod u (2 ^ sh)
    rw [hq, Nat.mul_comm] at this
    simp only [e, this]
  · have h0 : ¬ (u : Int) / 2 ^ sh < 20 := by
      have : (u : Int) / 2 ^ sh = ((u / 2 ^ sh : Nat) : Int) := by simp
      rw [this]; omega
    rw [encU_ge h0, List.append_assoc]
    have h1 := valueR_ones sh 0 20 (binL (u : Int) 32 ++ r)
    rw [Nat.zero_add] at h1
    rw [h1, valueR, takeR_bin, Nat.mod_eq_of_lt (by omega)]
theorem valueR_bd {sh : Nat} (hs : sh ≤ 30) : ∀ (f : Nat) {r : List Nat}, f ≤ 20 → (∀ b ∈ r, b ≤ 1) → (valueR sh f r).1.1 ≤ 25769803776 ∧ ∀ b ∈ (valueR sh f r).2, b ≤ 1
  | 0, r, _, h => by
    have := takeR_bd h 32
    rw [valueR]; exact ⟨by omega, this.2⟩
  | f + 1, [], _, h => by rw [valueR]; simp
  | f + 1, b :: r, hf, h => by
    have hr : ∀ b ∈ r, b ≤ 1 := fun x hx => h x (by simp [hx])
    rw [valueR]
    split
    · have h1 := takeR_bd hr sh
      have h2 : (2 : Nat) ^ sh ≤ 2 ^ 30 := Nat.pow_le_pow_right (by decide) hs
      have h3 : (20 - (f + 1)) * 2 ^ sh ≤ 20 * 2 ^ 30 := Nat.mul_le_mul (by omega) h2
      exact ⟨by simp only; omega, h1.2⟩
    · exact valueR_bd hs f (by omega) hr

/-- the residue of a folded value -/
def unfU (u : Nat) : Int := if u % 2 = 1 then -(((u : Int) + 1) / 2) else (u : Int) / 2
theorem unfU_fold (r : Int) : unfU (foldU r).toNat = r := by
  unfold unfU foldU
  split <;> split at * <;> omega
theorem unfU_bd {u : Nat} (h : u ≤ 25769803776) : -12884901889 ≤ unfU u ∧ unfU u ≤ 12884901889 := by
  unfold unfU; split <;> omega

/-- so many residues behind those that are read -/
def rowR (sh : Nat) : Nat → List Nat → List Int → Option (List Int × List Nat)
  | 0, r, acc => some (acc, r)
  | n + 1, r, acc => if (valueR sh 20 r).1.2 then rowR sh n (valueR sh 20 r).2 (acc ++ [unfU (valueR sh 20 r).1.1]) else none
theorem rowR_enc (sh : Nat) (l : List Int) (h : ∀ x ∈ l, -67108864 ≤ x ∧ x ≤ 67108864) (r : List Nat) (acc : List Int) : rowR sh l.length ((l.flatMap fun x => encU (foldU x) sh) ++ r) acc = some (acc ++ l, r) := by
  induction l generalizing acc with
  | nil => simp [rowR]
  | cons x l ih =>
    have hx := foldU_bd (h x (by simp)).1 (h x (by simp)).2
    obtain ⟨u, hu⟩ := Int.eq_ofNat_of_zero_le hx.1
    have h1 := valueR_enc (u := u) (sh := sh) (by omega) ((l.flatMap fun x => encU (foldU x) sh) ++ r)
    have h2 := unfU_fold x
    rw [hu] at h2
    rw [List.length_cons, List.flatMap_cons, List.append_assoc, hu, rowR, h1]
    simp only [if_true]
    rw [Int.toNat_natCast] at h2
    rw [h2, ih (fun y hy => h y (by simp [hy]))]
    simp

/-- running sums -/
def psum (xs : List Int) : List Int := (List.range xs.length).map fun i => (xs.take (i + 1)).sum
theorem psum_length (xs : List Int) : (psum xs).length = xs.length := by simp [psum]
theorem psum_get {xs : List Int} {i : Nat} (h : i < xs.length) : (psum xs)[i]? = some (xs.take (i + 1)).sum := by simp [psum, h]
theorem sum_snoc {xs : List Int} {i : Nat} {x : Int} (h : xs[i]? = some x) : (xs.take (i + 1)).sum = (xs.take i).sum + x := by
  rw [take_get h, List.sum_append]; simp
theorem diffs_sum (xs : List Int) (i : Nat) (h : i < xs.length) : ((diffs xs).take (i + 1)).sum = xs.getD i 0 := by
  induction i with
  | zero =>
    rw [sum_snoc (diffs_get h)]; simp
  | succ i ih =>
    rw [sum_snoc (diffs_get h), ih (by omega), if_neg (by omega), Nat.add_sub_cancel]; omega
theorem psum_diffs (xs : List Int) : psum (diffs xs) = xs := by
  apply List.ext_getElem?
  intro i
  by_cases h : i < xs.length
  · rw [psum_get (by rw [diffs_length]; exact h), diffs_sum xs i h, List.getD_eq_getElem?_getD, List.getElem?_eq_getElem h]; rfl
  · rw [List.getElem?_eq_none (by rw [psum_length, diffs_length]; omega), List.getElem?_eq_none (by omega)]
def sumsR (l : List Int) : Nat → List Int
  | 0 => l
  | o + 1 => psum (sumsR l o)
theorem sumsR_length (l : List Int) (o : Nat) : (sumsR l o).length = l.length := by
  induction o with
  | zero => rfl
  | succ o ih => rw [sumsR, psum_length, ih]
theorem sumsR_comm (l : List Int) (o : Nat) : psum (sumsR l o) = sumsR (psum l) o := by
  induction o with
  | zero => rfl
  | succ o ih => rw [sumsR, ih]; rfl
theorem sumsR_resid (x : List Int) (o : Nat) : sumsR (resid x o) o = x := by
  induction o with
  | zero => rfl
  | succ o ih => rw [resid, sumsR, sumsR_comm, psum_diffs, ih]
theorem sum_bd {M : Int} (_hM : 0 ≤ M) {l : List Int} (h : ∀ x ∈ l, -M ≤ x ∧ x ≤ M) : -(M * l.length) ≤ l.sum ∧ l.sum ≤ M * l.length := by
  induction l with
  | nil => simp
  | cons x l ih =>
    have h1 := h x (by simp)
    have h2 := ih (fun y hy => h y (by simp [hy]))
    rw [List.sum_cons, List.length_cons]
    have e : M * ((l.length + 1 : Nat) : Int) = M * l.length + M := by rw [Int.natCast_add, Int.mul_add]; simp
    rw [e]; omega
theorem psum_bd {M : Int} (hM : 0 ≤ M) {l : List Int} (hl : l.length ≤ 64) (h : ∀ x ∈ l, -M ≤ x ∧ x ≤ M) : ∀ x ∈ psum l, -(M * 64) ≤ x ∧ x ≤ M * 64 := by
  intro x hx
  simp only [psum, List.mem_map, List.mem_range] at hx
  obtain ⟨i, hi, rfl⟩ := hx
  have h1 := sum_bd hM (l := l.take (i + 1)) (fun y hy => h y (List.mem_of_mem_take hy))
  have h2 : M * ((l.take (i + 1)).length : Int) ≤ M * 64 := Int.mul_le_mul_of_nonneg_left (by rw [List.length_take]; omega) hM
  omega
theorem sumsR_bd {l : List Int} (hl : l.length ≤ 64) (h : ∀ x ∈ l, -12884901889 ≤ x ∧ x ≤ 12884901889) (o : Nat) (ho : o ≤ 3) : ∀ x ∈ sumsR l o, -3377699720790016 ≤ x ∧ x ≤ 3377699720790016 := by
  have h1 := psum_bd (M := 12884901889) (by omega) hl h
  have h2 := psum_bd (M := 12884901889 * 64) (by omega) (by rw [psum_length]; exact hl) h1
  have h3 := psum_bd (M := 12884901889 * 64 * 64) (by omega) (by rw [psum_length, psum_length]; exact hl) h2
  match o, ho with
  | 0, _ => intro x hx; have := h x hx; omega
  | 1, _ => intro x hx; have := h1 x hx; omega
  | 2, _ => intro x hx; have := h2 x hx; omega
  | 3, _ => intro x hx; have := h3 x hx; omega
/-- a round of the sums -/
theorem psum_step {xs : List Int} {k : Nat} {x y : Int} (hx : xs[k + 1]? = some x) (hy : (psum xs)[k]? = some y) :
    ((psum xs).take (k + 1) ++ xs.drop (k + 1)).set (k + 1) (x + y) = (psum xs).take (k + 2) ++ xs.drop (k + 2) := by
  have hl := (List.getElem?_eq_some_iff.1 hx).1
  have h1 := psum_get hl
  have h2 := psum_get (show k < xs.length by omega)
  rw [sum_snoc hx] at h1
  rw [hy] at h2
  have e : y = (xs.take (k + 1)).sum := by simpa using h2
  rw [← e] at h1
  rw [List.set_append_right _ _ (by rw [List.length_take]; omega), show (k + 1) - ((psum xs).take (k + 1)).length = 0 from by rw [List.length_take, psum_length]; omega, List.drop_eq_getElem_cons hl, List.set_cons_zero, take_get h1, List.append_assoc, Int.add_comm x y]; rfl

/-- the samples of a channel with so many -/
def readR (many : Nat) (r : List Nat) : Option (List Int × List Nat) :=
  if (takeR (takeR r 2).2 5).1.2 = true ∧ (takeR (takeR r 2).2 5).1.1 ≤ 30 then (rowR (takeR (takeR r 2).2 5).1.1 many (takeR (takeR r 2).2 5).2 []).map fun p => (sumsR p.1 (takeR r 2).1.1, p.2) else none
theorem readR_enc {x : List Int} (hx : ∀ v ∈ x, -8388608 ≤ v ∧ v ≤ 8388608) (r : List Nat) : readR x.length (encC x ++ r) = some (x, r) := by
  obtain ⟨h1, h2⟩ := wayOf_bd x
  unfold encC encL
  generalize (wayOf x).1 = o at *
  generalize (wayOf x).2 = s at *
  have e1 := takeR_bin o 2 (binL (s : Int) 5 ++ ((resid x o).flatMap fun r => encU (foldU r) s) ++ r)
  have e2 := takeR_bin s 5 (((resid x o).flatMap fun r => encU (foldU r) s) ++ r)
  rw [Nat.mod_eq_of_lt (by omega)] at e1 e2
  have e3 := rowR_enc s (resid x o) (resid_bd hx o h1) r []
  rw [resid_length, List.nil_append] at e3
  unfold readR
  simp only [List.append_assoc] at *
  rw [e1]
  simp only [e2]
  rw [if_pos ⟨trivial, h2⟩, e3, Option.map_some, sumsR_resid]

/-- the channels of a book -/
def chR : List Chan → List Nat → List (List Int) → Option (List (List Int))
  | [], _, acc => some acc
  | c :: bs, r, acc => match readR c.rate.toNat r with | some (x, r') => chR bs r' (acc ++ [x]) | none => none
theorem chR_enc (bs : List Chan) : ∀ (xss : List (List Int)) (acc : List (List Int)) (r : List Nat), xss.length = bs.length → (∀ (i : Nat) c xs, bs[i]? = some c → xss[i]? = some xs → c.rate = xs.length ∧ ∀ v ∈ xs, -8388608 ≤ v ∧ v ≤ 8388608) → chR bs (xss.flatMap encC ++ r) acc = some (acc ++ xss) := by
  induction bs with
  | nil => intro xss acc r hl _; rw [List.length_eq_zero_iff.1 hl]; simp [chR]
  | cons c bs ih =>
    intro xss acc r hl h
    match xss, hl with
    | x :: xss, hl =>
      obtain ⟨h1, h2⟩ := h 0 c x rfl rfl
      rw [chR, List.flatMap_cons, List.append_assoc, h1, Int.toNat_natCast, readR_enc h2]
      simp only
      rw [ih xss _ r (by simpa using hl) (fun i c' xs' hc hx => h (i + 1) c' xs' (by simpa using hc) (by simpa using hx))]
      simp

/-- where a code ends that begins so -/
def endR (l : List Nat) : Nat := 4 + (l.getD 2 0) * 256 + l.getD 3 0 + 3
def rowsR (bs : List Chan) (l : List Nat) : Option (List (List Int)) := if (takeR (unB ((l.take (endR l - 3)).drop 4)) 32).1.2 then chR bs (takeR (unB ((l.take (endR l - 3)).drop 4)) 32).2 [] else none
def startR (l : List Nat) : Nat := (takeR (unB ((l.take (endR l - 3)).drop 4)) 32).1.1
/-- the frame with whose code bytes begin, and how many bytes that has -/
def firstR (bs : List Chan) (l : List Nat) : Option ((Int × List (List Int)) × Nat) :=
  if 7 ≤ l.length ∧ l.getD 0 0 = 165 ∧ l.getD 1 0 = 90 ∧ endR l ≤ l.length then
    match rowsR bs l with
    | none => none
    | some xss => if frOK bs (startR l : Nat) xss && decide (encB (startR l : Nat) xss = l.take (endR l)) then some (((startR l : Nat), xss), endR l) else none
  else none
theorem firstR_sound {bs : List Chan} {l : List Nat} {st : Int} {xss : List (List Int)} {n : Nat} (h : firstR bs l = some ((st, xss), n)) : frOK bs st xss = true ∧ encB st xss = l.take n ∧ n ≤ l.length ∧ (encB st xss).length = n ∧ 7 ≤ n := by
  unfold firstR at h
  split at h
  · rename_i h0
    split at h
    · contradiction
    · split at h
      · rename_i h1
        simp only [Option.some.injEq, Prod.mk.injEq] at h
        obtain ⟨⟨rfl, rfl⟩, rfl⟩ := h
        simp only [Bool.and_eq_true, decide_eq_true_eq] at h1
        refine ⟨h1.1, h1.2, h0.2.2.2, ?_, by unfold endR; omega⟩
        rw [h1.2, List.length_take]; have := h0.2.2.2; omega
      · contradiction
  · contradiction

/-- the bits of bytes -/
theorem unB_cons (b : Nat) (l : List Nat) : unB (b :: l) = binL (b : Int) 8 ++ unB l := by simp [unB]
theorem unB_append (a b : List Nat) : unB (a ++ b) = unB a ++ unB b := by simp [unB]
theorem bin_pad (b : List Nat) (h : ∀ x ∈ b, x ≤ 1) (j : Nat) : binL ((padP b j : Nat) : Int) j = (List.range j).map fun i => b.getD i 0 := by
  induction j with
  | zero => simp [binL]
  | succ j ih =>
    have hb : b.getD j 0 ≤ 1 := by
      rw [List.getD_eq_getElem?_getD]
      cases hx : b[j]? with
      | none => simp
      | some x => exact h x (List.mem_of_getElem? hx)
    rw [padP, binN_snoc, show (2 * padP b j + b.getD j 0) / 2 = padP b j from by omega, show (2 * padP b j + b.getD j 0) % 2 = b.getD j 0 from by omega, ih, List.range_succ, List.map_append]; rfl
theorem range_getD (b : List Nat) (j : Nat) (h : b.length ≤ j) : ((List.range j).map fun i => b.getD i 0) = b ++ List.replicate (j - b.length) 0 := by
  apply List.ext_getElem?
  intro i
  rw [List.getElem?_map]
  by_cases hi : i < j
  · rw [List.getElem?_range hi]
    by_cases hb : i < b.length
    · rw [List.getElem?_append_left hb, List.getElem?_eq_getElem hb]; simp [hb]
    · rw [List.getElem?_append_right (by omega), List.getElem?_replicate, if_pos (by omega)]
      simp [List.getD_eq_getElem?_getD, List.getElem?_eq_none (show b.length ≤ i by omega)]
  · rw [List.getElem?_eq_none (by simp; omega), List.getElem?_eq_none (by simp; omega)]; rfl
theorem unB_octs : ∀ (n : Nat) (l : List Nat), l.length ≤ n → (∀ b ∈ l, b ≤ 1) → ∃ p, unB (octs l) = l ++ p := by
  intro n
  induction n with
  | zero =>
    intro l hl _
    obtain rfl : l = [] := List.length_eq_zero_iff.1 (by omega)
    exact ⟨[], rfl⟩
  | succ n ih =>
    intro l hl hb
    rcases Nat.eq_zero_or_pos l.length with h0 | h0
    · obtain rfl : l = [] := List.length_eq_zero_iff.1 h0
      exact ⟨[], rfl⟩
    · by_cases h8 : l.length ≤ 8
      · rw [octs_short l h0 h8, unB_cons, bin_pad l hb, range_getD l 8 h8]
        exact ⟨List.replicate (8 - l.length) 0, by simp [unB]⟩
      · obtain ⟨p, hp⟩ := ih (l.drop 8) (by rw [List.length_drop]; omega) (fun b h => hb b (List.mem_of_mem_drop h))
        refine ⟨p, ?_⟩
        have hl8 : (l.take 8).length = 8 := by rw [List.length_take]; omega
        conv => lhs; rw [← List.take_append_drop 8 l]
        rw [octs_append _ (by rw [hl8]), unB_append, hp, octs_short (l.take 8) (by omega) (by omega), unB_cons, bin_pad _ (fun b h => hb b (List.mem_of_mem_take h)), range_getD _ 8 (by omega), hl8, ← List.append_assoc]
        simp [unB]
theorem large2 (n : Nat) (h : n < 65536) : ∃ a b, octs (binL (n : Int) 16) = [a, b] ∧ a * 256 + b = n := by
  have hl := octs_len (binL (n : Int) 16)
  rw [binL_length] at hl
  obtain ⟨hb, _⟩ := octs_ok (binL (n : Int) 16) (binL_bits _ _)
  obtain ⟨p, hp⟩ := unB_octs 16 (binL (n : Int) 16) (by rw [binL_length]; omega) (binL_bits _ _)
  match hm : octs (binL (n : Int) 16), hl with
  | [a, b], _ =>
    rw [hm] at hb hp
    refine ⟨a, b, rfl, ?_⟩
    have hpl : p = [] := by
      have := congrArg List.length hp
      rw [unB_length, List.length_append, binL_length] at this
      simpa using this
    rw [hpl, List.append_nil] at hp
    have ha : a < 256 := hb a (by simp)
    have hb2 : b < 256 := hb b (by simp)
    have h1 : takeR (unB [a, b]) 8 = ((a % 2 ^ 8, true), binL (b : Int) 8) := by
      rw [unB_cons, takeR_bin]; simp [unB]
    rw [hp, show (16 : Nat) = 15 + 1 from rfl] at h1
    have key : ∀ k n : Nat, k ≤ 16 → valB ((binL (n : Int) 16).take k) = n / 2 ^ (16 - k) % 2 ^ k := by
      intro k
      induction k with
      | zero => intro n _; simp [valB, Nat.mod_one]
      | succ k ih =>
        intro n hk
        have hg := binL_get (n : Int) 16 (15 - k) (by omega)
        rw [show 16 - 1 - (15 - k) = k from by omega] at hg
        rw [take_get hg, valB_snoc, ih n (by omega)]
        have e0 : ((n : Int) / 2 ^ (15 - k) % 2).toNat = n / 2 ^ (15 - k) % 2 := by
          have : ((n / 2 ^ (15 - k) % 2 : Nat) : Int) = (n : Int) / 2 ^ (15 - k) % 2 := by simp
          omega
        rw [e0, show 16 - (k + 1) = 15 - k from by omega, Nat.pow_succ, Nat.mul_comm (2 ^ k), Nat.mod_mul, show 16 - k = (15 - k) + 1 from by omega, Nat.pow_succ, ← Nat.div_div_eq_div_mul]
        omega
    have h2 := key 8 n (by omega)
    have h3 : valB ((binL (n : Int) 16).take 8) = a % 2 ^ 8 := by
      have := congrArg (fun t => t.1.1) h1
      simp only [takeR] at this
      rw [if_pos (by rw [binL_length]; omega)] at this
      exact this
    have h4 : (binL (n : Int) 16).drop 8 = binL (b : Int) 8 := by
      have := congrArg (fun t => t.2) h1
      simp only [takeR] at this
      rw [if_pos (by rw [binL_length]; omega)] at this
      exact this
    have h5 : valB (binL (n : Int) 16) = valB ((binL (n : Int) 16).take 8) * 256 + valB ((binL (n : Int) 16).drop 8) := by
      have h6 : ∀ (y x : List Nat), valB (x ++ y) = valB x * 2 ^ y.length + valB y := by
        intro y
        induction y with
        | nil => intro x; simp [valB]
        | cons c y ih =>
          intro x
          have e1 := ih (x ++ [c])
          have e2 := ih [c]
          rw [List.append_assoc, List.singleton_append, valB_snoc] at e1
          have e3 : valB (c :: y) = c * 2 ^ y.length + valB y := by
            have := e2; simp only [List.singleton_append] at this
            rw [this]; simp [valB]
          rw [e1, e3, List.length_cons, Nat.pow_succ, Nat.add_mul]
          have : 2 * valB x * 2 ^ y.length = valB x * (2 ^ y.length * 2) := by rw [Nat.mul_comm 2, Nat.mul_assoc, Nat.mul_comm 2]
          omega
      have h7 := h6 ((binL (n : Int) 16).drop 8) ((binL (n : Int) 16).take 8)
      rw [List.take_append_drop, List.length_drop, binL_length] at h7
      exact h7
    rw [valB_bin, h3, h4, valB_bin, Nat.mod_eq_of_lt h] at h5
    omega

/-- a code is read as its frame -/
theorem firstR_enc {bs : List Chan} {st : Int} {xss : List (List Int)} (hb : bookOK bs = true) (hf : frOK bs st xss = true) (r : List Nat) : firstR bs (encB st xss ++ r) = some ((st, xss), (encB st xss).length) := by
  have hz : frmErr bs st xss = 0 := by
    have : bookErr bs = 0 := by simp [bookErr, hb]
    simp [frmErr, this, hf]
  obtain ⟨-, hbl, hxl, hs0, hs1, hx64, hxb⟩ := frmErr_zero hz
  have hlen : xss.length = bs.length := hxl
  have hfr := hf
  simp only [frOK, Bool.and_eq_true, decide_eq_true_eq] at hfr
  obtain ⟨s, rfl⟩ := Int.eq_ofNat_of_zero_le hs0
  have hrt : ∀ (i : Nat) c xs, bs[i]? = some c → xss[i]? = some xs → c.rate = xs.length ∧ ∀ v ∈ xs, -8388608 ≤ v ∧ v ≤ 8388608 := by
    intro i c xs hc hx
    have h1 := frTo_get hfr.2.2 (List.getElem?_eq_some_iff.1 hc).1 hc hx
    simp only [smpOK, Bool.and_eq_true, decide_eq_true_eq] at h1
    exact ⟨h1.1.symm, fun v hv => hxb xs (List.mem_of_getElem? hx) v hv⟩
  have hbits := frBits_bits (s : Int) xss
  have hol := octs_len (frBits (s : Int) xss)
  have hfl : (frBits (s : Int) xss).length ≤ 32 + 3335 * 16 := by
    have h1 := flat_encC xss 64 hx64
    rw [frBits, List.length_append, binL_length]; omega
  obtain ⟨p, hp⟩ := unB_octs _ (frBits (s : Int) xss) (Nat.le_refl _) hbits
  obtain ⟨a, b, hab, habn⟩ := large2 (octs (frBits (s : Int) xss)).length (by omega)
  have henc : encB (s : Int) xss = 165 :: 90 :: a :: b :: (octs (frBits (s : Int) xss) ++ octs (binL (chkL (hdB (octs (frBits (s : Int) xss))) : Nat) 24)) := by
    rw [encB]
    conv => lhs; arg 1; rw [hdB, hab]
    simp
  have hcl := octs_len (binL (chkL (hdB (octs (frBits (s : Int) xss))) : Nat) 24)
  rw [binL_length] at hcl
  have hel : (encB (s : Int) xss).length = 4 + (octs (frBits (s : Int) xss)).length + 3 := by
    rw [henc]; simp only [List.length_cons, List.length_append]; omega
  have hend : endR (encB (s : Int) xss ++ r) = (encB (s : Int) xss).length := by
    rw [hel]; unfold endR; rw [henc]; simp; omega
  have hbody : ((encB (s : Int) xss ++ r).take ((encB (s : Int) xss).length - 3)).drop 4 = octs (frBits (s : Int) xss) := by
    rw [hel, henc]
    generalize octs (frBits (s : Int) xss) = body at *
    rw [show 4 + body.length + 3 - 3 = body.length + 4 from by omega]
    simp
  have ht : takeR (unB (((encB (s : Int) xss ++ r).take ((encB (s : Int) xss).length - 3)).drop 4)) 32 = ((s, true), xss.flatMap encC ++ p) := by
    rw [hbody, hp, frBits, List.append_assoc, takeR_bin, Nat.mod_eq_of_lt (by omega)]
  have hst : startR (encB (s : Int) xss ++ r) = s := by unfold startR; rw [hend, ht]
  have hrows : rowsR bs (encB (s : Int) xss ++ r) = some xss := by
    unfold rowsR; rw [hend, ht]
    simp only [if_true]
    rw [chR_enc bs xss [] p hlen hrt, List.nil_append]
  have htk : (encB (s : Int) xss ++ r).take (encB (s : Int) xss).length = encB (s : Int) xss := by
    rw [List.take_append_of_le_length (Nat.le_refl _), List.take_of_length_le (Nat.le_refl _)]
  unfold firstR
  rw [hend, hrows, hst]
  have hlen7 : 7 ≤ (encB (s : Int) xss ++ r).length := by rw [List.length_append]; omega
  have h165 : (encB (s : Int) xss ++ r).getD 0 0 = 165 := by rw [henc]; rfl
  have h90 : (encB (s : Int) xss ++ r).getD 1 0 = 90 := by rw [henc]; rfl
  rw [if_pos ⟨hlen7, h165, h90, by rw [List.length_append]; omega⟩]
  simp only
  rw [htk, if_pos (by simp [hf])]
end Go.Proofs.YtoochleabcjljaaGreatDoor

/- Lines: CheckLine, lined, Inject, amplitude. -/
namespace Go.Proofs.YtoochleabcjljaaGreatDoor
open Go.RowKit

/-- a line -/
def sumL (xs : List Int) : Int := xs.foldl (· + ·) 0
theorem sumL_snoc (xs : List Int) (x : Int) : sumL (xs ++ [x]) = sumL xs + x := by simp [sumL]
def lineOK (xs : List Int) : Bool := xs.all (fun n => inB (-1000) n 1000) && (inB 2 xs.length 32 && (decide (sumL xs = 0) && xs.any (fun n => n != 0)))
def lineErr (xs : List Int) : Int := if lineOK xs then 0 else 54

theorem sumL_bd {xs : List Int} (h : ∀ x ∈ xs, -1000 ≤ x ∧ x ≤ 1000) : -(1000 * (xs.length : Int)) ≤ sumL xs ∧ sumL xs ≤ 1000 * (xs.length : Int) := by
  suffices ∀ (xs : List Int) (a : Int), (∀ x ∈ xs, -1000 ≤ x ∧ x ≤ 1000) → a - 1000 * (xs.length : Int) ≤ xs.foldl (· + ·) a ∧ xs.foldl (· + ·) a ≤ a + 1000 * (xs.length : Int) by
    have := this xs 0 h; simp only [sumL]; omega
  intro xs
  induction xs with
  | nil => intro a _; simp
  | cons x xs ih =>
    intro a h
    have h1 := h x (by simp)
    have h2 := ih (a + x) (fun y hy => h y (by simp [hy]))
    simp only [List.foldl_cons, List.length_cons]
    push_cast
    omega

theorem checkLine_any (ao : Option Addr) (xs : List Int) (cap : Nat) (w : World) (hc : Cells w ao (xs.map (Value.int .i64))) (hl : xs.length ≤ 17592186044416) :
    Calls Tryz.prog 12 #[.slice ao xs.length cap] w fun e w' => e = .returned (.int .i64 (lineErr xs)) ∧ w = w' := by
  have HC := Lib.hid hc; clear hc
  go_enter Tryz.func12, Tryz.ntmps12
  go_wp2
  go_loop [3, 4, 9] (fun sm so i => ∃ k : Nat, k ≤ xs.length ∧ i = .int .i64 k ∧ sm = .int .i64 (sumL (xs.take k)) ∧ so = .bool ((xs.take k).any (fun n => n != 0)) ∧ (xs.take k).all (fun n => inB (-1000) n 1000) = true) (fun _ _ i => xs.length - (intOf i).toNat)
  case atStart => exact ⟨0, Nat.zero_le _, rfl, rfl, rfl, rfl⟩
  case round =>
    obtain ⟨k, hk, rfl, rfl, rfl, hall⟩ := hrel
    have hbd := sumL_bd (xs := xs.take k) (fun x hx => by have := List.all_eq_true.1 hall x hx; simpa [inB] using this)
    rw [List.length_take, Nat.min_eq_left hk] at hbd
    obtain ⟨hb1, hb2⟩ := hbd
    by_cases hlt : k < xs.length
    · obtain ⟨x, hx⟩ := get_of_lt hlt
      obtain ⟨b, off, rfl⟩ := HC.out.addr (by simpa using List.ne_nil_of_length_pos (by omega))
      have hcell := HC.out.int hx
      have ht := take_get hx
      cases hin : inB (-1000) x 1000
      · have he : lineErr xs = 54 := by
          have : xs.all (fun n => inB (-1000) n 1000) = false := List.all_eq_false.2 ⟨x, List.mem_of_getElem? hx, by simp [hin]⟩
          simp [lineErr, lineOK, this]
        have HE := Lib.hid he; clear he hx ht hall
        go_wp2_with (go_at_call 53; refine (within_any _ _ _ _).mono ?_; rintro e w' ⟨rfl, rfl⟩)
        go_ret
        exact ⟨ret_int HE.out.symm, rfl⟩
      · have hx1 : -1000 ≤ x ∧ x ≤ 1000 := by simpa [inB] using hin
        obtain ⟨hx1, hx2⟩ := hx1
        have hs : sumL (xs.take (k + 1)) = sumL (xs.take k) + x := by rw [ht, sumL_snoc]
        have ha : (xs.take (k + 1)).all (fun n => inB (-1000) n 1000) = true := by rw [ht, List.all_append, hall]; simp [hin]
        have hn : (xs.take (k + 1)).any (fun n => n != 0) = ((xs.take k).any (fun n => n != 0) || x != 0) := by rw [ht, List.any_append]; simp
        have HS := Lib.hid hs; have HA := Lib.hid ha; have HN := Lib.hid hn
        clear hs ha hn ht hx hall
        generalize (xs.take k).any (fun n => n != 0) = so at *
        generalize sumL (xs.take k) = sm at *
        cases so
        all_goals
          go_wp2_with (go_at_call 53; refine (within_any _ _ _ _).mono ?_; rintro e w' ⟨rfl, rfl⟩)
          go_round
          case rel => exact ⟨k + 1, by omega, by go_num, by rw [HS.out], by rw [HN.out]; simp, HA.out⟩
          case measure => simp [intOf]; omega
    · obtain rfl : k = xs.length := by omega
      rw [List.take_length] at hall hb1 hb2 ⊢
      have he : lineErr xs = if (inB 2 xs.length 32 && (decide (sumL xs = 0) && xs.any (fun n => n != 0))) then 0 else 54 := by simp only [lineErr, lineOK, hall, Bool.true_and]
      have HE := Lib.hid he; clear he hall
      generalize xs.any (fun n => n != 0) = so at *
      generalize sumL xs = sm at *
      by_cases hsm : sm = 0
      · subst hsm
        cases so
        all_goals
          cases hin : inB 2 xs.length 32
          all_goals
            have HIN := Lib.hid hin
            go_wp2_with (go_at_call 53; refine (within_any _ _ _ _).mono ?_; rintro e w' ⟨rfl, rfl⟩)
            go_ret
            exact ⟨ret_int (by rw [HE.out, HIN.out]; rfl), rfl⟩
      · have h1 : (sm != 0) = true := by simpa using hsm
        have hd : decide (sm = 0) = false := by simpa using hsm
        have HD := Lib.hid hd; clear hd
        cases hin : inB 2 xs.length 32
        all_goals
          have HIN := Lib.hid hin
          go_wp2_with (go_at_call 53; refine (within_any _ _ _ _).mono ?_; rintro e w' ⟨rfl, rfl⟩)
          go_ret
          exact ⟨ret_int (by rw [HE.out, HIN.out, HD.out]; rfl), rfl⟩
end Go.Proofs.YtoochleabcjljaaGreatDoor
