/- Frames: frameOK, CheckFrame. -/
import Derived.Test.YtoochleabcjljaaDoorC2
import Derived.Test.YtoochleabcjljaaDoorA1
namespace Go.Proofs.YtoochleabcjljaaDoor
open Go.RowKit

/-- a slice of numbers, and a slice of such -/
def RowV (w : World) (v : Value) (xs : List Int) : Prop := ∃ a c, v = .slice a xs.length c ∧ Cells w a (xs.map (Value.int .i64)) ∧ xs.length ≤ 17592186044416
theorem RowV.below {w w' : World} {B : Nat} {v : Value} {xs : List Int} (h : RowV w v xs) (hb : Below B w w') (hB : w.heap.size ≤ B) : RowV w' v xs := by
  obtain ⟨a, c, h1, h2, h3⟩ := h; exact ⟨a, c, h1, h2.below hb hB, h3⟩
def RowsV (w : World) (vs : List Value) (xss : List (List Int)) : Prop := vs.length = xss.length ∧ ∀ (i : Nat) v xs, vs[i]? = some v → xss[i]? = some xs → RowV w v xs
theorem RowsV.below {w w' : World} {B : Nat} {vs : List Value} {xss : List (List Int)} (h : RowsV w vs xss) (hb : Below B w w') (hB : w.heap.size ≤ B) : RowsV w' vs xss :=
  ⟨h.1, fun i v xs h1 h2 => (h.2 i v xs h1 h2).below hb hB⟩

/-- the greatest magnitude of a channel -/
def mostOf (c : Chan) : Int := 2 ^ (c.bits - 1).toNat
def smpOK (c : Chan) (xs : List Int) : Bool := decide ((xs.length : Int) = c.rate) && !xs.any fun n => !inB (-(mostOf c)) n (mostOf c - 1)
def frTo (bs : List Chan) (xss : List (List Int)) : Nat → Bool
  | 0 => true
  | k + 1 => frTo bs xss k && match bs[k]?, xss[k]? with | some c, some xs => smpOK c xs | _, _ => true
def frOK (bs : List Chan) (st : Int) (xss : List (List Int)) : Bool := inB 0 st 1073741824 && (decide (xss.length = bs.length) && frTo bs xss bs.length)
theorem frTo_succ {bs : List Chan} {xss : List (List Int)} {k : Nat} {c : Chan} {xs : List Int} (h : bs[k]? = some c) (h2 : xss[k]? = some xs) : frTo bs xss (k + 1) = (frTo bs xss k && smpOK c xs) := by simp [frTo, h, h2]
theorem frTo_false {bs : List Chan} {xss : List (List Int)} {k : Nat} (h : frTo bs xss k = false) {n : Nat} (hn : k ≤ n) : frTo bs xss n = false := by
  induction n with
  | zero => obtain rfl : k = 0 := by omega
            exact h
  | succ n ih =>
    by_cases hk : k ≤ n
    · simp [frTo, ih hk]
    · obtain rfl : k = n + 1 := by omega
      exact h

theorem bookTo_get {bs : List Chan} {n : Nat} (h : bookTo bs n = true) {i : Nat} {c : Chan} (hi : i < n) (hc : bs[i]? = some c) : chanOK c = true := by
  induction n with
  | zero => omega
  | succ n ih =>
    simp only [bookTo, Bool.and_eq_true] at h
    by_cases hin : i < n
    · exact ih h.1 hin
    · obtain rfl : i = n := by omega
      have := h.2
      rw [hc] at this
      simp only [Bool.and_eq_true] at this
      exact this.1
theorem book_get {bs : List Chan} (h : bookOK bs = true) {i : Nat} {c : Chan} (hc : bs[i]? = some c) : 1 ≤ c.rate ∧ c.rate ≤ 64 ∧ 2 ≤ c.bits ∧ c.bits ≤ 24 := by
  simp only [bookOK, Bool.and_eq_true] at h
  have h1 := bookTo_get h.2 (List.getElem?_eq_some_iff.1 hc).1 hc
  simp only [chanOK, inB, Bool.and_eq_true, decide_eq_true_eq] at h1
  omega

theorem frameOK1_any (n m : Int) (bc : Nat) (w : World) (hc : w.cell? ⟨bc, 0, none⟩ = some (.int .i64 m)) (h1 : 1 ≤ m) (h2 : m ≤ 8388608) :
    Calls Tryd.prog 61 #[.int .i64 n, .pointer (some ⟨bc, 0, none⟩)] w fun e w' => e = .returned (.bool (!inB (-m) n (m - 1))) ∧ w = w' := by
  go_enter Tryd.func61, Tryd.ntmps61
  go_wp2_with (go_at_call 22; refine (within_any _ _ _ _).mono ?_; rintro e w' ⟨rfl, rfl⟩)
  go_ret
  exact ⟨rfl, rfl⟩

theorem new2_cell (w : World) (o : Obj) (cs : Array Value) (T : TypeId) (i : Nat) : ((w.alloc o).alloc (.cells cs T)).cell? ⟨w.heap.size + 1, i, none⟩ = cs[i]? := by
  simp

theorem most_bd {c : Chan} (h1 : 2 ≤ c.bits) (h2 : c.bits ≤ 24) : 1 ≤ mostOf c ∧ mostOf c ≤ 8388608 ∧ (1 : Int) * 2 ^ (c.bits - 1).toNat = mostOf c := by
  have hn : (c.bits - 1).toNat ≤ 23 := by omega
  have h3 : (2 : Nat) ^ (c.bits - 1).toNat ≤ 2 ^ 23 := Nat.pow_le_pow_right (by decide) hn
  have h4 : ((2 ^ (c.bits - 1).toNat : Nat) : Int) = mostOf c := by simp [mostOf]
  have h5 : 0 < (2 : Nat) ^ (c.bits - 1).toNat := Nat.pow_pos (by decide)
  have h6 : (2 : Nat) ^ 23 = 8388608 := by decide
  refine ⟨by omega, by omega, by simp [mostOf]⟩

set_option maxRecDepth 100000 in
set_option maxHeartbeats 1000000 in
theorem frameOK_any (ao : Option Addr) (bs : List Chan) (cap : Nat) (st : Int) (asm : Option Addr) (vs : List Value) (xss : List (List Int)) (cs : Nat) (w : World) (hc : Cells w ao (chs bs)) (hl : bs.length ≤ 17592186044416) (hs : Cells w asm vs) (hr : RowsV w vs xss) (hls : xss.length ≤ 17592186044416) (hbk : bookOK bs = true) :
    Calls Tryd.prog 45 #[.slice ao bs.length cap, .agg #[.int .i64 st, .slice asm xss.length cs]] w fun e w' => e = .returned (.bool (frOK bs st xss)) ∧ Below w.heap.size w w' := by
  have HC := Lib.hid hc; have HS := Lib.hid hs; have HR := Lib.hid hr; have HBK := Lib.hid hbk
  clear hc hs hr hbk
  cases h1 : inB 0 st 1073741824
  · have hf : frOK bs st xss = false := by simp [frOK, h1]
    have HF := Lib.hid hf; clear hf
    go_enter Tryd.func45, Tryd.ntmps45
    go_wp2_with (go_at_call 22; refine (within_any _ _ _ _).mono ?_; rintro e w' ⟨rfl, rfl⟩)
    go_ret
    exact ⟨ret_bool HF.out.symm, (Below.refl _ _).alloc (Nat.le_refl _) _⟩
  · by_cases h2 : xss.length = bs.length
    · have hf : frOK bs st xss = frTo bs xss bs.length := by simp [frOK, h1, h2]
      have HF := Lib.hid hf; clear hf
      have hlen : ((xss.length : Int) != bs.length) = false := by simp [h2]
      have H2 := Lib.hid h2; clear h2
      have hle1 : xss.length ≤ bs.length := by have := H2.out; omega
      have hle2 : bs.length ≤ xss.length := by have := H2.out; omega
      go_enter Tryd.func45, Tryd.ntmps45
      go_wp2_with (go_at_call 22; refine (within_any _ _ _ _).mono ?_; rintro e w' ⟨rfl, rfl⟩)
      go_loopw [22] (fun i wr => ∃ k : Nat, k ≤ bs.length ∧ i = .int .i64 k ∧ frTo bs xss k = true ∧ Below (w.heap.size + 1) (w.alloc (.cells #[.int .i64 st, .slice asm xss.length cs] 53)) wr) (fun i _ => bs.length - (intOf i).toNat)
      case atStart => exact ⟨0, Nat.zero_le _, rfl, rfl, Below.refl _ _⟩
      case round =>
        obtain ⟨k, hk, rfl, hfr, hb⟩ := hrel
        have HFR := Lib.hid hfr; clear hfr
        have p1 : wr.cell? ⟨w.heap.size, 1, none⟩ = some (.slice asm xss.length cs) := box_keep hb (by simp) 1
        have hbw : Below w.heap.size w wr := ((Below.refl _ _).alloc (Nat.le_refl _) _).trans (hb.mono (by omega))
        have hsz : w.heap.size + 1 ≤ wr.heap.size := by have := hb.size; simpa using this
        by_cases hlt : k < bs.length
        · obtain ⟨c, hx⟩ := get_of_lt hlt
          obtain ⟨xs, hxs⟩ := get_of_lt (show k < xss.length by omega)
          obtain ⟨v, hv⟩ := get_of_lt (show k < vs.length by have := HR.out.1; omega)
          obtain ⟨b, off, rfl⟩ := HC.out.addr (chs_ne (by omega))
          obtain ⟨b2, off2, rfl⟩ := HS.out.addr (List.ne_nil_of_length_pos (by have := HR.out.1; omega))
          obtain ⟨g0, g1, g2⟩ := chs_get hx
          have c0 := cell_keep (HC.out.at g0) hbw (Nat.le_refl _)
          have c1 := cell_keep (HC.out.at g1) hbw (Nat.le_refl _)
          have c2 := cell_keep (HC.out.at g2) hbw (Nat.le_refl _)
          rw [← Nat.add_assoc] at c1 c2
          have c3 := cell_keep (HS.out.at hv) hbw (Nat.le_refl _)
          have hrow := HR.out.2 k v xs hv hxs
          obtain ⟨ax, cx, rfl, hax, haxl⟩ := hrow
          have hck := book_get HBK.out hx
          obtain ⟨k1, k2, k3, k4⟩ := hck
          obtain ⟨m1, m2, m3⟩ := most_bd k3 k4
          have hst := frTo_succ hx hxs
          rw [HFR.out, Bool.true_and] at hst
          have HST := Lib.hid hst; have HAX := Lib.hid hax; have M3 := Lib.hid m3
          clear g0 g1 g2 hst hax hx hxs hv m3
          have hmx : (c.bits - 1).toNat ≤ 23 := by omega
          have hmin : min (c.bits - 1).toNat 64 = (c.bits - 1).toNat := by omega
          have hpw : (2 : Int) ^ (c.bits.toNat - 1) = mostOf c := by rw [mostOf]; congr 1; omega
          go_wp2
          clear hpw hmx hmin
          have hbq := (hb.alloc hsz (.cells #[.string c.name, .int .i64 c.rate, .int .i64 c.bits] 57)).alloc (by simp; omega) (.cells #[.int .i64 (mostOf c)] 3)
          have hwq := ((Below.refl wr.heap.size wr).alloc (Nat.le_refl _) (.cells #[.string c.name, .int .i64 c.rate, .int .i64 c.bits] 57)).alloc (by simp) (.cells #[.int .i64 (mostOf c)] 3)
          have q3 := cell_keep c3 hwq (Nat.le_refl _)
          have qr : ((wr.alloc (.cells #[.string c.name, .int .i64 c.rate, .int .i64 c.bits] 57)).alloc (.cells #[.int .i64 (mostOf c)] 3)).cell? ⟨wr.heap.size, 1, none⟩ = some (.int .i64 c.rate) := by simp
          have qm : ((wr.alloc (.cells #[.string c.name, .int .i64 c.rate, .int .i64 c.bits] 57)).alloc (.cells #[.int .i64 (mostOf c)] 3)).cell? ⟨wr.heap.size + 1, 0, none⟩ = some (.int .i64 (mostOf c)) := new2_cell _ _ _ _ 0
          have hsq : wr.heap.size + 2 ≤ ((wr.alloc (.cells #[.string c.name, .int .i64 c.rate, .int .i64 c.bits] 57)).alloc (.cells #[.int .i64 (mostOf c)] 3)).heap.size := by simp
          generalize ((wr.alloc (.cells #[.string c.name, .int .i64 c.rate, .int .i64 c.bits] 57)).alloc (.cells #[.int .i64 (mostOf c)] 3)) = wq at *
          clear c0 c1 c2 c3 p1 hb hwq
          have p1 : wq.cell? ⟨w.heap.size, 1, none⟩ = some (.slice (some ⟨b2, off2, none⟩) xss.length cs) := box_keep hbq (by simp) 1
          have hbw2 : Below w.heap.size w wq := ((Below.refl _ _).alloc (Nat.le_refl _) _).trans (hbq.mono (by omega))
          have ki1 : (k : Int) < xss.length := by omega
          by_cases hlr : (xs.length : Int) = c.rate
          · have hst : frTo bs xss (k + 1) = !xs.any (fun n => !inB (-(mostOf c)) n (mostOf c - 1)) := by rw [HST.out]; simp [smpOK, hlr]
            have HST2 := Lib.hid hst; clear hst
            have hneq : ((xs.length : Int) != c.rate) = false := by simp [hlr]
            clear hlr
            go_still_tail 16, (by kernel_rfl)
            change wpList _ _ _ _ _ wq.drew
            have qm2 : wq.drew.cell? ⟨wr.heap.size + 1, 0, none⟩ = some (.int .i64 (mostOf c)) := qm
            have hbd : Below w.heap.size w wq.drew := hbw2.drew
            have hbqd : Below (w.heap.size + 1) (w.alloc (.cells #[.int .i64 st, .slice (some ⟨b2, off2, none⟩) xss.length cs] 53)) wq.drew := hbq.drew
            have hsq2 : wr.heap.size + 2 ≤ wq.drew.heap.size := hsq
            generalize wq.drew = wd at *
            clear qm qr q3 p1 hbq hbw2 hsq
            go_wp2_with fail
            refine (containsFunc_ints 61 #[.pointer (some ⟨wr.heap.size + 1, 0, none⟩)] (fun n => !inB (-(mostOf c)) n (mostOf c - 1)) ax xs cx wd (HAX.out.below hbd (Nat.le_refl _)) (by omega) (fun _ _ => by kernel_rfl) (fun x wx _ hbe => (frameOK1_any x (mostOf c) (wr.heap.size + 1) wx (cell_keep qm2 hbe (Nat.le_refl _)) m1 m2).mono fun e w' h => ⟨h.1, h.2 ▸ Below.refl _ _⟩)).mono ?_
            rintro e w1 ⟨rfl, hb1⟩
            have hbz := hbqd.trans (hb1.mono (by omega))
            cases hany : xs.any (fun n => !inB (-(mostOf c)) n (mostOf c - 1))
            · have hfr2 : frTo bs xss (k + 1) = true := by rw [HST2.out, hany]; rfl
              have HFR2 := Lib.hid hfr2; clear hfr2 hany
              go_wp2
              go_roundw
              case rel => exact ⟨k + 1, by omega, by go_num, HFR2.out, hbz⟩
              case measure => simp [intOf]; omega
            · have hfr2 : frTo bs xss bs.length = false := frTo_false (k := k + 1) (by rw [HST2.out, hany]; rfl) (by omega)
              have HFR2 := Lib.hid hfr2; clear hfr2 hany
              go_wp2
              go_ret
              exact ⟨ret_bool (by rw [HF.out, HFR2.out]), ((Below.refl _ _).alloc (Nat.le_refl _) _).trans (hbz.mono (by omega))⟩
          · have hfr2 : frTo bs xss bs.length = false := frTo_false (k := k + 1) (by rw [HST.out]; simp [smpOK, hlr]) (by omega)
            have HFR2 := Lib.hid hfr2; clear hfr2
            have hneq : ((xs.length : Int) != c.rate) = true := by simpa using hlr
            go_quiet (fail)
            go_wp2
            go_ret
            exact ⟨ret_bool (by rw [HF.out, HFR2.out]), bel_drewN hbw2 _⟩
        · obtain rfl : k = bs.length := by omega
          go_wp2
          go_ret
          exact ⟨ret_bool (by rw [HF.out, HFR.out]), hbw⟩
    · have hf : frOK bs st xss = false := by simp [frOK, h2]
      have HF := Lib.hid hf; clear hf
      have hlen : ((xss.length : Int) != bs.length) = true := by simp; omega
      go_enter Tryd.func45, Tryd.ntmps45
      go_wp2_with (go_at_call 22; refine (within_any _ _ _ _).mono ?_; rintro e w' ⟨rfl, rfl⟩)
      go_ret
      exact ⟨ret_bool HF.out.symm, (Below.refl _ _).alloc (Nat.le_refl _) _⟩
end Go.Proofs.YtoochleabcjljaaDoor
