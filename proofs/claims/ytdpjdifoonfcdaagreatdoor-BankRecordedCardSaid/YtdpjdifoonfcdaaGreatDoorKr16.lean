/- Parts of a proof, in build order: C1, C2, C3, C4, R0, E1, E2, E3, E4. -/
import Derived.Test.YtdpjdifoonfcdaaGreatDoorKr10
import Derived.Test.YtdpjdifoonfcdaaGreatDoorKr15
import Derived.Deep.RegionWith
import Derived.Laws.BitsLemmas

namespace Go.Proofs.YtdpjdifoonfcdaaGreatDoor
open Go.RowKit
structure Chan where
 name : ByteArray
 rate : Int
 bits : Int
def chs (l : List Chan) : List Value := l.flatMap fun t => [.string t.name, .int .i64 t.rate, .int .i64 t.bits]
theorem chs_cons (t : Chan) (l : List Chan) : chs (t :: l) = .string t.name :: .int .i64 t.rate :: .int .i64 t.bits :: chs l := rfl
theorem chs_length (l : List Chan) : (chs l).length = l.length * 3 := by
 induction l with
 | nil => rfl
 | cons t l ih => simp only [chs_cons, List.length_cons, ih]; omega
theorem chs_get {l : List Chan} {i : Nat} {t : Chan} (h : l[i]? = some t) : (chs l)[i * 3]? = some (.string t.name) /\ (chs l)[i * 3 + 1]? = some (.int .i64 t.rate) /\ (chs l)[i * 3 + 2]? = some (.int .i64 t.bits) := by
 induction l generalizing i with
 | nil => simp at h
 | cons s l ih =>
   cases i with
   | zero => simp at h; subst h; simp [chs_cons]
   | succ i =>
     have e : (i + 1) * 3 = i * 3 + 1 + 1 + 1 := by omega
     have e1 : (i + 1) * 3 + 1 = i * 3 + 1 + 1 + 1 + 1 := by omega
     have e2 : (i + 1) * 3 + 2 = i * 3 + 2 + 1 + 1 + 1 := by omega
     rw [chs_cons, e2, e1, e]
     simp only [List.getElem?_cons_succ]
     exact ih (by simpa using h)
theorem chs_ne {l : List Chan} (h : 0 < l.length) : chs l ≠ [] := by
 intro e; have := chs_length l; rw [e] at this; simp at this; omega
theorem chs_take (l : List Chan) (i : Nat) : chs (l.take i) = (chs l).take (i * 3) := by
 induction l generalizing i with
 | nil => simp [chs]
 | cons t l ih =>
   cases i with
   | zero => simp [chs]
   | succ i =>
     have e : (i + 1) * 3 = i * 3 + 1 + 1 + 1 := by omega
     rw [List.take_succ_cons, chs_cons, chs_cons, e, List.take_succ_cons, List.take_succ_cons, List.take_succ_cons, ih]
theorem Cells.take' {w : World} {ao : Option Addr} {cs : List Value} (h : Cells w ao cs) (n : Nat) : Cells w ao (cs.take n) := by
 rcases h with h | ⟨b, off, h1, h2⟩
 · exact .inl (by simp [h])
 · refine .inr ⟨b, off, h1, fun j u hu => h2 j u ?_⟩
   rw [List.getElem?_take] at hu
   split at hu
   · exact hu
   · simp at hu
set_option maxRecDepth 100000 in
theorem indexFunc_chans (F : FuncId) (capd : Array Value) (p : Chan -> Bool) (ao : Option Addr) (xs : List Chan) (cap : Nat) (w : World) (hc : Cells w ao (chs xs)) (hl : xs.length <= 9223372036854775807)
 (hcf : ∀ (vs : Array Value) (wx : World), Sem.run Tryz.prog (callFunc F vs) wx = .ok (.enter F vs) wx)
 (hF : ∀ x wx, x ∈ xs -> Below w.heap.size w wx -> Calls Tryz.prog F (#[.agg #[.string x.name, .int .i64 x.rate, .int .i64 x.bits]] ++ capd) wx fun e w' => e = .returned (.bool (p x)) /\ Below wx.heap.size wx w') :
 Calls Tryz.prog 121 #[.slice ao xs.length cap, .func (.func F) #[] capd] w fun e w' => (∃ r : Int, e = .returned (.int .i64 r) /\ (0 <= r ↔ xs.any p = true) /\ (∀ i : Nat, r = i -> ∃ x, xs[i]? = some x /\ p x = true /\ (xs.take i).any p = false)) /\ Below w.heap.size w w' := by
 go_enter Tryz.func121, Tryz.ntmps121
 go_wp2
 go_loopw [8] (fun i wr => ∃ k : Nat, k <= xs.length /\ i = .int .i64 k /\ (xs.take k).any p = false /\ Below w.heap.size w wr) (fun i _ => xs.length - (intOf i).toNat)
 case atStart => exact ⟨0, Nat.zero_le _, rfl, rfl, Below.refl _ _⟩
 case round =>
  obtain ⟨k, hk, rfl, hany, hb⟩ := hrel
  by_cases hlt : k < xs.length
  · obtain ⟨x, hx⟩ := get_of_lt hlt
    obtain ⟨b, off, rfl⟩ := hc.addr (chs_ne (by omega))
    obtain ⟨g0, g1, g2⟩ := chs_get hx
    have hcell1 := cell_keep (hc.at g0) hb (Nat.le_refl _)
    have hcell2 := cell_keep (hc.at g1) hb (Nat.le_refl _)
    have hcell3 := cell_keep (hc.at g2) hb (Nat.le_refl _)
    rw [<- Nat.add_assoc] at hcell2 hcell3
    clear g0 g1 g2
    have HX := Lib.hid hx; clear hx
    have HC := Lib.hid hc; clear hc
    have HF := Lib.hid hF; clear hF
    have HA := Lib.hid hany; clear hany
    go_wp2_with fail
    refine (HF.out x wr (List.mem_of_getElem? HX.out) hb).mono ?_
    rintro e w1 ⟨rfl, hb1⟩
    have hb2 := hb.trans (hb1.mono hb.size)
    clear hb1
    by_cases hp : p x = true
    · go_wp2
      go_ret
      refine ⟨⟨_, rfl, ?_, ?_⟩, hb2⟩
      · simp only [Int.natCast_nonneg, true_iff, List.any_eq_true]
        exact ⟨x, List.mem_of_getElem? HX.out, hp⟩
      · intro i hi
        obtain rfl : k = i := by omega
        exact ⟨x, HX.out, hp, HA.out⟩
    · simp only [Bool.not_eq_true] at hp
      go_wp2
      go_roundw
      case rel => exact ⟨k + 1, by omega, by go_num, by rw [take_get HX.out, List.any_append, HA.out]; simp [hp], hb2⟩
      case measure => simp [intOf]; omega
  · obtain rfl : k = xs.length := by omega
    rw [List.take_length] at hany
    have HA := Lib.hid hany; clear hany
    go_wp2
    go_ret
    exact ⟨⟨_, rfl, by rw [HA.out]; simp, fun i hi => by omega⟩, hb⟩
set_option maxRecDepth 100000 in
theorem containsFunc_chans (F : FuncId) (capd : Array Value) (p : Chan -> Bool) (ao : Option Addr) (xs : List Chan) (cap : Nat) (w : World) (hc : Cells w ao (chs xs)) (hl : xs.length <= 9223372036854775807)
 (hcf : ∀ (vs : Array Value) (wx : World), Sem.run Tryz.prog (callFunc F vs) wx = .ok (.enter F vs) wx)
 (hF : ∀ x wx, x ∈ xs -> Below w.heap.size w wx -> Calls Tryz.prog F (#[.agg #[.string x.name, .int .i64 x.rate, .int .i64 x.bits]] ++ capd) wx fun e w' => e = .returned (.bool (p x)) /\ Below wx.heap.size wx w') :
 Calls Tryz.prog 186 #[.slice ao xs.length cap, .func (.func F) #[] capd] w fun e w' => e = .returned (.bool (xs.any p)) /\ Below w.heap.size w w' := by
 have HC := Lib.hid hc; clear hc
 have HF := Lib.hid hF; clear hF
 have HCF := Lib.hid hcf; clear hcf
 go_enter Tryz.func186, Tryz.ntmps186
 go_wp2_with fail
 refine (indexFunc_chans F capd p ao xs cap w HC.out hl HCF.out HF.out).mono ?_
 rintro e w1 ⟨⟨r, rfl, hr, _⟩, hb⟩
 have HR := Lib.hid hr; clear hr
 go_wp2
 go_ret
 exact ⟨ret_bool (by rw [Bool.eq_iff_iff, decide_eq_true_iff]; exact HR.out), hb⟩
def sameName (a b : ByteArray) : Bool := a.toList == b.toList
theorem checkBook1_any (x : Chan) (bc : Nat) (t : ByteArray) (w : World) (hc : w.cell? ⟨bc, 0, none⟩ = some (.string t)) :
 Calls Tryz.prog 187 #[.agg #[.string x.name, .int .i64 x.rate, .int .i64 x.bits], .pointer (some ⟨bc, 0, none⟩)] w fun e w' => e = .returned (.bool (sameName x.name t)) /\ Below w.heap.size w w' := by
 have hc1 := cell_keep hc ((Below.refl _ _).alloc (Nat.le_refl _) (.cells #[.string x.name, .int .i64 x.rate, .int .i64 x.bits] 104)) (Nat.le_refl _)
 go_enter Tryz.func187, Tryz.ntmps187
 go_wp2
 go_ret
 exact ⟨rfl, (Below.refl _ _).alloc (Nat.le_refl _) _⟩
end Go.Proofs.YtdpjdifoonfcdaaGreatDoor

namespace Go.Proofs.YtdpjdifoonfcdaaGreatDoor
open Go.RowKit
def pow2B (r : Int) : Bool := decide (r = 1 ∨ r = 2 ∨ r = 4 ∨ r = 8 ∨ r = 16 ∨ r = 32 ∨ r = 64)
def chanOK (c : Chan) : Bool := nameOK c.name && (inB 1 c.rate 64 && (pow2B c.rate && inB 2 c.bits 24))
def dupB (bs : List Chan) (c : Chan) : Bool := bs.any fun x => sameName x.name c.name
def bookTo (bs : List Chan) : Nat -> Bool
 | 0 => true
 | k + 1 => bookTo bs k && match bs[k]? with | some c => chanOK c && !dupB (bs.take k) c | none => true
def bookOK (bs : List Chan) : Bool := inB 1 bs.length 16 && bookTo bs bs.length
def bookErr (bs : List Chan) : Int := if bookOK bs then 0 else 50
theorem bookTo_succ {bs : List Chan} {k : Nat} {c : Chan} (h : bs[k]? = some c) : bookTo bs (k + 1) = (bookTo bs k && (chanOK c && !dupB (bs.take k) c)) := by
 simp [bookTo, h]
theorem pow2_nat : ∀ n : Fin 65, 1 <= n.val -> (bits BinOp.and IntKind.i64 (n.val : Int) ((n.val : Int) - 1) == 0) = pow2B n.val := by decide +kernel
theorem pow2_bits {r : Int} (h1 : 1 <= r) (h2 : r <= 64) : (bits BinOp.and IntKind.i64 r (r - 1) == 0) = pow2B r := by
 obtain ⟨n, rfl⟩ := Int.eq_ofNat_of_zero_le (show 0 <= r by omega)
 exact pow2_nat ⟨n, by omega⟩ (by show 1 <= n; omega)
set_option maxRecDepth 100000 in
set_option maxHeartbeats 1000000 in
theorem checkBook_any (ao : Option Addr) (bs : List Chan) (cap : Nat) (w : World) (hc : Cells w ao (chs bs)) (hl : bs.length <= 9223372036854775807) (hcap : bs.length <= cap) (hcap2 : cap <= 9223372036854775807) (hn : ∀ c ∈ bs, c.name.size <= 9223372036854775807) (hr : ∀ c ∈ bs, -9223372036854775808 <= c.rate) :
 Calls Tryz.prog 116 #[.slice ao bs.length cap] w fun e w' => e = .returned (.int .i64 (bookErr bs)) /\ Below w.heap.size w w' := by
 have HC := Lib.hid hc; clear hc
 have HN := Lib.hid hn; have HR := Lib.hid hr; clear hn hr
 go_enter Tryz.func116, Tryz.ntmps116
 go_wp2_with (go_at_call 98; refine (within_any _ _ _ _).mono ?_; rintro e w' ⟨rfl, rfl⟩)
 go_loopw [3, 11] (fun o i wr => ∃ k : Nat, k <= bs.length /\ i = .int .i64 k /\ o = .bool (inB 1 bs.length 16 && bookTo bs k) /\ Below w.heap.size w wr) (fun _ i _ => bs.length - (intOf i).toNat)
 case atStart => exact ⟨0, Nat.zero_le _, rfl, by simp [bookTo], Below.refl _ _⟩
 case round =>
  obtain ⟨k, hk, rfl, rfl, hb⟩ := hrel
  by_cases hlt : k < bs.length
  · obtain ⟨c, hx⟩ := get_of_lt hlt
    obtain ⟨b, off, rfl⟩ := HC.out.addr (chs_ne (by omega))
    obtain ⟨g0, g1, g2⟩ := chs_get hx
    have hcell1 := cell_keep (HC.out.at g0) hb (Nat.le_refl _)
    have hcell2 := cell_keep (HC.out.at g1) hb (Nat.le_refl _)
    have hcell3 := cell_keep (HC.out.at g2) hb (Nat.le_refl _)
    rw [<- Nat.add_assoc] at hcell2 hcell3
    clear g0 g1 g2
    have hst := bookTo_succ hx
    have hsz := hb.size
    have hnm := HN.out c (List.mem_of_getElem? hx)
    have hrt := HR.out c (List.mem_of_getElem? hx)
    have hn2 : (inB 1 bs.length 16 && bookTo bs (k + 1)) = ((inB 1 bs.length 16 && bookTo bs k) && (chanOK c && !dupB (bs.take k) c)) := by rw [hst, Bool.and_assoc]
    have HNX := Lib.hid hn2; clear hst hn2 hx
    generalize (inB 1 bs.length 16 && bookTo bs k) = o at *
    cases o
    · go_wp2
      go_roundw
      case rel => exact ⟨k + 1, by omega, by go_num, by rw [HNX.out]; rfl, hb.alloc hsz _⟩
      case measure => simp [intOf]; omega
    · cases h1 : nameOK c.name
      · have he : (chanOK c && !dupB (bs.take k) c) = false := by simp [chanOK, h1]
        have HE := Lib.hid he; clear he
        go_wp2_with fail
        refine (isName_any _ _ hnm).mono ?_
        rintro e w1 ⟨rfl, rfl⟩
        go_wp2
        go_roundw
        case rel => exact ⟨k + 1, by omega, by go_num, by rw [HNX.out, HE.out]; rfl, hb.alloc hsz _⟩
        case measure => simp [intOf]; omega
      · cases h2 : inB 1 c.rate 64
        · have he : (chanOK c && !dupB (bs.take k) c) = false := by simp [chanOK, h2]
          have HE := Lib.hid he; clear he
          go_wp2_with fail
          refine (isName_any _ _ hnm).mono ?_
          rintro e w1 ⟨rfl, rfl⟩
          rw [h1]
          go_wp2_with fail
          refine (within_any _ _ _ _).mono ?_
          rintro e w1 ⟨rfl, rfl⟩
          go_wp2
          go_roundw
          case rel => exact ⟨k + 1, by omega, by go_num, by rw [HNX.out, HE.out]; rfl, hb.alloc hsz _⟩
          case measure => simp [intOf]; omega
        · have H2 := Lib.hid h2
          have hr2 : 1 <= c.rate /\ c.rate <= 64 := by simpa [inB] using h2
          obtain ⟨hr1, hr2⟩ := hr2
          have hp2 := pow2_bits hr1 hr2
          cases h3 : pow2B c.rate
          · have he : (chanOK c && !dupB (bs.take k) c) = false := by simp [chanOK, h3]
            have HE := Lib.hid he; clear he
            rw [h3] at hp2
            go_wp2_with fail
            refine (isName_any _ _ hnm).mono ?_
            rintro e w1 ⟨rfl, rfl⟩
            rw [h1]
            go_wp2_with fail
            refine (within_any _ _ _ _).mono ?_
            rintro e w1 ⟨rfl, rfl⟩
            rw [H2.out]
            go_wp2
            go_roundw
            case rel => exact ⟨k + 1, by omega, by go_num, by rw [HNX.out, HE.out]; rfl, hb.alloc hsz _⟩
            case measure => simp [intOf]; omega
          · cases h4 : inB 2 c.bits 24
            · have he : (chanOK c && !dupB (bs.take k) c) = false := by simp [chanOK, h4]
              have HE := Lib.hid he; clear he
              rw [h3] at hp2
              go_wp2_with fail
              refine (isName_any _ _ hnm).mono ?_
              rintro e w1 ⟨rfl, rfl⟩
              rw [h1]
              go_wp2_with fail
              refine (within_any _ _ _ _).mono ?_
              rintro e w1 ⟨rfl, rfl⟩
              rw [H2.out]
              go_wp2_with fail
              refine (within_any _ _ _ _).mono ?_
              rintro e w1 ⟨rfl, rfl⟩
              go_wp2
              go_roundw
              case rel => exact ⟨k + 1, by omega, by go_num, by rw [HNX.out, HE.out]; rfl, hb.alloc hsz _⟩
              case measure => simp [intOf]; omega
            · have he : (chanOK c && !dupB (bs.take k) c) = !dupB (bs.take k) c := by simp [chanOK, h1, h2, h3, h4]
              have HE := Lib.hid he; clear he
              rw [h3] at hp2
              have hlk : (bs.take k).length = k := by rw [List.length_take]; omega
              have hbx := hb.alloc hsz (.cells #[.string c.name, .int .i64 c.rate, .int .i64 c.bits] 104)
              have hcon := containsFunc_chans 187 #[.pointer (some ⟨wr.heap.size, 0, none⟩)] (fun x => sameName x.name c.name) (some ⟨b, off, none⟩) (bs.take k) cap (wr.alloc (.cells #[.string c.name, .int .i64 c.rate, .int .i64 c.bits] 104))
               (by rw [chs_take]; exact (HC.out.below hbx (Nat.le_refl _)).take' _) (by rw [hlk]; omega) (fun _ _ => by kernel_rfl) (fun x wx _ hbe => checkBook1_any x wr.heap.size c.name wx (box_keep hbe (by simp) 0))
              rw [hlk] at hcon
              have HCON := Lib.hid hcon; clear hcon hlk
              have H4 := Lib.hid h4
              go_wp2_with fail
              refine (isName_any _ _ hnm).mono ?_
              rintro e w1 ⟨rfl, rfl⟩
              rw [h1]
              go_wp2_with fail
              refine (within_any _ _ _ _).mono ?_
              rintro e w1 ⟨rfl, rfl⟩
              rw [H2.out]
              go_wp2_with fail
              refine (within_any _ _ _ _).mono ?_
              rintro e w1 ⟨rfl, rfl⟩
              rw [H4.out]
              go_wp2_with fail
              refine HCON.out.mono ?_
              rintro e w1 ⟨rfl, hb1⟩
              go_wp2
              go_roundw
              case rel => exact ⟨k + 1, by omega, by go_num, by rw [HNX.out, HE.out]; rfl, hbx.trans (hb1.mono hbx.size)⟩
              case measure => simp [intOf]; omega
  · obtain rfl : k = bs.length := by omega
    have hf : bookErr bs = if (inB 1 bs.length 16 && bookTo bs bs.length) then 0 else 50 := rfl
    have HF := Lib.hid hf; clear hf
    generalize (inB 1 bs.length 16 && bookTo bs bs.length) = o at *
    cases o
    all_goals
     go_wp2
     go_ret
     exact ⟨ret_int (by rw [HF.out]; rfl), hb⟩
end Go.Proofs.YtdpjdifoonfcdaaGreatDoor

namespace Go.Proofs.YtdpjdifoonfcdaaGreatDoor
open Go.RowKit
def RowV (w : World) (v : Value) (xs : List Int) : Prop := ∃ a c, v = .slice a xs.length c /\ Cells w a (xs.map (Value.int .i64)) /\ xs.length <= 9223372036854775807
theorem RowV.below {w w' : World} {B : Nat} {v : Value} {xs : List Int} (h : RowV w v xs) (hb : Below B w w') (hB : w.heap.size <= B) : RowV w' v xs := by
 obtain ⟨a, c, h1, h2, h3⟩ := h; exact ⟨a, c, h1, h2.below hb hB, h3⟩
def RowsV (w : World) (vs : List Value) (xss : List (List Int)) : Prop := vs.length = xss.length /\ ∀ (i : Nat) v xs, vs[i]? = some v -> xss[i]? = some xs -> RowV w v xs
theorem RowsV.below {w w' : World} {B : Nat} {vs : List Value} {xss : List (List Int)} (h : RowsV w vs xss) (hb : Below B w w') (hB : w.heap.size <= B) : RowsV w' vs xss :=
 ⟨h.1, fun i v xs h1 h2 => (h.2 i v xs h1 h2).below hb hB⟩
def mostOf (c : Chan) : Int := 2 ^ (c.bits - 1).toNat
def smpOK (c : Chan) (xs : List Int) : Bool := decide ((xs.length : Int) = c.rate) && !xs.any fun n => !inB (-(mostOf c)) n (mostOf c - 1)
def frTo (bs : List Chan) (xss : List (List Int)) : Nat -> Bool
 | 0 => true
 | k + 1 => frTo bs xss k && match bs[k]?, xss[k]? with | some c, some xs => smpOK c xs | _, _ => true
def frOK (bs : List Chan) (st : Int) (xss : List (List Int)) : Bool := inB 0 st 1073741824 && (decide (xss.length = bs.length) && frTo bs xss bs.length)
theorem frTo_succ {bs : List Chan} {xss : List (List Int)} {k : Nat} {c : Chan} {xs : List Int} (h : bs[k]? = some c) (h2 : xss[k]? = some xs) : frTo bs xss (k + 1) = (frTo bs xss k && smpOK c xs) := by simp [frTo, h, h2]
theorem frTo_false {bs : List Chan} {xss : List (List Int)} {k : Nat} (h : frTo bs xss k = false) {n : Nat} (hn : k <= n) : frTo bs xss n = false := by
 induction n with
 | zero => obtain rfl : k = 0 := by omega
           exact h
 | succ n ih =>
   by_cases hk : k <= n
   · simp [frTo, ih hk]
   · obtain rfl : k = n + 1 := by omega
     exact h
theorem bookTo_get {bs : List Chan} {n : Nat} (h : bookTo bs n = true) {i : Nat} {c : Chan} (hi : i < n) (hc : bs[i]? = some c) : chanOK c = true := by
 induction n with
 | zero => omega
 | succ n ih =>
   simp only [bookTo, Bool.and_eq_true] at h
   by_cases hin : i < n
   · exact ih h.1 hin
   · obtain rfl : i = n := by omega
     have := h.2
     rw [hc] at this
     simp only [Bool.and_eq_true] at this
     exact this.1
theorem book_get {bs : List Chan} (h : bookOK bs = true) {i : Nat} {c : Chan} (hc : bs[i]? = some c) : 1 <= c.rate /\ c.rate <= 64 /\ 2 <= c.bits /\ c.bits <= 24 := by
 simp only [bookOK, Bool.and_eq_true] at h
 have h1 := bookTo_get h.2 (List.getElem?_eq_some_iff.1 hc).1 hc
 simp only [chanOK, inB, Bool.and_eq_true, decide_eq_true_eq] at h1
 omega
theorem frameOK1_any (n m : Int) (bc : Nat) (w : World) (hc : w.cell? ⟨bc, 0, none⟩ = some (.int .i64 m)) (h1 : 1 <= m) (h2 : m <= 8388608) :
 Calls Tryz.prog 231 #[.int .i64 n, .pointer (some ⟨bc, 0, none⟩)] w fun e w' => e = .returned (.bool (!inB (-m) n (m - 1))) /\ w = w' := by
 go_enter Tryz.func231, Tryz.ntmps231
 go_wp2_with (go_at_call 98; refine (within_any _ _ _ _).mono ?_; rintro e w' ⟨rfl, rfl⟩)
 go_ret
 exact ⟨rfl, rfl⟩
theorem new2_cell (w : World) (o : Obj) (cs : Array Value) (T : TypeId) (i : Nat) : ((w.alloc o).alloc (.cells cs T)).cell? ⟨w.heap.size + 1, i, none⟩ = cs[i]? := by
 simp
theorem most_bd {c : Chan} (h1 : 2 <= c.bits) (h2 : c.bits <= 24) : 1 <= mostOf c /\ mostOf c <= 8388608 /\ (1 : Int) * 2 ^ (c.bits - 1).toNat = mostOf c := by
 have hn : (c.bits - 1).toNat <= 23 := by omega
 have h3 : (2 : Nat) ^ (c.bits - 1).toNat <= 2 ^ 23 := Nat.pow_le_pow_right (by decide) hn
 have h4 : ((2 ^ (c.bits - 1).toNat : Nat) : Int) = mostOf c := by simp [mostOf]
 have h5 : 0 < (2 : Nat) ^ (c.bits - 1).toNat := Nat.pow_pos (by decide)
 have h6 : (2 : Nat) ^ 23 = 8388608 := by decide
 refine ⟨by omega, by omega, by simp [mostOf]⟩
set_option maxRecDepth 100000 in
set_option maxHeartbeats 1000000 in
theorem frameOK_any (ao : Option Addr) (bs : List Chan) (cap : Nat) (st : Int) (asm : Option Addr) (vs : List Value) (xss : List (List Int)) (cs : Nat) (w : World) (hc : Cells w ao (chs bs)) (hl : bs.length <= 9223372036854775807) (hs : Cells w asm vs) (hr : RowsV w vs xss) (_hls : xss.length <= 9223372036854775807) (hbk : bookOK bs = true) :
 Calls Tryz.prog 179 #[.slice ao bs.length cap, .agg #[.int .i64 st, .slice asm xss.length cs]] w fun e w' => e = .returned (.bool (frOK bs st xss)) /\ Below w.heap.size w w' := by
 have HC := Lib.hid hc; have HS := Lib.hid hs; have HR := Lib.hid hr; have HBK := Lib.hid hbk
 clear hc hs hr hbk
 cases h1 : inB 0 st 1073741824
 · have hf : frOK bs st xss = false := by simp [frOK, h1]
   have HF := Lib.hid hf; clear hf
   go_enter Tryz.func179, Tryz.ntmps179
   go_wp2_with (go_at_call 98; refine (within_any _ _ _ _).mono ?_; rintro e w' ⟨rfl, rfl⟩)
   go_ret
   exact ⟨ret_bool HF.out.symm, (Below.refl _ _).alloc (Nat.le_refl _) _⟩
 · by_cases h2 : xss.length = bs.length
   · have hf : frOK bs st xss = frTo bs xss bs.length := by simp [frOK, h1, h2]
     have HF := Lib.hid hf; clear hf
     have hlen : ((xss.length : Int) != bs.length) = false := by simp [h2]
     have H2 := Lib.hid h2; clear h2
     have hle1 : xss.length <= bs.length := by have := H2.out; omega
     have hle2 : bs.length <= xss.length := by have := H2.out; omega
     go_enter Tryz.func179, Tryz.ntmps179
     go_wp2_with (go_at_call 98; refine (within_any _ _ _ _).mono ?_; rintro e w' ⟨rfl, rfl⟩)
     go_loopw [22] (fun i wr => ∃ k : Nat, k <= bs.length /\ i = .int .i64 k /\ frTo bs xss k = true /\ Below (w.heap.size + 1) (w.alloc (.cells #[.int .i64 st, .slice asm xss.length cs] 108)) wr) (fun i _ => bs.length - (intOf i).toNat)
     case atStart => exact ⟨0, Nat.zero_le _, rfl, rfl, Below.refl _ _⟩
     case round =>
      obtain ⟨k, hk, rfl, hfr, hb⟩ := hrel
      have HFR := Lib.hid hfr; clear hfr
      have p1 : wr.cell? ⟨w.heap.size, 1, none⟩ = some (.slice asm xss.length cs) := box_keep hb (by simp) 1
      have hbw : Below w.heap.size w wr := ((Below.refl _ _).alloc (Nat.le_refl _) _).trans (hb.mono (by omega))
      have hsz : w.heap.size + 1 <= wr.heap.size := by have := hb.size; simpa using this
      by_cases hlt : k < bs.length
      · obtain ⟨c, hx⟩ := get_of_lt hlt
        obtain ⟨xs, hxs⟩ := get_of_lt (show k < xss.length by omega)
        obtain ⟨v, hv⟩ := get_of_lt (show k < vs.length by have := HR.out.1; omega)
        obtain ⟨b, off, rfl⟩ := HC.out.addr (chs_ne (by omega))
        obtain ⟨b2, off2, rfl⟩ := HS.out.addr (List.ne_nil_of_length_pos (by have := HR.out.1; omega))
        obtain ⟨g0, g1, g2⟩ := chs_get hx
        have c0 := cell_keep (HC.out.at g0) hbw (Nat.le_refl _)
        have c1 := cell_keep (HC.out.at g1) hbw (Nat.le_refl _)
        have c2 := cell_keep (HC.out.at g2) hbw (Nat.le_refl _)
        rw [<- Nat.add_assoc] at c1 c2
        have c3 := cell_keep (HS.out.at hv) hbw (Nat.le_refl _)
        have hrow := HR.out.2 k v xs hv hxs
        obtain ⟨ax, cx, rfl, hax, haxl⟩ := hrow
        have hck := book_get HBK.out hx
        obtain ⟨k1, k2, k3, k4⟩ := hck
        obtain ⟨m1, m2, m3⟩ := most_bd k3 k4
        have hst := frTo_succ hx hxs
        rw [HFR.out, Bool.true_and] at hst
        have HST := Lib.hid hst; have HAX := Lib.hid hax; have M3 := Lib.hid m3
        clear g0 g1 g2 hst hax hx hxs hv m3
        have hmx : (c.bits - 1).toNat <= 23 := by omega
        have hmin : min (c.bits - 1).toNat 64 = (c.bits - 1).toNat := by omega
        have hpw : (2 : Int) ^ (c.bits.toNat - 1) = mostOf c := by rw [mostOf]; congr 1; omega
        go_wp2
        clear hpw hmx hmin
        have hbq := (hb.alloc hsz (.cells #[.string c.name, .int .i64 c.rate, .int .i64 c.bits] 104)).alloc (by simp; omega) (.cells #[.int .i64 (mostOf c)] 3)
        have hwq := ((Below.refl wr.heap.size wr).alloc (Nat.le_refl _) (.cells #[.string c.name, .int .i64 c.rate, .int .i64 c.bits] 104)).alloc (by simp) (.cells #[.int .i64 (mostOf c)] 3)
        have q3 := cell_keep c3 hwq (Nat.le_refl _)
        have qr : ((wr.alloc (.cells #[.string c.name, .int .i64 c.rate, .int .i64 c.bits] 104)).alloc (.cells #[.int .i64 (mostOf c)] 3)).cell? ⟨wr.heap.size, 1, none⟩ = some (.int .i64 c.rate) := by simp
        have qm : ((wr.alloc (.cells #[.string c.name, .int .i64 c.rate, .int .i64 c.bits] 104)).alloc (.cells #[.int .i64 (mostOf c)] 3)).cell? ⟨wr.heap.size + 1, 0, none⟩ = some (.int .i64 (mostOf c)) := new2_cell _ _ _ _ 0
        have hsq : wr.heap.size + 2 <= ((wr.alloc (.cells #[.string c.name, .int .i64 c.rate, .int .i64 c.bits] 104)).alloc (.cells #[.int .i64 (mostOf c)] 3)).heap.size := by simp
        generalize ((wr.alloc (.cells #[.string c.name, .int .i64 c.rate, .int .i64 c.bits] 104)).alloc (.cells #[.int .i64 (mostOf c)] 3)) = wq at *
        clear c0 c1 c2 c3 p1 hb hwq
        have p1 : wq.cell? ⟨w.heap.size, 1, none⟩ = some (.slice (some ⟨b2, off2, none⟩) xss.length cs) := box_keep hbq (by simp) 1
        have hbw2 : Below w.heap.size w wq := ((Below.refl _ _).alloc (Nat.le_refl _) _).trans (hbq.mono (by omega))
        have ki1 : (k : Int) < xss.length := by omega
        by_cases hlr : (xs.length : Int) = c.rate
        · have hst : frTo bs xss (k + 1) = !xs.any (fun n => !inB (-(mostOf c)) n (mostOf c - 1)) := by rw [HST.out]; simp [smpOK, hlr]
          have HST2 := Lib.hid hst; clear hst
          have hneq : ((xs.length : Int) != c.rate) = false := by simp [hlr]
          clear hlr
          go_still_tail 16, (by kernel_rfl)
          change wpList _ _ _ _ _ wq.drew
          have qm2 : wq.drew.cell? ⟨wr.heap.size + 1, 0, none⟩ = some (.int .i64 (mostOf c)) := qm
          have hbd : Below w.heap.size w wq.drew := hbw2.drew
          have hbqd : Below (w.heap.size + 1) (w.alloc (.cells #[.int .i64 st, .slice (some ⟨b2, off2, none⟩) xss.length cs] 108)) wq.drew := hbq.drew
          have hsq2 : wr.heap.size + 2 <= wq.drew.heap.size := hsq
          generalize wq.drew = wd at *
          clear qm qr q3 p1 hbq hbw2 hsq
          go_wp2_with fail
          refine (containsFunc_ints 231 #[.pointer (some ⟨wr.heap.size + 1, 0, none⟩)] (fun n => !inB (-(mostOf c)) n (mostOf c - 1)) ax xs cx wd (HAX.out.below hbd (Nat.le_refl _)) (by omega) (fun _ _ => by kernel_rfl) (fun x wx _ hbe => (frameOK1_any x (mostOf c) (wr.heap.size + 1) wx (cell_keep qm2 hbe (Nat.le_refl _)) m1 m2).mono fun e w' h => ⟨h.1, h.2 ▸ Below.refl _ _⟩)).mono ?_
          rintro e w1 ⟨rfl, hb1⟩
          have hbz := hbqd.trans (hb1.mono (by omega))
          cases hany : xs.any (fun n => !inB (-(mostOf c)) n (mostOf c - 1))
          · have hfr2 : frTo bs xss (k + 1) = true := by rw [HST2.out, hany]; rfl
            have HFR2 := Lib.hid hfr2; clear hfr2 hany
            go_wp2
            go_roundw
            case rel => exact ⟨k + 1, by omega, by go_num, HFR2.out, hbz⟩
            case measure => simp [intOf]; omega
          · have hfr2 : frTo bs xss bs.length = false := frTo_false (k := k + 1) (by rw [HST2.out, hany]; rfl) (by omega)
            have HFR2 := Lib.hid hfr2; clear hfr2 hany
            go_wp2
            go_ret
            exact ⟨ret_bool (by rw [HF.out, HFR2.out]), ((Below.refl _ _).alloc (Nat.le_refl _) _).trans (hbz.mono (by omega))⟩
        · have hfr2 : frTo bs xss bs.length = false := frTo_false (k := k + 1) (by rw [HST.out]; simp [smpOK, hlr]) (by omega)
          have HFR2 := Lib.hid hfr2; clear hfr2
          have hneq : ((xs.length : Int) != c.rate) = true := by simpa using hlr
          go_quiet (fail)
          go_wp2
          go_ret
          exact ⟨ret_bool (by rw [HF.out, HFR2.out]), bel_drewN hbw2 _⟩
      · obtain rfl : k = bs.length := by omega
        go_wp2
        go_ret
        exact ⟨ret_bool (by rw [HF.out, HFR.out]), hbw⟩
   · have hf : frOK bs st xss = false := by simp [frOK, h2]
     have HF := Lib.hid hf; clear hf
     have hlen : ((xss.length : Int) != bs.length) = true := by simp; omega
     go_enter Tryz.func179, Tryz.ntmps179
     go_wp2_with (go_at_call 98; refine (within_any _ _ _ _).mono ?_; rintro e w' ⟨rfl, rfl⟩)
     go_ret
     exact ⟨ret_bool HF.out.symm, (Below.refl _ _).alloc (Nat.le_refl _) _⟩
end Go.Proofs.YtdpjdifoonfcdaaGreatDoor

namespace Go.Proofs.YtdpjdifoonfcdaaGreatDoor
open Go.RowKit
def frmErr (bs : List Chan) (st : Int) (xss : List (List Int)) : Int := if bookErr bs ≠ 0 then bookErr bs else if frOK bs st xss then 0 else 51
theorem bookErr_zero {bs : List Chan} (h : bookErr bs = 0) : bookOK bs = true := by
 cases e : bookOK bs
 · simp [bookErr, e] at h
 · rfl
structure BookIn (w : World) (ao : Option Addr) (bs : List Chan) (cap : Nat) : Prop where
 cells : Cells w ao (chs bs)
 len : bs.length <= 9223372036854775807
 lecap : bs.length <= cap
 cap2 : cap <= 9223372036854775807
 names : ∀ c ∈ bs, c.name.size <= 9223372036854775807
 rates : ∀ c ∈ bs, -9223372036854775808 <= c.rate
theorem BookIn.below {w w' : World} {B : Nat} {ao : Option Addr} {bs : List Chan} {cap : Nat} (h : BookIn w ao bs cap) (hb : Below B w w') (hB : w.heap.size <= B) : BookIn w' ao bs cap :=
 ⟨h.cells.below hb hB, h.len, h.lecap, h.cap2, h.names, h.rates⟩
end Go.Proofs.YtdpjdifoonfcdaaGreatDoor

namespace Go.Proofs.YtdpjdifoonfcdaaGreatDoor
open Go.RowKit
structure Frm where
 st : Int
 a : Option Addr
 c : Nat
 xss : List (List Int)
def frs (l : List Frm) : List Value := l.flatMap fun f => [.int .i64 f.st, .slice f.a f.xss.length f.c]
theorem frs_cons (t : Frm) (l : List Frm) : frs (t :: l) = .int .i64 t.st :: .slice t.a t.xss.length t.c :: frs l := rfl
theorem frs_length (l : List Frm) : (frs l).length = l.length * 2 := by
 induction l with
 | nil => rfl
 | cons t l ih => simp only [frs_cons, List.length_cons, ih]; omega
theorem frs_get {l : List Frm} {i : Nat} {t : Frm} (h : l[i]? = some t) : (frs l)[i * 2]? = some (.int .i64 t.st) /\ (frs l)[i * 2 + 1]? = some (.slice t.a t.xss.length t.c) := by
 induction l generalizing i with
 | nil => simp at h
 | cons s l ih =>
   cases i with
   | zero => simp at h; subst h; simp [frs_cons]
   | succ i =>
     have e : (i + 1) * 2 = i * 2 + 1 + 1 := by omega
     have e1 : (i + 1) * 2 + 1 = i * 2 + 1 + 1 + 1 := by omega
     rw [frs_cons, e1, e]
     simp only [List.getElem?_cons_succ]
     exact ih (by simpa using h)
theorem frs_ne {l : List Frm} (h : 0 < l.length) : frs l ≠ [] := by
 intro e; have := frs_length l; rw [e] at this; simp at this; omega
def FrmIn (w : World) (f : Frm) : Prop := f.xss.length <= 9223372036854775807 /\ ∃ vs, Cells w f.a vs /\ RowsV w vs f.xss
theorem FrmIn.below {w w' : World} {B : Nat} {f : Frm} (h : FrmIn w f) (hb : Below B w w') (hB : w.heap.size <= B) : FrmIn w' f := by
 obtain ⟨h0, vs, h1, h2⟩ := h; exact ⟨h0, vs, h1.below hb hB, h2.below hb hB⟩
structure RecIn (w : World) (al : Option Addr) (l : List Frm) : Prop where
 cells : Cells w al (frs l)
 len : l.length <= 9223372036854775807
 rows : ∀ f ∈ l, FrmIn w f
theorem RecIn.below {w w' : World} {B : Nat} {al : Option Addr} {l : List Frm} (h : RecIn w al l) (hb : Below B w w') (hB : w.heap.size <= B) : RecIn w' al l :=
 ⟨h.cells.below hb hB, h.len, fun f hf => (h.rows f hf).below hb hB⟩
set_option maxRecDepth 100000 in
theorem indexFunc_frms (F : FuncId) (capd : Array Value) (p : Frm -> Bool) (ao : Option Addr) (xs : List Frm) (cap : Nat) (w : World) (hc : Cells w ao (frs xs)) (hl : xs.length <= 9223372036854775807)
 (hcf : ∀ (vs : Array Value) (wx : World), Sem.run Tryz.prog (callFunc F vs) wx = .ok (.enter F vs) wx)
 (hF : ∀ x wx, x ∈ xs -> Below w.heap.size w wx -> Calls Tryz.prog F (#[.agg #[.int .i64 x.st, .slice x.a x.xss.length x.c]] ++ capd) wx fun e w' => e = .returned (.bool (p x)) /\ Below wx.heap.size wx w') :
 Calls Tryz.prog 230 #[.slice ao xs.length cap, .func (.func F) #[] capd] w fun e w' => (∃ r : Int, e = .returned (.int .i64 r) /\ (0 <= r ↔ xs.any p = true)) /\ Below w.heap.size w w' := by
 go_enter Tryz.func230, Tryz.ntmps230
 go_wp2
 go_loopw [8] (fun i wr => ∃ k : Nat, k <= xs.length /\ i = .int .i64 k /\ (xs.take k).any p = false /\ Below w.heap.size w wr) (fun i _ => xs.length - (intOf i).toNat)
 case atStart => exact ⟨0, Nat.zero_le _, rfl, rfl, Below.refl _ _⟩
 case round =>
  obtain ⟨k, hk, rfl, hany, hb⟩ := hrel
  by_cases hlt : k < xs.length
  · obtain ⟨x, hx⟩ := get_of_lt hlt
    obtain ⟨b, off, rfl⟩ := hc.addr (frs_ne (by omega))
    obtain ⟨g0, g1⟩ := frs_get hx
    have hcell1 := cell_keep (hc.at g0) hb (Nat.le_refl _)
    have hcell2 := cell_keep (hc.at g1) hb (Nat.le_refl _)
    rw [<- Nat.add_assoc] at hcell2
    clear g0 g1
    have HX := Lib.hid hx; clear hx
    have HC := Lib.hid hc; clear hc
    have HF := Lib.hid hF; clear hF
    have HA := Lib.hid hany; clear hany
    go_wp2_with fail
    refine (HF.out x wr (List.mem_of_getElem? HX.out) hb).mono ?_
    rintro e w1 ⟨rfl, hb1⟩
    have hb2 := hb.trans (hb1.mono hb.size)
    clear hb1
    by_cases hp : p x = true
    · go_wp2
      go_ret
      refine ⟨⟨_, rfl, ?_⟩, hb2⟩
      simp only [Int.natCast_nonneg, true_iff, List.any_eq_true]
      exact ⟨x, List.mem_of_getElem? HX.out, hp⟩
    · simp only [Bool.not_eq_true] at hp
      go_wp2
      go_roundw
      case rel => exact ⟨k + 1, by omega, by go_num, by rw [take_get HX.out, List.any_append, HA.out]; simp [hp], hb2⟩
      case measure => simp [intOf]; omega
  · obtain rfl : k = xs.length := by omega
    rw [List.take_length] at hany
    have HA := Lib.hid hany; clear hany
    go_wp2
    go_ret
    exact ⟨⟨_, rfl, by rw [HA.out]; simp⟩, hb⟩
set_option maxRecDepth 100000 in
theorem containsFunc_frms (F : FuncId) (capd : Array Value) (p : Frm -> Bool) (ao : Option Addr) (xs : List Frm) (cap : Nat) (w : World) (hc : Cells w ao (frs xs)) (hl : xs.length <= 9223372036854775807)
 (hcf : ∀ (vs : Array Value) (wx : World), Sem.run Tryz.prog (callFunc F vs) wx = .ok (.enter F vs) wx)
 (hF : ∀ x wx, x ∈ xs -> Below w.heap.size w wx -> Calls Tryz.prog F (#[.agg #[.int .i64 x.st, .slice x.a x.xss.length x.c]] ++ capd) wx fun e w' => e = .returned (.bool (p x)) /\ Below wx.heap.size wx w') :
 Calls Tryz.prog 177 #[.slice ao xs.length cap, .func (.func F) #[] capd] w fun e w' => e = .returned (.bool (xs.any p)) /\ Below w.heap.size w w' := by
 have HC := Lib.hid hc; clear hc
 have HF := Lib.hid hF; clear hF
 have HCF := Lib.hid hcf; clear hcf
 go_enter Tryz.func177, Tryz.ntmps177
 go_wp2_with fail
 refine (indexFunc_frms F capd p ao xs cap w HC.out hl HCF.out HF.out).mono ?_
 rintro e w1 ⟨⟨r, rfl, hr⟩, hb⟩
 have HR := Lib.hid hr; clear hr
 go_wp2
 go_ret
 exact ⟨ret_bool (by rw [Bool.eq_iff_iff, decide_eq_true_iff]; exact HR.out), hb⟩
theorem checkRecord1_any (ao : Option Addr) (bs : List Chan) (cap : Nat) (bc : Nat) (x : Frm) (w : World) (hc : w.cell? ⟨bc, 0, none⟩ = some (.slice ao bs.length cap)) (hb : Cells w ao (chs bs)) (hl : bs.length <= 9223372036854775807) (hx : FrmIn w x) (hbk : bookOK bs = true) :
 Calls Tryz.prog 178 #[.agg #[.int .i64 x.st, .slice x.a x.xss.length x.c], .pointer (some ⟨bc, 0, none⟩)] w fun e w' => e = .returned (.bool (!frOK bs x.st x.xss)) /\ Below w.heap.size w w' := by
 have hb0 := (Below.refl w.heap.size w).alloc (Nat.le_refl _) (.cells #[.int .i64 x.st, .slice x.a x.xss.length x.c] 108)
 have hc1 := cell_keep hc hb0 (Nat.le_refl _)
 obtain ⟨h0, vs, h1, h2⟩ := hx
 have hfr := frameOK_any ao bs cap x.st x.a vs x.xss x.c _ (hb.below hb0 (Nat.le_refl _)) hl (h1.below hb0 (Nat.le_refl _)) (h2.below hb0 (Nat.le_refl _)) h0 hbk
 have HFR := Lib.hid hfr
 have H1 := Lib.hid h1; have H2 := Lib.hid h2; have HB := Lib.hid hb
 clear hfr h1 h2 hb hc
 go_enter Tryz.func178, Tryz.ntmps178
 go_wp2_with fail
 refine HFR.out.mono ?_
 rintro e w1 ⟨rfl, hb1⟩
 have hf := hb0.trans (hb1.mono hb0.size)
 go_wp2
 go_ret
 exact ⟨rfl, hf⟩
def upTo (l : List Frm) : Nat -> Bool
 | 0 => true
 | k + 1 => upTo l k && (decide (k = 0) || decide ((l.getD (k - 1) ⟨0, none, 0, []⟩).st < (l.getD k ⟨0, none, 0, []⟩).st))
def recErr (bs : List Chan) (l : List Frm) : Int :=
 if bookErr bs ≠ 0 then bookErr bs else if 64 < l.length then 3 else if l.any fun f => !frOK bs f.st f.xss then 51 else if upTo l l.length = false then 52 else 0
theorem upTo_false {l : List Frm} {k : Nat} (h : upTo l k = false) {n : Nat} (hn : k <= n) : upTo l n = false := by
 induction n with
 | zero => obtain rfl : k = 0 := by omega
           exact h
 | succ n ih =>
   by_cases hk : k <= n
   · simp [upTo, ih hk]
   · obtain rfl : k = n + 1 := by omega
     exact h
set_option maxRecDepth 100000 in
set_option maxHeartbeats 1000000 in
theorem checkRecord_any (ao : Option Addr) (bs : List Chan) (cap : Nat) (al : Option Addr) (l : List Frm) (cl : Nat) (w : World) (hb : BookIn w ao bs cap) (hr : RecIn w al l) :
 Calls Tryz.prog 114 #[.slice ao bs.length cap, .slice al l.length cl] w fun e w' => e = .returned (.int .i64 (recErr bs l)) /\ Below w.heap.size w w' := by
 have HB := Lib.hid hb; have HR := Lib.hid hr
 have hll := hr.len
 clear hb hr
 have hb0 := (Below.refl w.heap.size w).alloc (Nat.le_refl _) (.cells #[.slice ao bs.length cap] 105)
 have hck := fun wx (h : BookIn wx ao bs cap) => checkBook_any ao bs cap wx h.cells (by have := h.len; omega) h.lecap h.cap2 h.names h.rates
 have HCK := Lib.hid hck; clear hck
 by_cases h1 : bookErr bs = 0
 · have hok := bookErr_zero h1
   by_cases h2 : 64 < l.length
   · have he : recErr bs l = 3 := by simp [recErr, h1, h2]
     have HE := Lib.hid he; have H1 := Lib.hid h1
     clear he h1 hok
     go_enter Tryz.func114, Tryz.ntmps114
     go_wp2_with fail
     refine (HCK.out _ (HB.out.below hb0 (Nat.le_refl _))).mono ?_
     rintro e w1 ⟨rfl, hb1⟩
     rw [H1.out]
     have hf := hb0.trans (hb1.mono hb0.size)
     go_wp2
     go_ret
     exact ⟨ret_int HE.out.symm, hf⟩
   · have HOK := Lib.hid hok; have H1 := Lib.hid h1
     cases h3 : l.any fun f => !frOK bs f.st f.xss
     · have he : recErr bs l = if upTo l l.length = false then 52 else 0 := by rw [recErr, if_neg (by simpa using h1), if_neg h2, h3]; rfl
       have HE := Lib.hid he; have H3 := Lib.hid h3
       clear he h1 hok h3
       go_enter Tryz.func114, Tryz.ntmps114
       go_wp2_with fail
       refine (HCK.out _ (HB.out.below hb0 (Nat.le_refl _))).mono ?_
       rintro e w1 ⟨rfl, hb1⟩
       rw [H1.out]
       have hf := hb0.trans (hb1.mono hb0.size)
       have q0 : w1.cell? ⟨w.heap.size, 0, none⟩ = some (.slice ao bs.length cap) := box_keep hb1 (by simp) 0
       have HR1 := Lib.hid (HR.out.below hf (Nat.le_refl _))
       have HB1 := Lib.hid (HB.out.below hf (Nat.le_refl _))
       clear hb1
       go_wp2_with fail
       refine (containsFunc_frms 178 #[.pointer (some ⟨w.heap.size, 0, none⟩)] (fun f => !frOK bs f.st f.xss) al l cl w1 HR1.out.cells (by omega) (fun _ _ => by kernel_rfl) (fun x wx hx hbx => checkRecord1_any ao bs cap w.heap.size x wx (cell_keep q0 hbx (Nat.le_refl _)) (HB1.out.cells.below hbx (Nat.le_refl _)) HB1.out.len ((HR1.out.rows x hx).below hbx (Nat.le_refl _)) HOK.out)).mono ?_
       rintro e w2 ⟨rfl, hb2⟩
       rw [H3.out]
       have hf2 := hf.trans (hb2.mono hf.size)
       have HR2 := Lib.hid (HR1.out.below hb2 (Nat.le_refl _))
       have hrf := Below.refl w2.heap.size w2
       have HF2 := Lib.hid hf2
       clear hb2 hf hf2 q0
       go_wp2
       go_loopw [20] (fun i wr => ∃ k : Nat, k <= l.length /\ i = .int .i64 k /\ upTo l k = true /\ Below w2.heap.size w2 wr) (fun i _ => l.length - (intOf i).toNat)
       case atStart => exact ⟨0, Nat.zero_le _, rfl, rfl, hrf⟩
       case round =>
        clear hrf
        obtain ⟨k, hk, rfl, hup, hbr⟩ := hrel
        have HU := Lib.hid hup; clear hup
        by_cases hlt : k < l.length
        · obtain ⟨y, hy⟩ := get_of_lt hlt
          obtain ⟨bl, ol, rfl⟩ := HR2.out.cells.addr (frs_ne (by omega))
          have c1 := cell_keep (HR2.out.cells.at (frs_get hy).1) hbr (Nat.le_refl _)
          have hyd : l.getD k ⟨0, none, 0, []⟩ = y := by rw [List.getD_eq_getElem?_getD, hy]; rfl
          by_cases h0 : k = 0
          · subst h0
            have hst : upTo l (0 + 1) = true := by simp [upTo]
            have HST := Lib.hid hst
            clear hst hyd hy
            rw [show ((0 : Nat) : Int) = 0 from rfl]
            have d0 : decide ((0 : Int) < 0) = false := by decide
            go_wp2_with fail
            go_quiet (fail)
            go_wp2
            go_roundw
            case rel => exact ⟨0 + 1, by omega, by go_num, HST.out, bel_drewN hbr _⟩
            case measure => simp [intOf]; omega
          · obtain ⟨x, hx⟩ := get_of_lt (show k - 1 < l.length by omega)
            have c0 := cell_keep (HR2.out.cells.at (frs_get hx).1) hbr (Nat.le_refl _)
            have hxd : l.getD (k - 1) ⟨0, none, 0, []⟩ = x := by rw [List.getD_eq_getElem?_getD, hx]; rfl
            have hst : upTo l (k + 1) = decide (x.st < y.st) := by rw [upTo, HU.out, hxd, hyd]; simp [h0]
            have HST := Lib.hid hst
            clear hst hyd hy hx hxd
            have a1 : IntKind.i64.wrap ((k : Int) - 1) = (k : Int) - 1 := IntWalk.i64_in _ (by omega)
            have a2 : ((k : Int) - 1).toNat = k - 1 := by omega
            have a3 : (0 : Int) <= (k : Int) - 1 := by omega
            have a3' : (1 : Int) <= (k : Int) := by omega
            have a4 : (k : Int) - 1 < (l.length : Int) := by omega
            have a5 : (0 : Int) < k := by omega
            have d5 : decide (0 < k) = true := by simp; omega
            have a6 : (k : Int) < (l.length : Int) := by omega
            have a7 : (0 : Int) <= (k : Int) := by omega
            generalize x.st = xs at *
            generalize y.st = ys at *
            by_cases hxy : xs < ys
            · have d1 : decide (ys <= xs) = false := by simp; omega
              go_wp2_with fail
              go_quiet (fail)
              go_wp2
              go_roundw
              case rel => exact ⟨k + 1, by omega, by go_num, by rw [HST.out]; simpa using hxy, bel_drewN hbr _⟩
              case measure => simp [intOf]; omega
            · have d1 : decide (ys <= xs) = true := by simp; omega
              have hfl : upTo l l.length = false := upTo_false (k := k + 1) (by rw [HST.out]; simpa using hxy) (by omega)
              have HFL := Lib.hid hfl
              clear hfl
              go_wp2_with fail
              go_quiet (fail)
              go_wp2
              go_ret
              exact ⟨ret_int (by rw [HE.out, HFL.out]; rfl), HF2.out.trans ((bel_drewN hbr _).mono HF2.out.size)⟩
        · obtain rfl : k = l.length := by omega
          go_wp2
          go_ret
          exact ⟨ret_int (by rw [HE.out, HU.out]; rfl), HF2.out.trans (hbr.mono HF2.out.size)⟩
     · have he : recErr bs l = 51 := by rw [recErr, if_neg (by simpa using h1), if_neg h2, h3]; rfl
       have HE := Lib.hid he; have H3 := Lib.hid h3
       clear he h1 hok h3
       go_enter Tryz.func114, Tryz.ntmps114
       go_wp2_with fail
       refine (HCK.out _ (HB.out.below hb0 (Nat.le_refl _))).mono ?_
       rintro e w1 ⟨rfl, hb1⟩
       rw [H1.out]
       have hf := hb0.trans (hb1.mono hb0.size)
       have q0 : w1.cell? ⟨w.heap.size, 0, none⟩ = some (.slice ao bs.length cap) := box_keep hb1 (by simp) 0
       have HR1 := Lib.hid (HR.out.below hf (Nat.le_refl _))
       have HB1 := Lib.hid (HB.out.below hf (Nat.le_refl _))
       clear hb1
       go_wp2_with fail
       refine (containsFunc_frms 178 #[.pointer (some ⟨w.heap.size, 0, none⟩)] (fun f => !frOK bs f.st f.xss) al l cl w1 HR1.out.cells (by omega) (fun _ _ => by kernel_rfl) (fun x wx hx hbx => checkRecord1_any ao bs cap w.heap.size x wx (cell_keep q0 hbx (Nat.le_refl _)) (HB1.out.cells.below hbx (Nat.le_refl _)) HB1.out.len ((HR1.out.rows x hx).below hbx (Nat.le_refl _)) HOK.out)).mono ?_
       rintro e w2 ⟨rfl, hb2⟩
       rw [H3.out]
       have hf2 := hf.trans (hb2.mono hf.size)
       clear hb2 hf q0
       go_wp2
       go_ret
       exact ⟨ret_int HE.out.symm, hf2⟩
 · have he : recErr bs l = bookErr bs := by simp [recErr, h1]
   have h3 : (bookErr bs != 0) = true := by simpa using h1
   have h4 : (bookErr bs == 0) = false := by simpa using h1
   have HE := Lib.hid he; clear he
   go_enter Tryz.func114, Tryz.ntmps114
   go_wp2_with fail
   refine (HCK.out _ (HB.out.below hb0 (Nat.le_refl _))).mono ?_
   rintro e w1 ⟨rfl, hb1⟩
   have hf := hb0.trans (hb1.mono hb0.size)
   go_wp2
   go_ret
   exact ⟨ret_int HE.out.symm, hf⟩
end Go.Proofs.YtdpjdifoonfcdaaGreatDoor

namespace Go.Proofs.YtdpjdifoonfcdaaGreatDoor
open Go.RowKit
set_option maxRecDepth 100000 in
set_option maxHeartbeats 1000000 in
theorem residues_any (ao : Option Addr) (xs : List Int) (cap : Nat) (o : Nat) (w : World) (hc : Cells w ao (xs.map (Value.int .i64))) (hl : xs.length <= 4096) (ho : o <= 3) (hx : ∀ x ∈ xs, -8388608 <= x /\ x <= 8388608) :
 Calls Tryz.prog 183 #[.slice ao xs.length cap, .int .i64 (o : Nat)] w fun e w' => (∃ a c, e = .returned (.slice a (resid xs o).length c) /\ Cells w' a ((resid xs o).map (Value.int .i64)) /\ ∀ b off, a = some ⟨b, off, none⟩ -> w.heap.size <= b) /\ Below w.heap.size w w' := by
 have HC := Lib.hid hc; have HX := Lib.hid hx; clear hc hx
 go_enter Tryz.func183, Tryz.ntmps183
 go_wp2_with fail
 refine (clone_any ao xs cap w HC.out (by omega)).mono ?_
 rintro e w1 ⟨⟨v, rfl, hown⟩, hb1⟩
 obtain ⟨g, cg, hv⟩ : ∃ g cg, v = .slice g xs.length cg := by
  obtain ⟨a, c, h, _⟩ := own_cells hown; exact ⟨a, c, h⟩
 subst hv
 have HO := Lib.hid hown; clear hown
 go_wp2
 go_loopw [10] (fun i wr => ∃ k : Nat, k <= o /\ i = .int .i64 k /\ wr.ownsRow w.heap.size 3 1 (.slice g xs.length cg) xs.length ((resid xs k).map (Value.int .i64)) /\ Below w.heap.size w wr) (fun i _ => o - (intOf i).toNat)
 case atStart => exact ⟨0, Nat.zero_le _, rfl, HO.out, hb1⟩
 case round =>
  clear hb1
  obtain ⟨k, hk, rfl, hown, hb⟩ := hrel
  obtain ⟨wo, rfl⟩ : ∃ wo : World, wo = wr := ⟨_, rfl⟩
  have HO2 := Lib.hid hown; clear hown
  by_cases hlt : k < o
  · have hrl := resid_length xs k
    have hrb := resid_bd HX.out k (by omega)
    generalize hys : resid xs k = ys at *
    have HYS : Hid (resid xs (k + 1) = diffs ys) := by rw [<- hys]; rfl
    clear hys
    have HYB := Lib.hid hrb; clear hrb
    have hrl2 : xs.length = ys.length := hrl.symm
    have hyl : ys.length <= 4096 := by omega
    clear hl
    generalize xs.length = n at *
    subst hrl2
    clear hrl
    go_wp2
    go_loopw [6] (fun i wi => ∃ j : Nat, j <= ys.length /\ (j = 0 -> ys.length = 0) /\ i = .int .i64 ((j : Int) - 1) /\ wi.ownsRow w.heap.size 3 1 (.slice g ys.length cg) ys.length ((ys.take j ++ (diffs ys).drop j).map (Value.int .i64)) /\ Below w.heap.size w wi) (fun i _ => (intOf i + 1).toNat)
    case atStart =>
     refine ⟨ys.length, Nat.le_refl _, fun h => h, rfl, ?_, hb⟩
     rw [List.take_length, List.drop_eq_nil_of_le (by rw [diffs_length]; omega), List.append_nil]
     exact HO2.out
    case round =>
     clear hb
     obtain ⟨j, hj, hj0, rfl, hown, hb⟩ := hrel
     by_cases h1 : 1 < j
     · obtain ⟨q, rfl⟩ : ∃ q, j = q + 2 := ⟨j - 2, by omega⟩
       have e1 : (((q + 2 : Nat) : Int) - 1) = ((q + 1 : Nat) : Int) := by omega
       rw [e1]
       obtain ⟨x, hx⟩ := get_of_lt (show q + 1 < ys.length by omega)
       obtain ⟨y, hy⟩ := get_of_lt (show q < ys.length by omega)
       have hst := diff_step (xs := ys) (k := q + 1) (by omega) (by omega)
       have hxg : ys.getD (q + 1) 0 = x := by rw [List.getD_eq_getElem?_getD, hx]; rfl
       have hyg : ys.getD (q + 1 - 1) 0 = y := by rw [Nat.add_sub_cancel, List.getD_eq_getElem?_getD, hy]; rfl
       rw [hxg, hyg] at hst
       have bx := HYB.out x (List.mem_of_getElem? hx)
       have bY := HYB.out y (List.mem_of_getElem? hy)
       obtain ⟨bx1, bx2⟩ := bx
       obtain ⟨by1, by2⟩ := bY
       obtain ⟨a, c, hv, hcs⟩ := own_cells hown
       simp only [Value.slice.injEq, true_and] at hv
       obtain ⟨rfl, rfl⟩ := hv
       obtain ⟨gb, go, rfl⟩ := hcs.addr (List.ne_nil_of_length_pos (by rw [List.length_map, List.length_append, List.length_take]; omega))
       have hg0 : go = 0 := by
        rcases hown.2 with ⟨h, _⟩ | ⟨_, _, _, h, _⟩
        · simp at h
        · simp at h; exact h.1.2
       subst hg0
       have hlx : (ys.take (q + 2)).length = q + 2 := by rw [List.length_take]; omega
       have c1 : wr.cell? ⟨gb, q + 1, none⟩ = some (.int .i64 x) := by
        rw [hown.cellAt (q + 1) (by omega), List.getElem?_map, List.getElem?_append_left (by rw [hlx]; omega), List.getElem?_take, if_pos (by omega), hx]; rfl
       have c2 : wr.cell? ⟨gb, q, none⟩ = some (.int .i64 y) := by
        rw [hown.cellAt q (by omega), List.getElem?_map, List.getElem?_append_left (by rw [hlx]; omega), List.getElem?_take, if_pos (by omega), hy]; rfl
       have f1 := hown.frozenAt (q + 1)
       have hsto := (hown.stored (q + 1) (.int .i64 (x - y))).1
       rw [<- List.map_set, hst] at hsto
       have hgb : w.heap.size <= gb := (hown.lt gb rfl).1
       have hb2 : Below w.heap.size w (wr.setCell ⟨gb, q + 1, none⟩ (.int .i64 (x - y))) := hb.setCell hgb _
       have HST := Lib.hid hsto; have HB2 := Lib.hid hb2
       clear hsto hb2 hst hxg hyg hx hy hcs hown e1 hj0 hlx
       have i1 : (q : Int) + 1 < ys.length := by omega
       have i2 : (q : Int) < ys.length := by omega
       have i3 : (0 : Int) <= q := by omega
       have i4 : (0 : Int) <= (q : Int) + 1 := by omega
       have i5 : (q : Int) + 1 = ((q + 1 : Nat) : Int) := by omega
       have I5 := Lib.hid i5; clear i5
       have q1 : IntKind.i64.wrap (((q + 1 : Nat) : Int) - 1) = (q : Int) := by rw [IntWalk.i64_in _ (by omega)]; omega
       have q6 : IntKind.i64.wrap (q : Int) = (q : Int) := IntWalk.i64_in _ (by omega)
       have q2 : IntKind.i64.wrap (x - y) = x - y := IntWalk.i64_in _ (by omega)
       have q5 : IntKind.i64.wrap ((q : Int) + 1 - 1) = (q : Int) := by rw [IntWalk.i64_in _ (by omega)]; omega
       have q3 : (((q : Int) + 1)).toNat = q + 1 := by omega
       go_wp2
       go_still_tail 11, (by kernel_rfl)
       change wpList _ _ _ _ _ wr.drew
       have c1d : wr.drew.cell? ⟨gb, q + 1, none⟩ = some (.int .i64 x) := c1
       have f1d : wr.drew.frozen? ⟨gb, q + 1, none⟩ = false := f1
       have HSTd : Hid ((wr.drew.setCell ⟨gb, q + 1, none⟩ (.int .i64 (x - y))).ownsRow w.heap.size 3 1 (.slice (some ⟨gb, 0, none⟩) ys.length cg) ys.length ((ys.take (q + 1) ++ (diffs ys).drop (q + 1)).map (Value.int .i64))) := HST.out
       have HB2d : Hid (Below w.heap.size w (wr.drew.setCell ⟨gb, q + 1, none⟩ (.int .i64 (x - y)))) := by
        have h := HB2.out
        exact ⟨h.os, h.tape, h.output, h.size, h.block⟩
       clear HST HB2 c1 c2 f1 q1 q2 q5 q6 q3
       generalize wr.drew = wd at *
       go_wp2
       go_roundw
       case rel => exact ⟨q + 1, by omega, by omega, by go_num, HSTd.out, HB2d.out⟩
       case measure => simp [intOf]; omega
     · have hfin : wr.ownsRow w.heap.size 3 1 (.slice g ys.length cg) ys.length ((diffs ys).map (Value.int .i64)) := by
        by_cases hj1 : j = 1
        · subst hj1; rw [diff_end (by omega)] at hown; exact hown
        · obtain rfl : j = 0 := by omega
          have h0 := hj0 rfl
          have e0 : ys = [] := List.length_eq_zero_iff.1 h0
          subst e0
          simpa [diffs] using hown
       have HF := Lib.hid hfin; clear hfin hown hj0
       have hle : ((j : Int) - 1) <= 0 := by omega
       go_wp2
       go_roundw
       case rel => exact ⟨k + 1, by omega, by go_num, by rw [HYS.out]; exact HF.out, hb⟩
       case measure => simp [intOf]; omega
  · obtain rfl : k = o := by omega
    obtain ⟨a, c, hv, hcs⟩ := own_cells HO2.out
    simp only [Value.slice.injEq, true_and] at hv
    obtain ⟨rfl, rfl⟩ := hv
    have HCS := Lib.hid hcs; clear hcs
    have hrl := resid_length xs k
    have HRL := Lib.hid hrl; clear hrl
    go_wp2
    go_ret
    exact ⟨⟨_, _, by rw [HRL.out]; rfl, HCS.out, fun b off h => (HO2.out.lt b (by rw [h]; rfl)).1⟩, hb⟩
end Go.Proofs.YtdpjdifoonfcdaaGreatDoor

namespace Go.Proofs.YtdpjdifoonfcdaaGreatDoor
open Go.RowKit
def binL (n : Int) : Nat -> List Nat
 | 0 => []
 | k + 1 => (n / 2 ^ k % 2).toNat :: binL n k
theorem binL_length (n : Int) (k : Nat) : (binL n k).length = k := by
 induction k with
 | zero => rfl
 | succ k ih => simp [binL, ih]
structure KeepS (S : Nat -> Prop) (B : Nat) (w w' : World) : Prop where
 below : Below B w w'
 same : ∀ k, S k -> w'.heap[k]? = w.heap[k]?
theorem KeepS.refl (S : Nat -> Prop) (B : Nat) (w : World) : KeepS S B w w := ⟨Below.refl _ _, fun _ _ => rfl⟩
theorem KeepS.trans {S : Nat -> Prop} {B : Nat} {a b c : World} (h : KeepS S B a b) (k : KeepS S B b c) : KeepS S B a c :=
 ⟨h.below.trans k.below, fun i hi => (k.same i hi).trans (h.same i hi)⟩
theorem KeepS.drew {S : Nat -> Prop} {B : Nat} {a b : World} (h : KeepS S B a b) : KeepS S B a b.drew := ⟨h.below.drew, h.same⟩
theorem KeepS.mono {S S' : Nat -> Prop} {B : Nat} {a b : World} (h : KeepS S B a b) (hs : ∀ k, S' k -> S k) : KeepS S' B a b := ⟨h.below, fun k hk => h.same k (hs k hk)⟩
theorem KeepS.cell {S : Nat -> Prop} {B : Nat} {w w' : World} (h : KeepS S B w w') {b i : Nat} {v : Value} (hb : S b) (hc : w.cell? ⟨b, i, none⟩ = some v) : w'.cell? ⟨b, i, none⟩ = some v := by
 rw [World.cell?_of_block (w := w) (a := ⟨b, i, none⟩) (h.same b hb)]; exact hc
structure SinkOK (T : TypeId) (pv : Value) (F : FuncId) (B : Nat) (St : (Nat -> Prop) -> World -> List Nat -> Prop) : Prop where
 alloc : ∀ S w bs o, St S w bs -> St (fun k => S k ∨ k = w.heap.size) (w.alloc o) bs
 drew : ∀ S w bs, St S w bs -> St S w.drew bs
 mono : ∀ (S S' : Nat -> Prop) w bs, (∀ k, S' k -> S k) -> St S w bs -> St S' w bs
 size : ∀ S w bs, St S w bs -> B <= w.heap.size
 lt : ∀ (S : Nat -> Prop) w bs k, St S w bs -> S k -> k < w.heap.size
 put : ∀ S w bs (n : Int) (k : Nat), St S w bs -> 0 <= n -> n <= 4294967295 -> k <= 32 -> bs.length <= 1099511627776 ->
  Calls Tryz.prog F #[pv, .int .i64 n, .int .i64 (k : Nat)] w fun e w' => e = .returned (.tuple #[]) /\ St S w' (bs ++ binL n k) /\ KeepS S B w w'
 meth : ∀ w d, (method (d + 1) T pv "ringdown/record.put").run Tryz.prog w = .ok (F, pv) w
 ahead : ∀ w d, (nilAhead (d + 1) T pv "ringdown/record.put").run Tryz.prog w = .ok (some false) w
 enter : ∀ (vs : Array Value) (w : World), Sem.run Tryz.prog (callFunc F vs) w = .ok (.enter F vs) w
def encU (u : Int) (sh : Nat) : List Nat := if u / 2 ^ sh < 20 then binL (2 ^ ((u / 2 ^ sh).toNat + 1) - 2) ((u / 2 ^ sh).toNat + 1) ++ binL u sh else binL 1048575 20 ++ binL u 32
def encL (o sh : Nat) (l : List Int) : List Nat := binL o 2 ++ binL sh 5 ++ l.flatMap fun r => encU (foldU r) sh
theorem pow_bd (q : Nat) (h : q < 20) : (2 : Int) <= 2 ^ (q + 1) /\ (2 : Int) ^ (q + 1) <= 1048576 := by
 have h1 : (2 : Nat) ^ 1 <= 2 ^ (q + 1) := Nat.pow_le_pow_right (by decide) (by omega)
 have h2 : (2 : Nat) ^ (q + 1) <= 2 ^ 20 := Nat.pow_le_pow_right (by decide) (by omega)
 have h3 : ((2 ^ (q + 1) : Nat) : Int) = (2 : Int) ^ (q + 1) := by simp
 have h4 : (2 : Nat) ^ 20 = 1048576 := by decide
 omega
theorem foldU_bd {r : Int} (h1 : -67108864 <= r) (h2 : r <= 67108864) : 0 <= foldU r /\ foldU r <= 268435456 := by
 unfold foldU; split <;> omega
theorem encU_length (u : Int) (sh : Nat) (hs : sh <= 30) : (encU u sh).length <= 52 := by
 unfold encU
 split
 · rw [List.length_append, binL_length, binL_length]; omega
 · rw [List.length_append, binL_length, binL_length]; omega
theorem flat_length (l : List Int) (sh : Nat) (hs : sh <= 30) : (l.flatMap fun r => encU (foldU r) sh).length <= 52 * l.length := by
 induction l with
 | nil => simp
 | cons r l ih =>
   have := encU_length (foldU r) sh hs
   simp only [List.flatMap_cons, List.length_append, List.length_cons]; omega
set_option maxRecDepth 100000 in
set_option maxHeartbeats 1000000 in
theorem write_any {T : TypeId} {pv : Value} {F : FuncId} {B : Nat} {St : (Nat -> Prop) -> World -> List Nat -> Prop} (hk : SinkOK T pv F B St) (S : Nat -> Prop) (o sh : Nat) (ho : o <= 3) (hsh : sh <= 30) (al : Option Addr) (l : List Int) (cl : Nat) (bs : List Nat) (w : World)
 (hst : St S w bs) (hl : ∀ b off, al = some ⟨b, off, none⟩ -> l ≠ [] -> S b) (hc : Cells w al (l.map (Value.int .i64))) (hlen : l.length <= 4096) (hbs : bs.length <= 1000000) (hr : ∀ r ∈ l, -67108864 <= r /\ r <= 67108864) :
 Calls Tryz.prog 182 #[.agg #[.int .i64 (o : Nat), .int .i64 (sh : Nat)], .iface T pv, .slice al l.length cl] w fun e w' => e = .returned (.tuple #[]) /\ St S w' (bs ++ encL o sh l) /\ KeepS S B w w' := by
 have HK := Lib.hid hk; have HST := Lib.hid hst; have HC := Lib.hid hc; have HR := Lib.hid hr
 have hmeth := hk.meth
 have hen := hk.enter
 clear hk hst hc hr
 go_enter Tryz.func182, Tryz.ntmps182
 have hs1 := HK.out.alloc S w bs (.cells #[.int .i64 (o : Nat), .int .i64 (sh : Nat)] 280) HST.out
 have hsz0 := HK.out.size S w bs HST.out
 go_wp2_with fail
 refine (HK.out.put _ _ bs o 2 hs1 (by omega) (by omega) (by omega) (by omega)).mono ?_
 rintro e w1 ⟨rfl, hs2, hk1⟩
 have hbx : w1.cell? ⟨w.heap.size, 1, none⟩ = some (.int .i64 (sh : Nat)) := hk1.cell (.inr rfl) (by simp)
 have HS2 := Lib.hid hs2; clear hs1 hs2
 go_wp2_with fail
 refine (HK.out.put _ _ _ sh 5 HS2.out (by omega) (by omega) (by omega) (by rw [List.length_append, binL_length]; omega)).mono ?_
 rintro e w2 ⟨rfl, hs3, hk2⟩
 have hk3 := hk1.trans hk2
 have HS3 := Lib.hid hs3; clear hs3 hk1 hk2 hbx HS2
 go_wp2
 go_loopw [20] (fun i wr => ∃ k : Nat, k <= l.length /\ i = .int .i64 k /\ St (fun k => S k ∨ k = w.heap.size) wr (bs ++ binL o 2 ++ binL sh 5 ++ (l.take k).flatMap fun r => encU (foldU r) sh) /\ KeepS (fun k => S k ∨ k = w.heap.size) B (w.alloc (.cells #[.int .i64 (o : Nat), .int .i64 (sh : Nat)] 280)) wr) (fun i _ => l.length - (intOf i).toNat)
 case atStart => exact ⟨0, Nat.zero_le _, rfl, by simpa using HS3.out, hk3⟩
 case round =>
  clear hk3 HS3
  obtain ⟨k, hk, rfl, hst, hks⟩ := hrel
  have hbx : wr.cell? ⟨w.heap.size, 1, none⟩ = some (.int .i64 (sh : Nat)) := hks.cell (.inr rfl) (by simp)
  have hfl := flat_length (l.take k) sh hsh
  rw [List.length_take, Nat.min_eq_left hk] at hfl
  by_cases hlt : k < l.length
  · obtain ⟨r, hx⟩ := get_of_lt hlt
    obtain ⟨r1, r2⟩ := HR.out r (List.mem_of_getElem? hx)
    have hne : l ≠ [] := by intro h; rw [h] at hlt; simp at hlt
    obtain ⟨bl, ol, rfl⟩ := HC.out.addr (by intro h; exact hne (List.map_eq_nil_iff.1 h))
    have hSb : S bl := hl bl ol rfl hne
    clear hl hne
    have hc1 : wr.cell? ⟨bl, ol + k, none⟩ = some (.int .i64 r) := hks.cell (.inl hSb) (by
     have h0 := HC.out.int hx
     have h1 := World.block_lt_of_cell? w _ h0
     rw [World.cell?_alloc_lt _ _ _ (by simpa using h1)]; exact h0)
    obtain ⟨u1, u2⟩ := foldU_bd r1 r2
    have hq0 : 0 <= foldU r / 2 ^ sh := Int.ediv_nonneg u1 (Int.le_of_lt (Int.pow_pos (by decide)))
    obtain ⟨qn, hqn⟩ := Int.eq_ofNat_of_zero_le hq0
    have ht : (l.take (k + 1)).flatMap (fun r => encU (foldU r) sh) = (l.take k).flatMap (fun r => encU (foldU r) sh) ++ encU (foldU r) sh := by
     rw [take_get hx, List.flatMap_append]; simp
    have HT := Lib.hid ht; have HS := Lib.hid hst
    clear ht hst hx hq0
    have hmin : min sh 64 = sh := by omega
    by_cases hq : foldU r / 2 ^ sh < 20
    · have hqn2 : qn < 20 := by omega
      have he : encU (foldU r) sh = binL (2 ^ (qn + 1) - 2) (qn + 1) ++ binL (foldU r) sh := by
       rw [encU, if_pos hq, hqn]; rfl
      have HE := Lib.hid he; clear he hq
      go_wp2_with fail
      refine (folded_any _ _ (by omega) (by omega)).mono ?_
      rintro e w1 ⟨rfl, rfl⟩
      obtain ⟨p1, p2⟩ := pow_bd qn hqn2
      have a1 : IntKind.i64.wrap ((qn : Int) + 1) = (qn : Int) + 1 := IntWalk.i64_in _ (by omega)
      have a2 : ((qn : Int) + 1).toNat = qn + 1 := by omega
      have a3 : min (qn + 1) 64 = qn + 1 := by omega
      have a4 : IntKind.i64.wrap (2 ^ (qn + 1)) = 2 ^ (qn + 1) := IntWalk.i64_in _ (by omega)
      have a5 : IntKind.i64.wrap (2 ^ (qn + 1) - 2) = 2 ^ (qn + 1) - 2 := IntWalk.i64_in _ (by omega)
      have a6 : (0 : Int) <= (qn : Int) + 1 := by omega
      have hah := HK.out.ahead
      go_wp2
      go_still_tail 10, (by kernel_rfl)
      change wpList _ _ _ _ _ wr.drew
      have hksd := hks.drew
      have HSd := Lib.hid (HK.out.drew _ _ _ HS.out)
      clear hbx hks HS a1 a2 a3 a4 a5 a6
      generalize wr.drew = wd at *
      have hp := HK.out.put _ wd _ (2 ^ (qn + 1) - 2) (qn + 1) HSd.out (by omega) (by omega) (by omega) (by simp only [List.length_append, binL_length]; omega)
      rw [show (((qn + 1 : Nat) : Int)) = (qn : Int) + 1 from by omega] at hp
      have HP := Lib.hid hp; clear hp
      go_wp2_with fail
      refine HP.out.mono ?_
      rintro e w3 ⟨rfl, hs3, hk3⟩
      have hks3 := hksd.trans hk3
      have hbx3 : w3.cell? ⟨w.heap.size, 1, none⟩ = some (.int .i64 (sh : Nat)) := hks3.cell (.inr rfl) (by simp)
      have HS3 := Lib.hid hs3
      have hp := HK.out.put _ w3 _ (foldU r) sh hs3 u1 (by omega) (by omega) (by simp only [List.length_append, binL_length]; omega)
      have HP2 := Lib.hid hp
      clear hp hs3 hk3 hksd
      go_wp2_with fail
      refine HP2.out.mono ?_
      rintro e w4 ⟨rfl, hs4, hk4⟩
      have hks4 := hks3.trans hk4
      have HS4 := Lib.hid hs4
      clear hs4 hk4 hks3 hbx3
      go_wp2
      go_roundw
      case rel => exact ⟨k + 1, by omega, by go_num, by rw [HT.out, HE.out]; simpa [List.append_assoc] using HS4.out, hks4⟩
      case measure => simp [intOf]; omega
    · have he : encU (foldU r) sh = binL 1048575 20 ++ binL (foldU r) 32 := by rw [encU, if_neg hq]
      have HE := Lib.hid he; clear he
      have hqn2 : ¬ ((qn : Int) < 20) := by omega
      clear hq
      go_wp2_with fail
      refine (folded_any _ _ (by omega) (by omega)).mono ?_
      rintro e w1 ⟨rfl, rfl⟩
      have hp := HK.out.put _ wr _ 1048575 20 HS.out (by omega) (by omega) (by omega) (by simp only [List.length_append, binL_length]; omega)
      have HP := Lib.hid hp; clear hp
      go_wp2_with fail
      refine HP.out.mono ?_
      rintro e w3 ⟨rfl, hs3, hk3⟩
      have hks3 := hks.trans hk3
      have hp := HK.out.put _ w3 _ (foldU r) 32 hs3 u1 (by omega) (by omega) (by simp only [List.length_append, binL_length]; omega)
      have HP2 := Lib.hid hp
      clear hp hs3 hk3 hks
      go_wp2_with fail
      refine HP2.out.mono ?_
      rintro e w4 ⟨rfl, hs4, hk4⟩
      have hks4 := hks3.trans hk4
      have HS4 := Lib.hid hs4
      clear hs4 hk4 hks3
      go_wp2
      go_roundw
      case rel => exact ⟨k + 1, by omega, by go_num, by rw [HT.out, HE.out]; simpa [List.append_assoc] using HS4.out, hks4⟩
      case measure => simp [intOf]; omega
  · obtain rfl : k = l.length := by omega
    rw [List.take_length] at hst
    have hst2 := HK.out.mono _ S _ _ (fun k h => .inl h) hst
    have HS := Lib.hid hst2
    have HW : Hid (KeepS S B w wr) := ⟨((Below.refl B w).alloc hsz0 _).trans hks.below, fun j hj => by
     rw [hks.same j (.inl hj), Below.heap_alloc _ _ _ (HK.out.lt S w bs j HST.out hj)]⟩
    clear hst hst2 hks hbx
    go_wp2
    go_end0
    exact ⟨rfl, by simpa [encL, List.append_assoc] using HS.out, HW.out⟩
end Go.Proofs.YtdpjdifoonfcdaaGreatDoor

namespace Go.Proofs.YtdpjdifoonfcdaaGreatDoor
open Go.RowKit
def CtS (B bc : Nat) (S : Nat -> Prop) (w : World) (bs : List Nat) : Prop :=
 B <= bc /\ w.heap[bc]? = some (.cells #[.int .i64 (bs.length : Nat)] 335 (0, 0)) /\ ∀ k, S k -> k < w.heap.size /\ k ≠ bc
theorem heap_lt {w : World} {b : Nat} {o : Obj} (h : w.heap[b]? = some o) : b < w.heap.size := (Array.getElem?_eq_some_iff.1 h).1
theorem counter_put (bc : Nat) (c : Nat) (n : Int) (k : Nat) (w : World) (h : w.heap[bc]? = some (.cells #[.int .i64 (c : Nat)] 335 (0, 0))) (hk : k <= 32) (hc : c <= 1099511627776) :
 Calls Tryz.prog 373 #[.pointer (some ⟨bc, 0, none⟩), .int .i64 n, .int .i64 (k : Nat)] w fun e w' => e = .returned (.tuple #[]) /\ w' = w.setCell ⟨bc, 0, none⟩ (.int .i64 ((c + k : Nat) : Int)) := by
 have c0 : w.cell? ⟨bc, 0, none⟩ = some (.int .i64 (c : Nat)) := cell_of_one h
 have f0 : w.frozen? ⟨bc, 0, none⟩ = false := free_of_one h
 go_enter Tryz.func373, Tryz.ntmps373
 go_wp2
 go_end0
 exact ⟨rfl, by simp⟩
theorem counter_ok (B bc : Nat) : SinkOK 336 (.pointer (some ⟨bc, 0, none⟩)) 373 B (CtS B bc) where
 alloc := by
  rintro S w bs o ⟨h1, h2, h3⟩
  have hl := heap_lt h2
  refine ⟨h1, by rw [Below.heap_alloc _ _ _ hl]; exact h2, fun k hk => ?_⟩
  rcases hk with hk | rfl
  · have := h3 k hk; exact ⟨by simp; omega, this.2⟩
  · exact ⟨by simp, by omega⟩
 drew := fun S w bs h => h
 mono := fun S S' w bs hs h => ⟨h.1, h.2.1, fun k hk => h.2.2 k (hs k hk)⟩
 size := fun S w bs h => by have := heap_lt h.2.1; have := h.1; omega
 lt := fun S w bs k h hk => (h.2.2 k hk).1
 put := by
  rintro S w bs n k ⟨h1, h2, h3⟩ _ _ hk hl
  refine (counter_put bc bs.length n k w h2 hk hl).mono ?_
  rintro e w' ⟨rfl, rfl⟩
  refine ⟨rfl, ⟨h1, ?_, fun j hj => ?_⟩, (Below.refl _ _).setCell (p := ⟨bc, 0, none⟩) h1 _, fun j hj => Below.heap_setCell _ _ _ _ (h3 j hj).2⟩
  · rw [one_setCell h2, List.length_append, binL_length]
  · have := h3 j hj; exact ⟨by simpa using this.1, this.2⟩
 meth := fun w d => by kernel_rfl
 ahead := fun w d => by kernel_rfl
 enter := fun vs w => by kernel_rfl
end Go.Proofs.YtdpjdifoonfcdaaGreatDoor

namespace Go.Proofs.YtdpjdifoonfcdaaGreatDoor
open Go.RowKit
def pushBit (l : List Nat) (n b : Nat) : List Nat := if n % 8 = 0 then l ++ [b * 128] else l.set (l.length - 1) (l.getD (l.length - 1) 0 + b * 2 ^ (7 - n % 8))
def octsP (l : List Nat) : List Nat × Nat := l.foldl (fun p b => (pushBit p.1 p.2 b, p.2 + 1)) ([], 0)
def octs (l : List Nat) : List Nat := (octsP l).1
theorem octsP_snd (l : List Nat) : (octsP l).2 = l.length := by
 suffices ∀ (p : List Nat × Nat), (l.foldl (fun p b => (pushBit p.1 p.2 b, p.2 + 1)) p).2 = p.2 + l.length by
  have := this ([], 0); simpa [octsP] using this
 induction l with
 | nil => intro p; simp
 | cons b l ih => intro p; rw [List.foldl_cons, ih]; simp; omega
theorem octs_snoc (l : List Nat) (b : Nat) : octs (l ++ [b]) = pushBit (octs l) l.length b := by
 have h := octsP_snd l
 unfold octs octsP at *
 rw [List.foldl_append, List.foldl_cons, List.foldl_nil, h]
theorem octs_nil : octs [] = [] := rfl
def freeOf (n : Nat) : Nat := (8 - n % 8) % 8
theorem octs_len (l : List Nat) : (octs l).length = (l.length + 7) / 8 := by
 suffices ∀ n (l : List Nat), l.length = n -> (octs l).length = (n + 7) / 8 from this _ l rfl
 intro n
 induction n with
 | zero => intro l hl; rw [List.length_eq_zero_iff.1 hl]; rfl
 | succ n ih =>
   intro l hl
   obtain ⟨l', b, rfl⟩ : ∃ l' b, l = l' ++ [b] := by
    rcases List.eq_nil_or_concat l with rfl | ⟨l', b, rfl⟩
    · simp at hl
    · exact ⟨l', b, by simp⟩
   simp at hl
   have h := ih l' hl
   rw [octs_snoc, pushBit, hl]
   split
   · rw [List.length_append, h]; simp; omega
   · rw [List.length_set, h]; omega
theorem octs_ok (l : List Nat) (hl : ∀ b ∈ l, b <= 1) : (∀ d ∈ octs l, d < 256) /\ (l.length % 8 ≠ 0 -> (octs l).getD ((octs l).length - 1) 0 % 2 ^ (8 - l.length % 8) = 0) := by
 suffices ∀ n (l : List Nat), l.length = n -> (∀ b ∈ l, b <= 1) -> (∀ d ∈ octs l, d < 256) /\ (n % 8 ≠ 0 -> (octs l).getD ((octs l).length - 1) 0 % 2 ^ (8 - n % 8) = 0) from this _ l rfl hl
 intro n
 induction n with
 | zero => intro l hl _; rw [List.length_eq_zero_iff.1 hl, octs_nil]; simp
 | succ n ih =>
   intro l hl hb
   obtain ⟨l', b, rfl⟩ : ∃ l' b, l = l' ++ [b] := by
    rcases List.eq_nil_or_concat l with rfl | ⟨l', b, rfl⟩
    · simp at hl
    · exact ⟨l', b, by simp⟩
   simp at hl
   obtain ⟨h1, h2⟩ := ih l' hl (fun x hx => hb x (by simp [hx]))
   have hb1 : b <= 1 := hb b (by simp)
   have hlen := octs_len l'
   rw [hl] at hlen
   rw [octs_snoc, pushBit, hl]
   by_cases h0 : n % 8 = 0
   · rw [if_pos h0]
     refine ⟨?_, fun _ => ?_⟩
     · intro d hd
       rcases List.mem_append.1 hd with h | h
       · exact h1 d h
       · simp at h; subst h; omega
     · have e1 : (n + 1) % 8 = 1 := by omega
       rw [e1, List.length_append, List.length_singleton, Nat.add_sub_cancel, List.getD_eq_getElem?_getD, List.getElem?_append_right (Nat.le_refl _), Nat.sub_self]
       simp
   · rw [if_neg h0]
     have hpos : 0 < (octs l').length := by omega
     have hx := h2 h0
     obtain ⟨x, hxx⟩ := get_of_lt (show (octs l').length - 1 < (octs l').length by omega)
     have hgx : (octs l').getD ((octs l').length - 1) 0 = x := by rw [List.getD_eq_getElem?_getD, hxx]; rfl
     have hx256 := h1 x (List.mem_of_getElem? hxx)
     rw [hgx] at hx ⊢
     have hm : n % 8 < 8 := Nat.mod_lt _ (by decide)
     have key : ∀ r : Fin 8, r.val ≠ 0 -> ∀ y : Fin 256, y.val % 2 ^ (8 - r.val) = 0 -> ∀ c : Fin 2, y.val + c.val * 2 ^ (7 - r.val) < 256 /\ (y.val + c.val * 2 ^ (7 - r.val)) % 2 ^ (7 - r.val) = 0 := by decide +kernel
     have hk := key ⟨n % 8, hm⟩ h0 ⟨x, hx256⟩ hx ⟨b, by omega⟩
     simp only at hk
     refine ⟨?_, fun hne => ?_⟩
     · intro d hd
       rcases List.mem_or_eq_of_mem_set hd with h | h
       · exact h1 d h
       · rw [h]; exact hk.1
     · rw [List.length_set, List.getD_eq_getElem?_getD, List.getElem?_set_self (by omega)]
       have e1 : 8 - (n + 1) % 8 = 7 - n % 8 := by omega
       rw [e1]; simpa using hk.2
theorem i64_wrap_nat (n : Int) (h0 : 0 <= n) (h1 : n < 2 ^ 63) : IntKind.i64.wrap n = n := IntWalk.i64_in n ⟨by omega, by omega⟩
theorem bit_and {x : Int} (h0 : 0 <= x) (h1 : x <= 4294967295) : bits BinOp.and IntKind.i64 x 1 = x % 2 := by
 obtain ⟨n, rfl⟩ := Int.eq_ofNat_of_zero_le h0
 have h := (bits_nat .i64 63 (by decide) i64_wrap_nat n 1 (by omega) (by decide)).1
 rw [show ((1 : Nat) : Int) = 1 from rfl] at h
 rw [h, Nat.and_one_is_mod]; simp
theorem u8_wrap_nat (n : Int) (h0 : 0 <= n) (h1 : n < 2 ^ 8) : IntKind.u8.wrap n = n := IntWalk.u8_in n ⟨by omega, by omega⟩
theorem or_add (x f b : Nat) (hx : x < 256) (hf : f <= 7) (hb : b <= 1) (h0 : x % 2 ^ (f + 1) = 0) : bits BinOp.or IntKind.u8 (x : Int) ((b * 2 ^ f : Nat) : Int) = ((x + b * 2 ^ f : Nat) : Int) := by
 have key : ∀ f : Fin 8, ∀ x : Fin 256, x.val % 2 ^ (f.val + 1) = 0 -> ∀ c : Fin 2, c.val * 2 ^ f.val < 256 /\ (x.val ||| c.val * 2 ^ f.val) = x.val + c.val * 2 ^ f.val := by decide +kernel
 have hk := key ⟨f, by omega⟩ ⟨x, hx⟩ h0 ⟨b, by omega⟩
 simp only at hk
 have h := (bits_nat .u8 8 (by decide) u8_wrap_nat x (b * 2 ^ f) (by omega) (by omega)).2
 rw [h, hk.2]
end Go.Proofs.YtdpjdifoonfcdaaGreatDoor
