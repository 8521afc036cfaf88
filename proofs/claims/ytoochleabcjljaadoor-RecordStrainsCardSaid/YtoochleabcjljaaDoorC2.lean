/- Books: CheckBook. -/
import Derived.Test.YtoochleabcjljaaDoorC1
namespace Go.Proofs.YtoochleabcjljaaDoor
open Go.RowKit

def pow2B (r : Int) : Bool := decide (r = 1 ∨ r = 2 ∨ r = 4 ∨ r = 8 ∨ r = 16 ∨ r = 32 ∨ r = 64)
def chanOK (c : Chan) : Bool := nameOK c.name && (inB 1 c.rate 64 && (pow2B c.rate && inB 2 c.bits 24))
def dupB (bs : List Chan) (c : Chan) : Bool := bs.any fun x => sameName x.name c.name
def bookTo (bs : List Chan) : Nat → Bool
  | 0 => true
  | k + 1 => bookTo bs k && match bs[k]? with | some c => chanOK c && !dupB (bs.take k) c | none => true
def bookOK (bs : List Chan) : Bool := inB 1 bs.length 16 && bookTo bs bs.length
def bookErr (bs : List Chan) : Int := if bookOK bs then 0 else 50
theorem bookTo_succ {bs : List Chan} {k : Nat} {c : Chan} (h : bs[k]? = some c) : bookTo bs (k + 1) = (bookTo bs k && (chanOK c && !dupB (bs.take k) c)) := by
  simp [bookTo, h]

theorem pow2_nat : ∀ n : Fin 65, 1 ≤ n.val → (bits BinOp.and IntKind.i64 (n.val : Int) ((n.val : Int) - 1) == 0) = pow2B n.val := by decide +kernel
theorem pow2_bits {r : Int} (h1 : 1 ≤ r) (h2 : r ≤ 64) : (bits BinOp.and IntKind.i64 r (r - 1) == 0) = pow2B r := by
  obtain ⟨n, rfl⟩ := Int.eq_ofNat_of_zero_le (show 0 ≤ r by omega)
  exact pow2_nat ⟨n, by omega⟩ (by show 1 ≤ n; omega)

set_option maxRecDepth 100000 in
set_option maxHeartbeats 1000000 in
theorem checkBook_any (ao : Option Addr) (bs : List Chan) (cap : Nat) (w : World) (hc : Cells w ao (chs bs)) (hl : bs.length ≤ 4611686018427387904) (hcap : bs.length ≤ cap) (hcap2 : cap ≤ 9223372036854775807) (hn : ∀ c ∈ bs, c.name.size ≤ 9223372036854775807) (hr : ∀ c ∈ bs, -9223372036854775808 ≤ c.rate) :
    Calls Tryd.prog 44 #[.slice ao bs.length cap] w fun e w' => e = .returned (.int .i64 (bookErr bs)) ∧ Below w.heap.size w w' := by
  have HC := Lib.hid hc; clear hc
  have HN := Lib.hid hn; have HR := Lib.hid hr; clear hn hr
  go_enter Tryd.func44, Tryd.ntmps44
  go_wp2_with (go_at_call 22; refine (within_any _ _ _ _).mono ?_; rintro e w' ⟨rfl, rfl⟩)
  go_loopw [3, 11] (fun o i wr => ∃ k : Nat, k ≤ bs.length ∧ i = .int .i64 k ∧ o = .bool (inB 1 bs.length 16 && bookTo bs k) ∧ Below w.heap.size w wr) (fun _ i _ => bs.length - (intOf i).toNat)
  case atStart => exact ⟨0, Nat.zero_le _, rfl, by simp [bookTo], Below.refl _ _⟩
  case round =>
    obtain ⟨k, hk, rfl, rfl, hb⟩ := hrel
    by_cases hlt : k < bs.length
    · obtain ⟨c, hx⟩ := get_of_lt hlt
      obtain ⟨b, off, rfl⟩ := HC.out.addr (chs_ne (by omega))
      obtain ⟨g0, g1, g2⟩ := chs_get hx
      have hcell1 := cell_keep (HC.out.at g0) hb (Nat.le_refl _)
      have hcell2 := cell_keep (HC.out.at g1) hb (Nat.le_refl _)
      have hcell3 := cell_keep (HC.out.at g2) hb (Nat.le_refl _)
      rw [← Nat.add_assoc] at hcell2 hcell3
      clear g0 g1 g2
      have hst := bookTo_succ hx
      have hsz := hb.size
      have hnm := HN.out c (List.mem_of_getElem? hx)
      have hrt := HR.out c (List.mem_of_getElem? hx)
      have hn2 : (inB 1 bs.length 16 && bookTo bs (k + 1)) = ((inB 1 bs.length 16 && bookTo bs k) && (chanOK c && !dupB (bs.take k) c)) := by rw [hst, Bool.and_assoc]
      have HNX := Lib.hid hn2; clear hst hn2 hx
      generalize (inB 1 bs.length 16 && bookTo bs k) = o at *
      cases o
      · go_wp2
        go_roundw
        case rel => exact ⟨k + 1, by omega, by go_num, by rw [HNX.out]; rfl, hb.alloc hsz _⟩
        case measure => simp [intOf]; omega
      · cases h1 : nameOK c.name
        · have he : (chanOK c && !dupB (bs.take k) c) = false := by simp [chanOK, h1]
          have HE := Lib.hid he; clear he
          go_wp2_with fail
          refine (isName_any _ _ hnm).mono ?_
          rintro e w1 ⟨rfl, rfl⟩
          go_wp2
          go_roundw
          case rel => exact ⟨k + 1, by omega, by go_num, by rw [HNX.out, HE.out]; rfl, hb.alloc hsz _⟩
          case measure => simp [intOf]; omega
        · cases h2 : inB 1 c.rate 64
          · have he : (chanOK c && !dupB (bs.take k) c) = false := by simp [chanOK, h2]
            have HE := Lib.hid he; clear he
            go_wp2_with fail
            refine (isName_any _ _ hnm).mono ?_
            rintro e w1 ⟨rfl, rfl⟩
            rw [h1]
            go_wp2_with fail
            refine (within_any _ _ _ _).mono ?_
            rintro e w1 ⟨rfl, rfl⟩
            go_wp2
            go_roundw
            case rel => exact ⟨k + 1, by omega, by go_num, by rw [HNX.out, HE.out]; rfl, hb.alloc hsz _⟩
            case measure => simp [intOf]; omega
          · have H2 := Lib.hid h2
            have hr2 : 1 ≤ c.rate ∧ c.rate ≤ 64 := by simpa [inB] using h2
            obtain ⟨hr1, hr2⟩ := hr2
            have hp2 := pow2_bits hr1 hr2
            cases h3 : pow2B c.rate
            · have he : (chanOK c && !dupB (bs.take k) c) = false := by simp [chanOK, h3]
              have HE := Lib.hid he; clear he
              rw [h3] at hp2
              go_wp2_with fail
              refine (isName_any _ _ hnm).mono ?_
              rintro e w1 ⟨rfl, rfl⟩
              rw [h1]
              go_wp2_with fail
              refine (within_any _ _ _ _).mono ?_
              rintro e w1 ⟨rfl, rfl⟩
              rw [H2.out]
              go_wp2
              go_roundw
              case rel => exact ⟨k + 1, by omega, by go_num, by rw [HNX.out, HE.out]; rfl, hb.alloc hsz _⟩
              case measure => simp [intOf]; omega
            · cases h4 : inB 2 c.bits 24
              · have he : (chanOK c && !dupB (bs.take k) c) = false := by simp [chanOK, h4]
                have HE := Lib.hid he; clear he
                rw [h3] at hp2
                go_wp2_with fail
                refine (isName_any _ _ hnm).mono ?_
                rintro e w1 ⟨rfl, rfl⟩
                rw [h1]
                go_wp2_with fail
                refine (within_any _ _ _ _).mono ?_
                rintro e w1 ⟨rfl, rfl⟩
                rw [H2.out]
                go_wp2_with fail
                refine (within_any _ _ _ _).mono ?_
                rintro e w1 ⟨rfl, rfl⟩
                go_wp2
                go_roundw
                case rel => exact ⟨k + 1, by omega, by go_num, by rw [HNX.out, HE.out]; rfl, hb.alloc hsz _⟩
                case measure => simp [intOf]; omega
              · have he : (chanOK c && !dupB (bs.take k) c) = !dupB (bs.take k) c := by simp [chanOK, h1, h2, h3, h4]
                have HE := Lib.hid he; clear he
                rw [h3] at hp2
                have hlk : (bs.take k).length = k := by rw [List.length_take]; omega
                have hbx := hb.alloc hsz (.cells #[.string c.name, .int .i64 c.rate, .int .i64 c.bits] 57)
                have hcon := containsFunc_chans 60 #[.pointer (some ⟨wr.heap.size, 0, none⟩)] (fun x => sameName x.name c.name) (some ⟨b, off, none⟩) (bs.take k) cap (wr.alloc (.cells #[.string c.name, .int .i64 c.rate, .int .i64 c.bits] 57))
                  (by rw [chs_take]; exact (HC.out.below hbx (Nat.le_refl _)).take' _) (by rw [hlk]; omega) (fun _ _ => by kernel_rfl) (fun x wx _ hbe => checkBook1_any x wr.heap.size c.name wx (box_keep hbe (by simp) 0))
                rw [hlk] at hcon
                have HCON := Lib.hid hcon; clear hcon hlk
                have H4 := Lib.hid h4
                go_wp2_with fail
                refine (isName_any _ _ hnm).mono ?_
                rintro e w1 ⟨rfl, rfl⟩
                rw [h1]
                go_wp2_with fail
                refine (within_any _ _ _ _).mono ?_
                rintro e w1 ⟨rfl, rfl⟩
                rw [H2.out]
                go_wp2_with fail
                refine (within_any _ _ _ _).mono ?_
                rintro e w1 ⟨rfl, rfl⟩
                rw [H4.out]
                go_wp2_with fail
                refine HCON.out.mono ?_
                rintro e w1 ⟨rfl, hb1⟩
                go_wp2
                go_roundw
                case rel => exact ⟨k + 1, by omega, by go_num, by rw [HNX.out, HE.out]; rfl, hbx.trans (hb1.mono hbx.size)⟩
                case measure => simp [intOf]; omega
    · obtain rfl : k = bs.length := by omega
      have hf : bookErr bs = if (inB 1 bs.length 16 && bookTo bs bs.length) then 0 else 50 := rfl
      have HF := Lib.hid hf; clear hf
      generalize (inB 1 bs.length 16 && bookTo bs bs.length) = o at *
      cases o
      all_goals
        go_wp2
        go_ret
        exact ⟨ret_int (by rw [HF.out]; rfl), hb⟩
end Go.Proofs.YtoochleabcjljaaDoor
