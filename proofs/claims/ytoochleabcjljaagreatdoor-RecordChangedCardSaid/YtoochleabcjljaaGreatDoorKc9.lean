/- Parts of a proof, in build order: S1, S2, S3, R3, T6, T7. -/
import Derived.Test.YtoochleabcjljaaGreatDoorKc8
import Derived.Lib.BufferRead

/- The chapter's own CheckBook. -/
namespace Go.Proofs.YtoochleabcjljaaGreatDoor
open Go.RowKit

/-- what is asked of a book here -/
structure BookIn0 (w : World) (ao : Option Addr) (bs : List Chan) : Prop where
  cells : Cells w ao (chs bs)
  len : bs.length ≤ 9223372036854775807
  names : ∀ c ∈ bs, c.name.size ≤ 9223372036854775807
theorem pow2_mem (r : Int) : (r ∈ [(1 : Int), 2, 4, 8, 16, 32, 64]) ↔ pow2B r = true := by
  simp [pow2B]
theorem chanOK_ref (c : Chan) : chanOK c = (nameOK c.name && (inB 2 c.bits 24 && pow2B c.rate)) := by
  unfold chanOK
  cases h : pow2B c.rate
  · simp
  · have : inB 1 c.rate 64 = true := by
      simp only [pow2B, decide_eq_true_eq] at h
      simp only [inB, decide_eq_true_eq]
      omega
    rw [this]; cases nameOK c.name <;> cases inB 2 c.bits 24 <;> rfl
theorem new_lit (w : World) : Cells (w.alloc (.cells #[.int .i64 1, .int .i64 2, .int .i64 4, .int .i64 8, .int .i64 16, .int .i64 32, .int .i64 64] 3)) (some ⟨w.heap.size, 0, none⟩) ([1, 2, 4, 8, 16, 32, 64].map (Value.int .i64)) :=
  .inr ⟨_, _, rfl, fun j u hu => by rw [Nat.zero_add]; simpa using hu⟩
theorem dupB_succ {bs : List Chan} {m : Nat} {x c : Chan} (h : bs[m]? = some x) : dupB (bs.take (m + 1)) c = (dupB (bs.take m) c || sameName x.name c.name) := by
  simp [dupB, take_get h]

set_option maxRecDepth 100000 in
set_option maxHeartbeats 2000000 in
theorem refCheckBook_any (ao : Option Addr) (bs : List Chan) (cap : Nat) (w : World) (hb : BookIn0 w ao bs) :
    Calls Tryz.prog 25 #[.slice ao bs.length cap] w fun e w' => e = .returned (.int .i64 (bookErr bs)) ∧ Below w.heap.size w w' := by
  have HC := Lib.hid hb.cells; have HN := Lib.hid hb.names
  have hl := hb.len
  clear hb
  go_enter Tryz.func25, Tryz.ntmps25
  go_wp2_with (go_at_call 54; refine (in_any _ _ _ _).mono ?_; rintro e w' ⟨rfl, rfl⟩)
  go_loopw [3, 4] (fun o i wr => ∃ k : Nat, k ≤ bs.length ∧ i = .int .i64 k ∧ o = .bool (inB 1 bs.length 16 && bookTo bs k) ∧ Below w.heap.size w wr) (fun _ i _ => bs.length - (intOf i).toNat)
  case atStart => exact ⟨0, Nat.zero_le _, rfl, by simp [bookTo], Below.refl _ _⟩
  case round =>
    obtain ⟨k, hk, rfl, rfl, hbr⟩ := hrel
    by_cases hlt : k < bs.length
    · obtain ⟨c, hx⟩ := get_of_lt hlt
      obtain ⟨b, off, rfl⟩ := HC.out.addr (chs_ne (by omega))
      obtain ⟨g0, g1, g2⟩ := chs_get hx
      have c0 := cell_keep (HC.out.at g0) hbr (Nat.le_refl _)
      have c1 := cell_keep (HC.out.at g1) hbr (Nat.le_refl _)
      have c2 := cell_keep (HC.out.at g2) hbr (Nat.le_refl _)
      rw [← Nat.add_assoc] at c1 c2
      have hns := HN.out c (List.mem_of_getElem? hx)
      have hst := bookTo_succ hx
      have HST := Lib.hid hst
      have hz := hbr.size
      have hba := hbr.alloc hz (.cells #[.string c.name, .int .i64 c.rate, .int .i64 c.bits] 106)
      have hbx := Blk.new wr 106 #[.string c.name, .int .i64 c.rate, .int .i64 c.bits]
      have HBX := Lib.hid hbx; have HBA := Lib.hid hba
      have hck := chanOK_ref c
      have HCK := Lib.hid hck
      have HOB : Hid ((inB 1 bs.length 16 && bookTo bs (k + 1)) = ((inB 1 bs.length 16 && bookTo bs k) && (chanOK c && !dupB (bs.take k) c))) := Lib.hid (by rw [HST.out, Bool.and_assoc])
      clear g0 g1 g2 hst hba hbx hck hx
      generalize hB : (inB 1 bs.length 16 && bookTo bs k) = B at *
      clear hB
      cases B
      · have HV : Hid ((false && chanOK c) = false) := Lib.hid rfl
        have HX6 := HBX; have HL6 := HBA
        go_wp2_with fail
        go_loopw [3, 6] (fun o j wi => ∃ m : Nat, m ≤ k ∧ j = .int .i64 m ∧ o = .bool ((false && chanOK c) && !dupB (bs.take m) c) ∧ Blk wi wr.heap.size 106 #[.string c.name, .int .i64 c.rate, .int .i64 c.bits] ∧ Below w.heap.size w wi) (fun _ j _ => k - (intOf j).toNat)
        case atStart => exact ⟨0, Nat.zero_le _, rfl, by first | (rw [HV.out]; simp [dupB]; done) | (rw [HV.out]; simp [dupB]; omega), HX6.out, HL6.out⟩
        case round =>
          clear HX6 HL6
          obtain ⟨m, hm, rfl, rfl, hbx, hbi⟩ := hrel
          by_cases hlt2 : m < k
          · obtain ⟨x, hxm⟩ := get_of_lt (show m < bs.length by omega)
            have e0 := cell_keep (HC.out.at (chs_get hxm).1) hbi (Nat.le_refl _)
            have e1 := hbx.c0
            have hds := dupB_succ (c := c) hxm
            have hnv : ((false && chanOK c) && !dupB (bs.take (m + 1)) c) = (((false && chanOK c) && !dupB (bs.take m) c) && !sameName x.name c.name) := by rw [hds]; cases chanOK c <;> simp
            have HNV := Lib.hid hnv; have HBX2 := Lib.hid hbx
            clear hds hnv hxm hbx
            generalize hq : ((false && chanOK c) && !dupB (bs.take m) c) = q at *
            clear hq HV
            have i1 : (m : Int) < bs.length := by omega
            have i2 : (0 : Int) ≤ m := by omega
            cases q
            · go_wp2_with fail
              go_quiet (fail)
              go_wp2
              go_roundw
              case rel => exact ⟨m + 1, by omega, by go_num, by rw [HNV.out]; rfl, HBX2.out, bel_drewN hbi _⟩
              case measure => simp [intOf]; omega
            · cases hs : sameName x.name c.name
              · have s1 : (x.name.toList == c.name.toList) = false := hs
                have s2 : (x.name.toList != c.name.toList) = true := by rw [bne, s1]; rfl
                have HNV2 := Lib.hid (HNV.out.trans (by rw [hs]; rfl) : ((false && chanOK c) && !dupB (bs.take (m + 1)) c) = true)
                clear HNV hs
                go_wp2_with fail
                go_quiet (fail)
                go_wp2
                go_roundw
                case rel => exact ⟨m + 1, by omega, by go_num, by rw [HNV2.out], HBX2.out, bel_drewN hbi _⟩
                case measure => simp [intOf]; omega
              · have s1 : (x.name.toList == c.name.toList) = true := hs
                have s2 : (x.name.toList != c.name.toList) = false := by rw [bne, s1]; rfl
                have HNV2 := Lib.hid (HNV.out.trans (by rw [hs]; rfl) : ((false && chanOK c) && !dupB (bs.take (m + 1)) c) = false)
                clear HNV hs
                go_wp2_with fail
                go_quiet (fail)
                go_wp2
                go_roundw
                case rel => exact ⟨m + 1, by omega, by go_num, by rw [HNV2.out], HBX2.out, bel_drewN hbi _⟩
                case measure => simp [intOf]; omega
          · obtain rfl : m = k := by omega
            have HOB2 := Lib.hid (HOB.out.trans (by rw [Bool.and_assoc]) : (inB 1 bs.length 16 && bookTo bs (m + 1)) = ((false && chanOK c) && !dupB (bs.take m) c))
            clear HV
            go_wp2
            go_roundw
            case rel => exact ⟨m + 1, by omega, by go_num, by rw [HOB2.out], hbi⟩
            case measure => simp [intOf]; omega
      · cases hA : nameOK c.name
        · have HV : Hid ((true && chanOK c) = false) := Lib.hid (by rw [HCK.out, hA]; rfl)
          have HX6 := HBX; have HL6 := HBA
          have HAA := Lib.hid hA; clear hA
          go_wp2_with fail
          refine (refIsName_any c.name _ hns).mono ?_
          rintro e w' ⟨rfl, rfl⟩
          rw [HAA.out]
          go_wp2_with fail
          go_loopw [3, 6] (fun o j wi => ∃ m : Nat, m ≤ k ∧ j = .int .i64 m ∧ o = .bool ((true && chanOK c) && !dupB (bs.take m) c) ∧ Blk wi wr.heap.size 106 #[.string c.name, .int .i64 c.rate, .int .i64 c.bits] ∧ Below w.heap.size w wi) (fun _ j _ => k - (intOf j).toNat)
          case atStart => exact ⟨0, Nat.zero_le _, rfl, by first | (rw [HV.out]; simp [dupB]; done) | (rw [HV.out]; simp [dupB]; omega), HX6.out, HL6.out⟩
          case round =>
            clear HX6 HL6
            obtain ⟨m, hm, rfl, rfl, hbx, hbi⟩ := hrel
            by_cases hlt2 : m < k
            · obtain ⟨x, hxm⟩ := get_of_lt (show m < bs.length by omega)
              have e0 := cell_keep (HC.out.at (chs_get hxm).1) hbi (Nat.le_refl _)
              have e1 := hbx.c0
              have hds := dupB_succ (c := c) hxm
              have hnv : ((true && chanOK c) && !dupB (bs.take (m + 1)) c) = (((true && chanOK c) && !dupB (bs.take m) c) && !sameName x.name c.name) := by rw [hds]; cases chanOK c <;> simp
              have HNV := Lib.hid hnv; have HBX2 := Lib.hid hbx
              clear hds hnv hxm hbx
              generalize hq : ((true && chanOK c) && !dupB (bs.take m) c) = q at *
              clear hq HV
              have i1 : (m : Int) < bs.length := by omega
              have i2 : (0 : Int) ≤ m := by omega
              cases q
              · go_wp2_with fail
                go_quiet (fail)
                go_wp2
                go_roundw
                case rel => exact ⟨m + 1, by omega, by go_num, by rw [HNV.out]; rfl, HBX2.out, bel_drewN hbi _⟩
                case measure => simp [intOf]; omega
              · cases hs : sameName x.name c.name
                · have s1 : (x.name.toList == c.name.toList) = false := hs
                  have s2 : (x.name.toList != c.name.toList) = true := by rw [bne, s1]; rfl
                  have HNV2 := Lib.hid (HNV.out.trans (by rw [hs]; rfl) : ((true && chanOK c) && !dupB (bs.take (m + 1)) c) = true)
                  clear HNV hs
                  go_wp2_with fail
                  go_quiet (fail)
                  go_wp2
                  go_roundw
                  case rel => exact ⟨m + 1, by omega, by go_num, by rw [HNV2.out], HBX2.out, bel_drewN hbi _⟩
                  case measure => simp [intOf]; omega
                · have s1 : (x.name.toList == c.name.toList) = true := hs
                  have s2 : (x.name.toList != c.name.toList) = false := by rw [bne, s1]; rfl
                  have HNV2 := Lib.hid (HNV.out.trans (by rw [hs]; rfl) : ((true && chanOK c) && !dupB (bs.take (m + 1)) c) = false)
                  clear HNV hs
                  go_wp2_with fail
                  go_quiet (fail)
                  go_wp2
                  go_roundw
                  case rel => exact ⟨m + 1, by omega, by go_num, by rw [HNV2.out], HBX2.out, bel_drewN hbi _⟩
                  case measure => simp [intOf]; omega
            · obtain rfl : m = k := by omega
              have HOB2 := Lib.hid (HOB.out.trans (by rw [Bool.and_assoc]) : (inB 1 bs.length 16 && bookTo bs (m + 1)) = ((true && chanOK c) && !dupB (bs.take m) c))
              clear HV
              go_wp2
              go_roundw
              case rel => exact ⟨m + 1, by omega, by go_num, by rw [HOB2.out], hbi⟩
              case measure => simp [intOf]; omega
        · have HAA := Lib.hid hA
          cases hBb : inB 2 c.bits 24
          · have HV : Hid ((true && chanOK c) = false) := Lib.hid (by rw [HCK.out, hA, hBb]; rfl)
            have HX6 := HBX; have HL6 := HBA
            have HBB := Lib.hid hBb; clear hA hBb
            go_wp2_with fail
            refine (refIsName_any c.name _ hns).mono ?_
            rintro e w' ⟨rfl, rfl⟩
            rw [HAA.out]
            go_wp2_with fail
            refine (in_any _ _ _ _).mono ?_
            rintro e w' ⟨rfl, rfl⟩
            rw [HBB.out]
            go_wp2_with fail
            go_loopw [3, 6] (fun o j wi => ∃ m : Nat, m ≤ k ∧ j = .int .i64 m ∧ o = .bool ((true && chanOK c) && !dupB (bs.take m) c) ∧ Blk wi wr.heap.size 106 #[.string c.name, .int .i64 c.rate, .int .i64 c.bits] ∧ Below w.heap.size w wi) (fun _ j _ => k - (intOf j).toNat)
            case atStart => exact ⟨0, Nat.zero_le _, rfl, by first | (rw [HV.out]; simp [dupB]; done) | (rw [HV.out]; simp [dupB]; omega), HX6.out, HL6.out⟩
            case round =>
              clear HX6 HL6
              obtain ⟨m, hm, rfl, rfl, hbx, hbi⟩ := hrel
              by_cases hlt2 : m < k
              · obtain ⟨x, hxm⟩ := get_of_lt (show m < bs.length by omega)
                have e0 := cell_keep (HC.out.at (chs_get hxm).1) hbi (Nat.le_refl _)
                have e1 := hbx.c0
                have hds := dupB_succ (c := c) hxm
                have hnv : ((true && chanOK c) && !dupB (bs.take (m + 1)) c) = (((true && chanOK c) && !dupB (bs.take m) c) && !sameName x.name c.name) := by rw [hds]; cases chanOK c <;> simp
                have HNV := Lib.hid hnv; have HBX2 := Lib.hid hbx
                clear hds hnv hxm hbx
                generalize hq : ((true && chanOK c) && !dupB (bs.take m) c) = q at *
                clear hq HV
                have i1 : (m : Int) < bs.length := by omega
                have i2 : (0 : Int) ≤ m := by omega
                cases q
                · go_wp2_with fail
                  go_quiet (fail)
                  go_wp2
                  go_roundw
                  case rel => exact ⟨m + 1, by omega, by go_num, by rw [HNV.out]; rfl, HBX2.out, bel_drewN hbi _⟩
                  case measure => simp [intOf]; omega
                · cases hs : sameName x.name c.name
                  · have s1 : (x.name.toList == c.name.toList) = false := hs
                    have s2 : (x.name.toList != c.name.toList) = true := by rw [bne, s1]; rfl
                    have HNV2 := Lib.hid (HNV.out.trans (by rw [hs]; rfl) : ((true && chanOK c) && !dupB (bs.take (m + 1)) c) = true)
                    clear HNV hs
                    go_wp2_with fail
                    go_quiet (fail)
                    go_wp2
                    go_roundw
                    case rel => exact ⟨m + 1, by omega, by go_num, by rw [HNV2.out], HBX2.out, bel_drewN hbi _⟩
                    case measure => simp [intOf]; omega
                  · have s1 : (x.name.toList == c.name.toList) = true := hs
                    have s2 : (x.name.toList != c.name.toList) = false := by rw [bne, s1]; rfl
                    have HNV2 := Lib.hid (HNV.out.trans (by rw [hs]; rfl) : ((true && chanOK c) && !dupB (bs.take (m + 1)) c) = false)
                    clear HNV hs
                    go_wp2_with fail
                    go_quiet (fail)
                    go_wp2
                    go_roundw
                    case rel => exact ⟨m + 1, by omega, by go_num, by rw [HNV2.out], HBX2.out, bel_drewN hbi _⟩
                    case measure => simp [intOf]; omega
              · obtain rfl : m = k := by omega
                have HOB2 := Lib.hid (HOB.out.trans (by rw [Bool.and_assoc]) : (inB 1 bs.length 16 && bookTo bs (m + 1)) = ((true && chanOK c) && !dupB (bs.take m) c))
                clear HV
                go_wp2
                go_roundw
                case rel => exact ⟨m + 1, by omega, by go_num, by rw [HOB2.out], hbi⟩
                case measure => simp [intOf]; omega
          · have HV : Hid ((true && chanOK c) = pow2B c.rate) := Lib.hid (by rw [HCK.out, hA, hBb]; rfl)
            have HX6 := Lib.hid (HBX.out.alloc (.cells #[.int .i64 1, .int .i64 2, .int .i64 4, .int .i64 8, .int .i64 16, .int .i64 32, .int .i64 64] 3))
            have HL6 := Lib.hid (HBA.out.alloc HBA.out.size (.cells #[.int .i64 1, .int .i64 2, .int .i64 4, .int .i64 8, .int .i64 16, .int .i64 32, .int .i64 64] 3))
            have HBB := Lib.hid hBb; clear hA hBb
            go_wp2_with fail
            refine (refIsName_any c.name _ hns).mono ?_
            rintro e w' ⟨rfl, rfl⟩
            rw [HAA.out]
            go_wp2_with fail
            refine (in_any _ _ _ _).mono ?_
            rintro e w' ⟨rfl, rfl⟩
            rw [HBB.out]
            go_wp2_with fail
            have hlit := new_lit (wr.alloc (.cells #[.string c.name, .int .i64 c.rate, .int .i64 c.bits] 106))
            rw [World.size_alloc] at hlit
            refine (refFind_any _ [1, 2, 4, 8, 16, 32, 64] 7 c.rate _ hlit (by decide)).mono ?_
            rintro e w' ⟨⟨r, rfl, hr⟩, rfl⟩
            rw [pow2_mem] at hr
            cases hp : pow2B c.rate
            · have hr0 : ¬ 0 ≤ r := fun h => by have := hr.1 h; rw [hp] at this; cases this
              rw [hp] at HV
              clear hr hlit hp
              go_wp2_with fail
              go_loopw [3, 6] (fun o j wi => ∃ m : Nat, m ≤ k ∧ j = .int .i64 m ∧ o = .bool ((true && chanOK c) && !dupB (bs.take m) c) ∧ Blk wi wr.heap.size 106 #[.string c.name, .int .i64 c.rate, .int .i64 c.bits] ∧ Below w.heap.size w wi) (fun _ j _ => k - (intOf j).toNat)
              case atStart => exact ⟨0, Nat.zero_le _, rfl, by first | (rw [HV.out]; simp [dupB]; done) | (rw [HV.out]; simp [dupB]; omega), HX6.out, HL6.out⟩
              case round =>
                clear HX6 HL6
                obtain ⟨m, hm, rfl, rfl, hbx, hbi⟩ := hrel
                by_cases hlt2 : m < k
                · obtain ⟨x, hxm⟩ := get_of_lt (show m < bs.length by omega)
                  have e0 := cell_keep (HC.out.at (chs_get hxm).1) hbi (Nat.le_refl _)
                  have e1 := hbx.c0
                  have hds := dupB_succ (c := c) hxm
                  have hnv : ((true && chanOK c) && !dupB (bs.take (m + 1)) c) = (((true && chanOK c) && !dupB (bs.take m) c) && !sameName x.name c.name) := by rw [hds]; cases chanOK c <;> simp
                  have HNV := Lib.hid hnv; have HBX2 := Lib.hid hbx
                  clear hds hnv hxm hbx
                  generalize hq : ((true && chanOK c) && !dupB (bs.take m) c) = q at *
                  clear hq HV
                  have i1 : (m : Int) < bs.length := by omega
                  have i2 : (0 : Int) ≤ m := by omega
                  cases q
                  · go_wp2_with fail
                    go_quiet (fail)
                    go_wp2
                    go_roundw
                    case rel => exact ⟨m + 1, by omega, by go_num, by rw [HNV.out]; rfl, HBX2.out, bel_drewN hbi _⟩
                    case measure => simp [intOf]; omega
                  · cases hs : sameName x.name c.name
                    · have s1 : (x.name.toList == c.name.toList) = false := hs
                      have s2 : (x.name.toList != c.name.toList) = true := by rw [bne, s1]; rfl
                      have HNV2 := Lib.hid (HNV.out.trans (by rw [hs]; rfl) : ((true && chanOK c) && !dupB (bs.take (m + 1)) c) = true)
                      clear HNV hs
                      go_wp2_with fail
                      go_quiet (fail)
                      go_wp2
                      go_roundw
                      case rel => exact ⟨m + 1, by omega, by go_num, by rw [HNV2.out], HBX2.out, bel_drewN hbi _⟩
                      case measure => simp [intOf]; omega
                    · have s1 : (x.name.toList == c.name.toList) = true := hs
                      have s2 : (x.name.toList != c.name.toList) = false := by rw [bne, s1]; rfl
                      have HNV2 := Lib.hid (HNV.out.trans (by rw [hs]; rfl) : ((true && chanOK c) && !dupB (bs.take (m + 1)) c) = false)
                      clear HNV hs
                      go_wp2_with fail
                      go_quiet (fail)
                      go_wp2
                      go_roundw
                      case rel => exact ⟨m + 1, by omega, by go_num, by rw [HNV2.out], HBX2.out, bel_drewN hbi _⟩
                      case measure => simp [intOf]; omega
                · obtain rfl : m = k := by omega
                  have HOB2 := Lib.hid (HOB.out.trans (by rw [Bool.and_assoc]) : (inB 1 bs.length 16 && bookTo bs (m + 1)) = ((true && chanOK c) && !dupB (bs.take m) c))
                  clear HV
                  go_wp2
                  go_roundw
                  case rel => exact ⟨m + 1, by omega, by go_num, by rw [HOB2.out], hbi⟩
                  case measure => simp [intOf]; omega
            · have hr0 : 0 ≤ r := hr.2 hp
              rw [hp] at HV
              clear hr hlit hp
              go_wp2_with fail
              go_loopw [3, 6] (fun o j wi => ∃ m : Nat, m ≤ k ∧ j = .int .i64 m ∧ o = .bool ((true && chanOK c) && !dupB (bs.take m) c) ∧ Blk wi wr.heap.size 106 #[.string c.name, .int .i64 c.rate, .int .i64 c.bits] ∧ Below w.heap.size w wi) (fun _ j _ => k - (intOf j).toNat)
              case atStart => exact ⟨0, Nat.zero_le _, rfl, by first | (rw [HV.out]; simp [dupB]; done) | (rw [HV.out]; simp [dupB]; omega), HX6.out, HL6.out⟩
              case round =>
                clear HX6 HL6
                obtain ⟨m, hm, rfl, rfl, hbx, hbi⟩ := hrel
                by_cases hlt2 : m < k
                · obtain ⟨x, hxm⟩ := get_of_lt (show m < bs.length by omega)
                  have e0 := cell_keep (HC.out.at (chs_get hxm).1) hbi (Nat.le_refl _)
                  have e1 := hbx.c0
                  have hds := dupB_succ (c := c) hxm
                  have hnv : ((true && chanOK c) && !dupB (bs.take (m + 1)) c) = (((true && chanOK c) && !dupB (bs.take m) c) && !sameName x.name c.name) := by rw [hds]; cases chanOK c <;> simp
                  have HNV := Lib.hid hnv; have HBX2 := Lib.hid hbx
                  clear hds hnv hxm hbx
                  generalize hq : ((true && chanOK c) && !dupB (bs.take m) c) = q at *
                  clear hq HV
                  have i1 : (m : Int) < bs.length := by omega
                  have i2 : (0 : Int) ≤ m := by omega
                  cases q
                  · go_wp2_with fail
                    go_quiet (fail)
                    go_wp2
                    go_roundw
                    case rel => exact ⟨m + 1, by omega, by go_num, by rw [HNV.out]; rfl, HBX2.out, bel_drewN hbi _⟩
                    case measure => simp [intOf]; omega
                  · cases hs : sameName x.name c.name
                    · have s1 : (x.name.toList == c.name.toList) = false := hs
                      have s2 : (x.name.toList != c.name.toList) = true := by rw [bne, s1]; rfl
                      have HNV2 := Lib.hid (HNV.out.trans (by rw [hs]; rfl) : ((true && chanOK c) && !dupB (bs.take (m + 1)) c) = true)
                      clear HNV hs
                      go_wp2_with fail
                      go_quiet (fail)
                      go_wp2
                      go_roundw
                      case rel => exact ⟨m + 1, by omega, by go_num, by rw [HNV2.out], HBX2.out, bel_drewN hbi _⟩
                      case measure => simp [intOf]; omega
                    · have s1 : (x.name.toList == c.name.toList) = true := hs
                      have s2 : (x.name.toList != c.name.toList) = false := by rw [bne, s1]; rfl
                      have HNV2 := Lib.hid (HNV.out.trans (by rw [hs]; rfl) : ((true && chanOK c) && !dupB (bs.take (m + 1)) c) = false)
                      clear HNV hs
                      go_wp2_with fail
                      go_quiet (fail)
                      go_wp2
                      go_roundw
                      case rel => exact ⟨m + 1, by omega, by go_num, by rw [HNV2.out], HBX2.out, bel_drewN hbi _⟩
                      case measure => simp [intOf]; omega
                · obtain rfl : m = k := by omega
                  have HOB2 := Lib.hid (HOB.out.trans (by rw [Bool.and_assoc]) : (inB 1 bs.length 16 && bookTo bs (m + 1)) = ((true && chanOK c) && !dupB (bs.take m) c))
                  clear HV
                  go_wp2
                  go_roundw
                  case rel => exact ⟨m + 1, by omega, by go_num, by rw [HOB2.out], hbi⟩
                  case measure => simp [intOf]; omega
    · obtain rfl : k = bs.length := by omega
      have hf : bookErr bs = if (inB 1 bs.length 16 && bookTo bs bs.length) then 0 else 50 := rfl
      have HF := Lib.hid hf; clear hf
      generalize (inB 1 bs.length 16 && bookTo bs bs.length) = o at *
      cases o
      · go_wp2
        go_ret
        exact ⟨ret_int (by rw [HF.out]; rfl), hbr⟩
      · go_wp2
        go_ret
        exact ⟨ret_int (by rw [HF.out]; rfl), hbr⟩
end Go.Proofs.YtoochleabcjljaaGreatDoor

/- The chapter's own frame, CheckRecord, span. -/
namespace Go.Proofs.YtoochleabcjljaaGreatDoor
open Go.RowKit

set_option maxRecDepth 100000 in
set_option maxHeartbeats 2000000 in
theorem refFrame_any (ao : Option Addr) (bs : List Chan) (cap : Nat) (st : Int) (asm : Option Addr) (vs : List Value) (xss : List (List Int)) (cs : Nat) (w : World) (hc : Cells w ao (chs bs)) (hl : bs.length ≤ 9223372036854775807) (hs : Cells w asm vs) (hr : RowsV w vs xss) (_hls : xss.length ≤ 9223372036854775807) (hbk : bookOK bs = true) :
    Calls Tryz.prog 72 #[.slice ao bs.length cap, .agg #[.int .i64 st, .slice asm xss.length cs]] w fun e w' => e = .returned (.bool (frOK bs st xss)) ∧ Below w.heap.size w w' := by
  have HC := Lib.hid hc; have HS := Lib.hid hs; have HR := Lib.hid hr; have HBK := Lib.hid hbk
  clear hc hs hr hbk
  cases h1 : inB 0 st 1073741824
  · have hf : frOK bs st xss = false := by simp [frOK, h1]
    have HF := Lib.hid hf; have H1 := Lib.hid h1
    clear hf h1
    go_enter Tryz.func72, Tryz.ntmps72
    go_wp2_with fail
    refine (in_any _ _ _ _).mono ?_
    rintro e w' ⟨rfl, rfl⟩
    rw [H1.out]
    go_wp2
    go_ret
    exact ⟨ret_bool HF.out.symm, (Below.refl _ _).alloc (Nat.le_refl _) _⟩
  · by_cases h2 : xss.length = bs.length
    · have hf : frOK bs st xss = frTo bs xss bs.length := by simp [frOK, h1, h2]
      have HF := Lib.hid hf; have H1 := Lib.hid h1
      have hlen : ((xss.length : Int) != bs.length) = false := by simp [h2]
      have hle1 : xss.length ≤ bs.length := by omega
      have hle2 : bs.length ≤ xss.length := by omega
      clear hf h1 h2
      go_enter Tryz.func72, Tryz.ntmps72
      go_wp2_with fail
      refine (in_any _ _ _ _).mono ?_
      rintro e w' ⟨rfl, rfl⟩
      rw [H1.out]
      have hrf := Below.refl (w.heap.size + 1) (w.alloc (.cells #[.int .i64 st, .slice asm xss.length cs] 43))
      go_wp2_with fail
      go_loopw [5] (fun i wr => ∃ k : Nat, k ≤ bs.length ∧ i = .int .i64 k ∧ frTo bs xss k = true ∧ Below (w.heap.size + 1) (w.alloc (.cells #[.int .i64 st, .slice asm xss.length cs] 43)) wr) (fun i _ => bs.length - (intOf i).toNat)
      case atStart => exact ⟨0, Nat.zero_le _, rfl, rfl, hrf⟩
      case round =>
        clear hrf
        obtain ⟨k, hk, rfl, hfr, hb⟩ := hrel
        have HFR := Lib.hid hfr; clear hfr
        have p1 : wr.cell? ⟨w.heap.size, 1, none⟩ = some (.slice asm xss.length cs) := box_keep hb (by simp) 1
        have hbw : Below w.heap.size w wr := ((Below.refl _ _).alloc (Nat.le_refl _) _).trans (hb.mono (by omega))
        by_cases hlt : k < bs.length
        · obtain ⟨c, hx⟩ := get_of_lt hlt
          obtain ⟨xs, hxs⟩ := get_of_lt (show k < xss.length by omega)
          obtain ⟨v, hv⟩ := get_of_lt (show k < vs.length by have := HR.out.1; omega)
          obtain ⟨b, off, rfl⟩ := HC.out.addr (chs_ne (by omega))
          obtain ⟨b2, off2, rfl⟩ := HS.out.addr (List.ne_nil_of_length_pos (by have := HR.out.1; omega))
          obtain ⟨g0, g1, g2⟩ := chs_get hx
          have hg1 := HC.out.at g1
          have hg2 := HC.out.at g2
          rw [← Nat.add_assoc] at hg1 hg2
          have hg3 := HS.out.at hv
          have HG1 := Lib.hid hg1; have HG2 := Lib.hid hg2
          have c1 := cell_keep hg1 hbw (Nat.le_refl _)
          have c2 := cell_keep hg2 hbw (Nat.le_refl _)
          have c3 := cell_keep hg3 hbw (Nat.le_refl _)
          have hrow := HR.out.2 k v xs hv hxs
          obtain ⟨ax, cx, rfl, hax, haxl⟩ := hrow
          have HG3 := Lib.hid hg3
          have hck := book_get HBK.out hx
          obtain ⟨k1, k2, k3, k4⟩ := hck
          obtain ⟨m1, m2, m3⟩ := most_bd k3 k4
          have hst := frTo_succ hx hxs
          rw [HFR.out, Bool.true_and] at hst
          have HST := Lib.hid hst; have HAX := Lib.hid hax; have M3 := Lib.hid m3
          clear g0 g1 g2 hg1 hg2 hg3 hst hax hx hxs hv m3
          have hmx : (c.bits - 1).toNat ≤ 23 := by omega
          have hmin : min (c.bits - 1).toNat 64 = (c.bits - 1).toNat := by omega
          have hpw : (2 : Int) ^ (c.bits.toNat - 1) = mostOf c := by rw [mostOf]; congr 1; omega
          have ki1 : (k : Int) < xss.length := by omega
          have ki2 : (k : Int) < bs.length := by omega
          have ki3 : (0 : Int) ≤ k := by omega
          go_wp2_with fail
          clear hpw hmx hmin
          by_cases hlr : (xs.length : Int) = c.rate
          · have hst : frTo bs xss (k + 1) = !xs.any (fun n => !inB (-(mostOf c)) n (mostOf c - 1)) := by rw [HST.out]; simp [smpOK, hlr]
            have HST2 := Lib.hid hst; clear hst
            have hneq : ((xs.length : Int) != c.rate) = false := by simp [hlr]
            clear hlr
            go_quiet (fail)
            go_wp2_with fail
            have hbd := bel_drewN hb nq
            clear c1 c2 c3 p1 hb hbw
            go_loopw [7] (fun i wi => ∃ m : Nat, m ≤ xs.length ∧ i = .int .i64 m ∧ ((xs.take m).any fun n => !inB (-(mostOf c)) n (mostOf c - 1)) = false ∧ Below (w.heap.size + 1) (w.alloc (.cells #[.int .i64 st, .slice (some ⟨b2, off2, none⟩) xss.length cs] 43)) wi) (fun i _ => xs.length - (intOf i).toNat)
            case atStart => exact ⟨0, Nat.zero_le _, rfl, rfl, hbd⟩
            case round =>
              clear hbd
              obtain ⟨m, hm, rfl, hany, hbi⟩ := hrel
              have HA := Lib.hid hany; clear hany
              have p1 : wr.cell? ⟨w.heap.size, 1, none⟩ = some (.slice (some ⟨b2, off2, none⟩) xss.length cs) := box_keep hbi (by simp) 1
              have hbw : Below w.heap.size w wr := ((Below.refl _ _).alloc (Nat.le_refl _) _).trans (hbi.mono (by omega))
              have c3 := cell_keep HG3.out hbw (Nat.le_refl _)
              by_cases hlt2 : m < xs.length
              · obtain ⟨x, hxm⟩ := get_of_lt hlt2
                obtain ⟨bx, ox, rfl⟩ := HAX.out.addr (by simpa using List.ne_nil_of_length_pos (by omega))
                have c4 := cell_keep (HAX.out.int hxm) hbw (Nat.le_refl _)
                have HXM := Lib.hid hxm; clear hxm
                cases hin : inB (-(mostOf c)) x (mostOf c - 1)
                · have hfl : frTo bs xss bs.length = false := frTo_false (k := k + 1) (by
                    rw [HST2.out, Bool.not_eq_false', List.any_eq_true]
                    exact ⟨x, List.mem_of_getElem? HXM.out, by rw [hin]; rfl⟩) (by omega)
                  have HFL := Lib.hid hfl; have HIN := Lib.hid hin
                  clear hfl hin
                  go_wp2_with fail
                  refine (in_any _ _ _ _).mono ?_
                  rintro e w' ⟨rfl, rfl⟩
                  rw [HIN.out]
                  go_wp2
                  go_ret
                  exact ⟨ret_bool (by rw [HF.out, HFL.out]), hbw⟩
                · have HIN := Lib.hid hin
                  have hnx : ((xs.take (m + 1)).any fun n => !inB (-(mostOf c)) n (mostOf c - 1)) = false := by
                    rw [take_get HXM.out, List.any_append, HA.out]; simp [hin]
                  have HNX := Lib.hid hnx
                  clear hin hnx
                  go_wp2_with fail
                  refine (in_any _ _ _ _).mono ?_
                  rintro e w' ⟨rfl, rfl⟩
                  rw [HIN.out]
                  go_wp2
                  go_roundw
                  case rel => exact ⟨m + 1, by omega, by go_num, HNX.out, hbi⟩
                  case measure => simp [intOf]; omega
              · obtain rfl : m = xs.length := by omega
                rw [List.take_length] at HA
                have hfr2 : frTo bs xss (k + 1) = true := by rw [HST2.out, HA.out]; rfl
                have HFR2 := Lib.hid hfr2; clear hfr2
                go_wp2
                go_roundw
                case rel => exact ⟨k + 1, by omega, by go_num, HFR2.out, hbi⟩
                case measure => simp [intOf]; omega
          · have hfl : frTo bs xss bs.length = false := frTo_false (k := k + 1) (by rw [HST.out]; simp [smpOK, hlr]) (by omega)
            have HFL := Lib.hid hfl; clear hfl
            have hneq : ((xs.length : Int) != c.rate) = true := by simpa using hlr
            go_quiet (fail)
            go_wp2
            go_ret
            exact ⟨ret_bool (by rw [HF.out, HFL.out]), bel_drewN hbw _⟩
        · obtain rfl : k = bs.length := by omega
          go_wp2
          go_ret
          exact ⟨ret_bool (by rw [HF.out, HFR.out]), hbw⟩
    · have hf : frOK bs st xss = false := by simp [frOK, h2]
      have HF := Lib.hid hf; have H1 := Lib.hid h1
      have hlen : ((xss.length : Int) != bs.length) = true := by rw [bne_iff_ne]; omega
      clear hf h1 h2
      go_enter Tryz.func72, Tryz.ntmps72
      go_wp2_with fail
      refine (in_any _ _ _ _).mono ?_
      rintro e w' ⟨rfl, rfl⟩
      rw [H1.out]
      go_wp2
      go_ret
      exact ⟨ret_bool HF.out.symm, (Below.refl _ _).alloc (Nat.le_refl _) _⟩
end Go.Proofs.YtoochleabcjljaaGreatDoor

/- The chapter's own CheckRecord, span. -/
namespace Go.Proofs.YtoochleabcjljaaGreatDoor
open Go.RowKit

theorem BookIn.in0 {w : World} {ao : Option Addr} {bs : List Chan} {cap : Nat} (h : BookIn w ao bs cap) : BookIn0 w ao bs := ⟨h.cells, h.len, h.names⟩

set_option maxRecDepth 100000 in
set_option maxHeartbeats 2000000 in
theorem refCheckRecord_any (ao : Option Addr) (bs : List Chan) (cap : Nat) (al : Option Addr) (l : List Frm) (cl : Nat) (w : World) (hb : BookIn w ao bs cap) (hr : RecIn w al l) :
    Calls Tryz.prog 29 #[.slice ao bs.length cap, .slice al l.length cl] w fun e w' => e = .returned (.int .i64 (recErr bs l)) ∧ Below w.heap.size w w' := by
  have HB := Lib.hid hb; have HR := Lib.hid hr
  have hll := hr.len
  clear hb hr
  have hck := fun wx (h : BookIn wx ao bs cap) => refCheckBook_any ao bs cap wx h.in0
  have HCK := Lib.hid hck; clear hck
  by_cases h1 : bookErr bs = 0
  · have hok := bookErr_zero h1
    by_cases h2 : 64 < l.length
    · have he : recErr bs l = 3 := by simp [recErr, h1, h2]
      have HE := Lib.hid he; have H1 := Lib.hid h1
      clear he h1 hok
      go_enter Tryz.func29, Tryz.ntmps29
      go_wp2_with fail
      refine (HCK.out _ HB.out).mono ?_
      rintro e w1 ⟨rfl, hb1⟩
      rw [H1.out]
      go_wp2
      go_ret
      exact ⟨ret_int HE.out.symm, hb1⟩
    · have HOK := Lib.hid hok; have H1 := Lib.hid h1
      clear h1 hok
      go_enter Tryz.func29, Tryz.ntmps29
      go_wp2_with fail
      refine (HCK.out _ HB.out).mono ?_
      rintro e w1 ⟨rfl, hb1⟩
      rw [H1.out]
      have HB1 := Lib.hid (HB.out.below hb1 (Nat.le_refl _))
      go_wp2_with fail
      go_loopw [6] (fun i wr => ∃ k : Nat, k ≤ l.length ∧ i = .int .i64 k ∧ ((l.take k).any fun f => !frOK bs f.st f.xss) = false ∧ Below w.heap.size w wr) (fun i _ => l.length - (intOf i).toNat)
      case atStart => exact ⟨0, Nat.zero_le _, rfl, rfl, hb1⟩
      case round =>
        clear hb1
        obtain ⟨k, hk, rfl, hany, hbr⟩ := hrel
        have HA := Lib.hid hany; clear hany
        by_cases hlt : k < l.length
        · obtain ⟨⟨xst, xa, xc, xss⟩, hx⟩ := get_of_lt hlt
          have hmem := List.mem_of_getElem? hx
          obtain ⟨bl, ol, rfl⟩ := HR.out.cells.addr (frs_ne (by omega))
          have d0 := cell_keep (HR.out.cells.at (frs_get hx).1) hbr (Nat.le_refl _)
          have d1 := cell_keep (HR.out.cells.at (frs_get hx).2) hbr (Nat.le_refl _)
          rw [← Nat.add_assoc] at d1
          obtain ⟨hxl, vs, hvs, hrv⟩ := HR.out.rows _ hmem
          simp only at d0 d1 hxl hvs hrv
          have hfr := refFrame_any ao bs cap xst xa vs xss xc wr (HB.out.below hbr (Nat.le_refl _)).cells HB.out.len (hvs.below hbr (Nat.le_refl _)) (hrv.below hbr (Nat.le_refl _)) hxl HOK.out
          have HFR := Lib.hid hfr; have HX := Lib.hid hx
          clear hfr hvs hrv hx
          go_wp2_with fail
          refine HFR.out.mono ?_
          rintro e w2 ⟨rfl, hb2⟩
          have hbz := hbr.trans (hb2.mono hbr.size)
          clear hb2
          cases hf : frOK bs xst xss
          · have he : recErr bs l = 51 := by
              have h3 : (l.any fun f => !frOK bs f.st f.xss) = true := List.any_eq_true.2 ⟨_, hmem, by simp [hf]⟩
              rw [recErr, if_neg (by rw [H1.out]; decide), if_neg h2, h3]; rfl
            have HE := Lib.hid he
            clear he hmem hf
            go_wp2
            go_ret
            exact ⟨ret_int HE.out.symm, hbz⟩
          · have hnx : ((l.take (k + 1)).any fun f => !frOK bs f.st f.xss) = false := by
              rw [take_get HX.out, List.any_append, HA.out]; simp [hf]
            have HNX := Lib.hid hnx
            clear hnx hmem hf
            go_wp2
            go_roundw
            case rel => exact ⟨k + 1, by omega, by go_num, HNX.out, hbz⟩
            case measure => simp [intOf]; omega
        · obtain rfl : k = l.length := by omega
          rw [List.take_length] at HA
          have he : recErr bs l = if upTo l l.length = false then 52 else 0 := by rw [recErr, if_neg (by rw [H1.out]; decide), if_neg h2, HA.out]; rfl
          have HE := Lib.hid he
          clear he
          go_wp2_with fail
          obtain ⟨wo, rfl⟩ : ∃ wo : World, wo = wr := ⟨_, rfl⟩
          go_loopw [7] (fun i wr => ∃ k : Nat, 1 ≤ k ∧ (k ≤ l.length ∨ k = 1) ∧ i = .int .i64 k ∧ upTo l (min k l.length) = true ∧ Below w.heap.size w wr) (fun i _ => l.length - (intOf i).toNat)
          case atStart =>
            refine ⟨1, Nat.le_refl _, .inr rfl, rfl, ?_, hbr⟩
            rcases Nat.eq_zero_or_pos l.length with h | h
            · rw [h]; rfl
            · rw [Nat.min_eq_left h]; simp [upTo]
          case round =>
            clear hbr
            obtain ⟨k, hk1, hk2, rfl, hup, hbr⟩ := hrel
            by_cases hlt : k < l.length
            · rw [Nat.min_eq_left (by omega)] at hup
              have HU := Lib.hid hup; clear hup
              obtain ⟨y, hy⟩ := get_of_lt hlt
              obtain ⟨x, hx⟩ := get_of_lt (show k - 1 < l.length by omega)
              obtain ⟨bl, ol, rfl⟩ := HR.out.cells.addr (frs_ne (by omega))
              have c1 := cell_keep (HR.out.cells.at (frs_get hy).1) hbr (Nat.le_refl _)
              have c0 := cell_keep (HR.out.cells.at (frs_get hx).1) hbr (Nat.le_refl _)
              have hyd : l.getD k ⟨0, none, 0, []⟩ = y := by rw [List.getD_eq_getElem?_getD, hy]; rfl
              have hxd : l.getD (k - 1) ⟨0, none, 0, []⟩ = x := by rw [List.getD_eq_getElem?_getD, hx]; rfl
              have hst : upTo l (k + 1) = decide (x.st < y.st) := by rw [upTo, HU.out, hxd, hyd]; simp; omega
              have HST := Lib.hid hst
              clear hst hyd hy hx hxd
              have a1 : IntKind.i64.wrap ((k : Int) - 1) = (k : Int) - 1 := IntWalk.i64_in _ (by omega)
              have a2 : ((k : Int) - 1).toNat = k - 1 := by omega
              have a3 : (0 : Int) ≤ (k : Int) - 1 := by omega
              have a3' : (1 : Int) ≤ (k : Int) := by omega
              have a4 : (k : Int) - 1 < (l.length : Int) := by omega
              have a6 : (k : Int) < (l.length : Int) := by omega
              have a7 : (0 : Int) ≤ (k : Int) := by omega
              generalize x.st = xs at *
              generalize y.st = ys at *
              by_cases hxy : xs < ys
              · have d1 : decide (ys ≤ xs) = false := by simp; omega
                go_wp2_with fail
                go_quiet (fail)
                clear a1 a2 a3 a3' a4 a6 a7
                go_wp2
                go_roundw
                case rel => exact ⟨k + 1, by omega, .inl (by omega), by go_num, by rw [Nat.min_eq_left (by omega), HST.out]; simpa using hxy, bel_drewN hbr _⟩
                case measure => simp [intOf]; omega
              · have d1 : decide (ys ≤ xs) = true := by simp; omega
                have hfl : upTo l l.length = false := upTo_false (k := k + 1) (by rw [HST.out]; simpa using hxy) (by omega)
                have HFL := Lib.hid hfl
                clear hfl
                go_wp2_with fail
                go_quiet (fail)
                go_wp2
                go_ret
                exact ⟨ret_int (by rw [HE.out, HFL.out]; rfl), bel_drewN hbr _⟩
            · have hup2 : upTo l l.length = true := by rw [Nat.min_eq_right (by omega)] at hup; exact hup
              have HU := Lib.hid hup2
              clear hup hup2
              go_wp2
              go_ret
              exact ⟨ret_int (by rw [HE.out, HU.out]; rfl), hbr⟩
  · have he : recErr bs l = bookErr bs := by simp [recErr, h1]
    have h3 : (bookErr bs != 0) = true := by simpa using h1
    have h4 : (bookErr bs == 0) = false := by simpa using h1
    have HE := Lib.hid he; clear he
    go_enter Tryz.func29, Tryz.ntmps29
    go_wp2_with fail
    refine (HCK.out _ HB.out).mono ?_
    rintro e w1 ⟨rfl, hb1⟩
    go_wp2
    go_ret
    exact ⟨ret_int HE.out.symm, hb1⟩
end Go.Proofs.YtoochleabcjljaaGreatDoor

/- Records: Series. -/
namespace Go.Proofs.YtoochleabcjljaaGreatDoor
open Go.RowKit

theorem series1_any (x : Chan) (bc : Nat) (t : ByteArray) (w : World) (hc : w.cell? ⟨bc, 0, none⟩ = some (.string t)) :
    Calls Tryz.prog 81 #[.agg #[.string x.name, .int .i64 x.rate, .int .i64 x.bits], .pointer (some ⟨bc, 0, none⟩)] w fun e w' => e = .returned (.bool (sameName x.name t)) ∧ Below w.heap.size w w' := by
  have hc1 := cell_keep hc ((Below.refl _ _).alloc (Nat.le_refl _) (.cells #[.string x.name, .int .i64 x.rate, .int .i64 x.bits] 106)) (Nat.le_refl _)
  go_enter Tryz.func81, Tryz.ntmps81
  go_wp2
  go_ret
  exact ⟨rfl, (Below.refl _ _).alloc (Nat.le_refl _) _⟩

/-- is a frame within? -/
def inF (fr tt : Int) (f : Frm) : Bool := decide (fr ≤ f.st) && decide (f.st < tt)
def serOf (k : Nat) (fr tt : Int) (l : List Frm) : List Int := l.flatMap fun f => if inF fr tt f then f.xss.getD k [] else []
def cntOf (fr tt : Int) (l : List Frm) : Nat := (l.filter (inF fr tt)).length
theorem serOf_snoc (k : Nat) (fr tt : Int) (l : List Frm) (f : Frm) : serOf k fr tt (l ++ [f]) = serOf k fr tt l ++ if inF fr tt f then f.xss.getD k [] else [] := by simp [serOf]
theorem cntOf_snoc (fr tt : Int) (l : List Frm) (f : Frm) : cntOf fr tt (l ++ [f]) = cntOf fr tt l + if inF fr tt f then 1 else 0 := by
  rw [cntOf, List.filter_append, List.length_append, cntOf]
  cases h : inF fr tt f <;> simp [List.filter, h]
def chI (bs : List Chan) (name : ByteArray) : Nat := bs.findIdx fun c => sameName c.name name
def serE (bs : List Chan) (l : List Frm) (name : ByteArray) (fr tt : Int) : Int :=
  if btwErr bs l fr tt ≠ 0 then btwErr bs l fr tt else if (bs.any fun c => sameName c.name name) = false then 2 else if (cntOf fr tt l : Int) ≠ tt - fr then 4 else 0
def serR (bs : List Chan) (l : List Frm) (name : ByteArray) (fr tt : Int) : List Int := if serE bs l name fr tt = 0 then serOf (chI bs name) fr tt l else []

theorem findIdx_of {α : Type} {l : List α} {p : α → Bool} {i : Nat} {x : α} (h : l[i]? = some x) (hp : p x = true) (ht : (l.take i).any p = false) : l.findIdx p = i := by
  induction l generalizing i with
  | nil => simp at h
  | cons a l ih =>
    cases i with
    | zero => simp at h; subst h; simp [List.findIdx_cons, hp]
    | succ i =>
      simp only [List.take_succ_cons, List.any_cons, Bool.or_eq_false_iff] at ht
      rw [List.findIdx_cons, ht.1, ih (by simpa using h) ht.2]
      rfl

theorem frTo_row {bs : List Chan} {st : Int} {xss : List (List Int)} (h : frOK bs st xss = true) (hb : bookOK bs = true) {k : Nat} (hk : k < bs.length) : ∃ xs, xss[k]? = some xs ∧ 1 ≤ xs.length ∧ xs.length ≤ 64 := by
  simp only [frOK, Bool.and_eq_true, decide_eq_true_eq] at h
  obtain ⟨h1, h2, h3⟩ := h
  obtain ⟨xs, hx⟩ := get_of_lt (show k < xss.length by omega)
  obtain ⟨c, hc⟩ := get_of_lt hk
  have := book_get hb hc
  have hs := frTo_get h3 hk hc hx
  simp only [smpOK, Bool.and_eq_true, decide_eq_true_eq] at hs
  exact ⟨xs, hx, by omega, by omega⟩
theorem serOf_length (k : Nat) (fr tt : Int) (l : List Frm) (h : ∀ f ∈ l, (f.xss.getD k []).length ≤ 64) : (serOf k fr tt l).length ≤ 64 * l.length := by
  induction l with
  | nil => simp [serOf]
  | cons f l ih =>
    have := ih fun g hg => h g (by simp [hg])
    have h2 := h f (by simp)
    have e : serOf k fr tt (f :: l) = (if inF fr tt f then f.xss.getD k [] else []) ++ serOf k fr tt l := rfl
    have h3 : (if inF fr tt f then f.xss.getD k [] else []).length ≤ 64 := by
      split
      · exact h2
      · simp
    rw [e, List.length_append, List.length_cons]
    omega
theorem chI_spec {bs : List Chan} {name : ByteArray} (hany : (bs.any fun c => sameName c.name name) = true) : ∃ c, bs[chI bs name]? = some c ∧ sameName c.name name = true ∧ (bs.take (chI bs name)).any (fun c => sameName c.name name) = false := by
  have hlt : bs.findIdx (fun c : Chan => sameName c.name name) < bs.length := List.findIdx_lt_length.2 (by obtain ⟨x, hx, hp⟩ := List.any_eq_true.1 hany; exact ⟨x, hx, hp⟩)
  unfold chI
  refine ⟨bs[bs.findIdx (fun c : Chan => sameName c.name name)], by simp [hlt], List.findIdx_getElem (xs := bs) (p := fun c : Chan => sameName c.name name) (w := hlt), ?_⟩
  rw [List.any_eq_false]
  intro x hx
  obtain ⟨i, hi, rfl⟩ := List.mem_iff_getElem.1 hx
  rw [List.length_take] at hi
  rw [List.getElem_take]
  have := List.not_of_lt_findIdx (p := fun c : Chan => sameName c.name name) (xs := bs) (i := i) (by omega)
  simpa using this
theorem chI_uniq {bs : List Chan} {name : ByteArray} {i : Nat} {x : Chan} (h : bs[i]? = some x) (hp : sameName x.name name = true) (ht : (bs.take i).any (fun c => sameName c.name name) = false) : i = chI bs name := by
  unfold chI
  exact (findIdx_of (p := fun c : Chan => sameName c.name name) h hp ht).symm
theorem book_len {bs : List Chan} (h : bookOK bs = true) : bs.length ≤ 16 := by
  simp only [bookOK, inB, Bool.and_eq_true, decide_eq_true_eq] at h; omega
theorem Cells.at' {w : World} {ao : Option Addr} {b off : Nat} {cs : List Value} (h : Cells w ao cs) (ha : ao = some ⟨b, off, none⟩) {j : Nat} {u : Value} (hu : cs[j]? = some u) : w.cell? ⟨b, off + j, none⟩ = some u := by
  subst ha; exact h.at hu
theorem cntOf_le (fr tt : Int) (l : List Frm) : cntOf fr tt l ≤ l.length := List.length_filter_le _ _

set_option maxRecDepth 100000 in
set_option maxHeartbeats 1000000 in
theorem series_any (ao : Option Addr) (bs : List Chan) (cap : Nat) (al : Option Addr) (l : List Frm) (cl : Nat) (name : ByteArray) (fr tt : Int) (w : World) (hb : BookIn w ao bs cap) (hr : RecIn w al l) :
    Calls Tryz.prog 37 #[.slice ao bs.length cap, .slice al l.length cl, .string name, .int .i64 fr, .int .i64 tt] w fun e w' => (∃ v, e = .returned (.tuple #[v, .int .i64 (serE bs l name fr tt)]) ∧ w'.ownsRow w.heap.size 3 1 v (serR bs l name fr tt).length ((serR bs l name fr tt).map (Value.int .i64))) ∧ Below w.heap.size w w' := by
  have hb0 := (Below.refl w.heap.size w).alloc (Nat.le_refl _) (.cells #[.string name] 9)
  have hck := between_any ao bs cap al l cl fr tt _ (hb.below hb0 (Nat.le_refl _)) (hr.below hb0 (Nat.le_refl _))
  have HCK := Lib.hid hck; have HR := Lib.hid hr; have HB := Lib.hid hb
  have hbl := hb.len
  clear hck hb hr
  by_cases h1 : btwErr bs l fr tt = 0
  · obtain ⟨z0, z1, z2, z3⟩ := btwErr_zero h1
    obtain ⟨z5, z4, z6, _⟩ := recErr_zero z0
    have hok := bookErr_zero z5
    have H1 := Lib.hid h1; have Z6 := Lib.hid z6; have HOK := Lib.hid hok
    obtain ⟨i0, hi, hz0, hz1, hz2⟩ := info_parts Tryz.infoInt
    cases hany : bs.any fun c => sameName c.name name
    · have he : serE bs l name fr tt = 2 := by rw [serE, if_neg (by simpa using h1), hany]; rfl
      have hres : serR bs l name fr tt = [] := by rw [serR, he]; rfl
      have HE := Lib.hid he; have HS := Lib.hid hres; have HA := Lib.hid hany
      clear h1 z0 z5 z6 hok he hres hany
      go_enter Tryz.func37, Tryz.ntmps37
      go_wp2_with fail
      refine HCK.out.mono ?_
      rintro e w1 ⟨rfl, hb1⟩
      rw [H1.out]
      have hf := hb0.trans (hb1.mono hb0.size)
      have q0 : w1.cell? ⟨w.heap.size, 0, none⟩ = some (.string name) := box_keep hb1 (by simp) 0
      have HB1 := Lib.hid (HB.out.below hf (Nat.le_refl _))
      clear hb1
      go_wp2_with fail
      refine (indexFunc_chans 81 #[.pointer (some ⟨w.heap.size, 0, none⟩)] (fun c => sameName c.name name) ao bs cap w1 HB1.out.cells (by omega) (fun _ _ => by kernel_rfl) (fun x wx hx hbx => series1_any x w.heap.size name wx (cell_keep q0 hbx (Nat.le_refl _)))).mono ?_
      rintro e w2 ⟨⟨r, rfl, hr1, _⟩, hb2⟩
      have hr0 : r < 0 := by
        rw [HA.out] at hr1
        have := hr1.1
        rcases Int.lt_or_le r 0 with h | h
        · exact h
        · simp at hr1; omega
      have hf2 := hf.trans (hb2.mono hf.size)
      clear hr1 hf hb2 q0
      go_wp2
      go_ret2
      exact ⟨⟨_, by rw [HE.out]; rfl, by rw [HS.out]; exact World.ownsRow_nil _ _ _ _⟩, hf2⟩
    · obtain ⟨c0, hc0, hp0, ht0⟩ := chI_spec hany
      have hk := (List.getElem?_eq_some_iff.1 hc0).1
      have hrow : ∀ f ∈ l, ∃ xs, f.xss[chI bs name]? = some xs ∧ 1 ≤ xs.length ∧ xs.length ≤ 64 := fun f hf => frTo_row (z6 f hf) hok hk
      have hser : ∀ n, n ≤ l.length → (serOf (chI bs name) fr tt (l.take n)).length ≤ 64 * n := fun n hn => by
        have := serOf_length (chI bs name) fr tt (l.take n) (fun f hf => by
          obtain ⟨xs, h1, _, h2⟩ := hrow f (List.mem_of_mem_take hf)
          rw [List.getD_eq_getElem?_getD, h1]; exact h2)
        rw [List.length_take, Nat.min_eq_left hn] at this; exact this
      have HA := Lib.hid hany; have HROW := Lib.hid hrow; have HSER := Lib.hid hser
      have he : serE bs l name fr tt = if (cntOf fr tt l : Int) ≠ tt - fr then 4 else 0 := by rw [serE, if_neg (by simpa using h1), hany]; rfl
      have hrr : serR bs l name fr tt = if serE bs l name fr tt = 0 then serOf (chI bs name) fr tt l else [] := rfl
      have HE := Lib.hid he; have HRR := Lib.hid hrr
      have HF0 := Lib.hid (show ∀ i : Nat, (∃ x, bs[i]? = some x ∧ sameName x.name name = true ∧ (bs.take i).any (fun c => sameName c.name name) = false) → i = chI bs name from fun i ⟨x, a, b, c⟩ => chI_uniq a b c)
      have hk16 : chI bs name < 16 := by
        have := (book_len hok); omega
      clear h1 z0 z5 z6 hok he hrr hany hrow hser hc0 hp0 ht0
      generalize serE bs l name fr tt = ee at *
      generalize serR bs l name fr tt = rr at *
      generalize chI bs name = ck at *
      go_enter Tryz.func37, Tryz.ntmps37
      go_wp2_with fail
      refine HCK.out.mono ?_
      rintro e w1 ⟨rfl, hb1⟩
      rw [H1.out]
      have hf := hb0.trans (hb1.mono hb0.size)
      have q0 : w1.cell? ⟨w.heap.size, 0, none⟩ = some (.string name) := box_keep hb1 (by simp) 0
      have HB1 := Lib.hid (HB.out.below hf (Nat.le_refl _))
      clear hb1
      go_wp2_with fail
      refine (indexFunc_chans 81 #[.pointer (some ⟨w.heap.size, 0, none⟩)] (fun c => sameName c.name name) ao bs cap w1 HB1.out.cells (by omega) (fun _ _ => by kernel_rfl) (fun x wx hx hbx => series1_any x w.heap.size name wx (cell_keep q0 hbx (Nat.le_refl _)))).mono ?_
      rintro e w2 ⟨⟨r, rfl, hr1, hr2⟩, hb2⟩
      have hr0 : 0 ≤ r := hr1.2 HA.out
      obtain ⟨rn, rfl⟩ := Int.eq_ofNat_of_zero_le hr0
      obtain rfl : rn = ck := HF0.out rn (hr2 rn rfl)
      have hf2 := hf.trans (hb2.mono hf.size)
      have HR2 := Lib.hid (HR.out.below hf2 (Nat.le_refl _))
      clear hr1 hr2 hf hb2 q0 hr0
      have hrf := Below.refl w2.heap.size w2
      go_wp2
      go_loopw [14, 15, 33] (fun v s i wr => ∃ k : Nat, k ≤ l.length ∧ i = .int .i64 k ∧ s = .int .i64 (cntOf fr tt (l.take k) : Nat) ∧ wr.ownsRow w2.heap.size 3 1 v (serOf rn fr tt (l.take k)).length ((serOf rn fr tt (l.take k)).map (Value.int .i64)) ∧ Below w2.heap.size w2 wr) (fun _ _ i _ => l.length - (intOf i).toNat)
      case atStart => exact ⟨0, Nat.zero_le _, rfl, rfl, World.ownsRow_nil _ _ _ _, hrf⟩
      case round =>
        clear hrf
        obtain ⟨k, hk1, rfl, rfl, hown, hbr⟩ := hrel
        have hcl := cntOf_le fr tt (l.take k)
        rw [List.length_take, Nat.min_eq_left hk1] at hcl
        by_cases hlt : k < l.length
        · obtain ⟨⟨xst, xa, xc, xss⟩, hx⟩ := get_of_lt hlt
          obtain ⟨xs, hxs, hx1, hx2⟩ := HROW.out _ (List.mem_of_getElem? hx)
          obtain ⟨bl, ol, rfl⟩ := HR2.out.cells.addr (frs_ne (by omega))
          have d0 := cell_keep (HR2.out.cells.at (frs_get hx).1) hbr (Nat.le_refl _)
          have d1 := cell_keep (HR2.out.cells.at (frs_get hx).2) hbr (Nat.le_refl _)
          rw [← Nat.add_assoc] at d1
          obtain ⟨_, vs, hvs, hrv⟩ := HR2.out.rows _ (List.mem_of_getElem? hx)
          simp only at hxs hvs hrv d0 d1
          obtain ⟨v, hv⟩ := get_of_lt (show rn < vs.length by have := (List.getElem?_eq_some_iff.1 hxs).1; have := hrv.1; omega)
          obtain ⟨ax, cx, rfl, hax, _⟩ := hrv.2 rn v xs hv hxs
          obtain ⟨bv, ov, rfl⟩ := hvs.addr (List.ne_nil_of_length_pos (by have := (List.getElem?_eq_some_iff.1 hv).1; omega))
          obtain ⟨bx, ox, rfl⟩ := hax.addr (by simpa using List.ne_nil_of_length_pos (by omega))
          have hst : serOf rn fr tt (l.take (k + 1)) = serOf rn fr tt (l.take k) ++ if inF fr tt ⟨xst, some ⟨bv, ov, none⟩, xc, xss⟩ then xs else [] := by
            rw [take_get hx, serOf_snoc, List.getD_eq_getElem?_getD, hxs]; rfl
          have hct : cntOf fr tt (l.take (k + 1)) = cntOf fr tt (l.take k) + if inF fr tt ⟨xst, some ⟨bv, ov, none⟩, xc, xss⟩ then 1 else 0 := by rw [take_get hx, cntOf_snoc]
          have hsl := HSER.out k hk1
          have HST := Lib.hid hst; have HCT := Lib.hid hct; have HO := Lib.hid hown
          have hz := hbr.size
          have hba := hbr.alloc hz (.cells #[.int .i64 xst, .slice (some ⟨bv, ov, none⟩) xss.length xc] 43)
          by_cases hin : fr ≤ xst ∧ xst < tt
          · have hi0 : inF fr tt ⟨xst, some ⟨bv, ov, none⟩, xc, xss⟩ = true := by simp [inF, hin.1, hin.2]
            obtain ⟨hi1, hi2⟩ := hin
            rw [hi0] at HST HCT
            have e1 := cell_keep (hvs.at hv) hba (Nat.le_refl _)
            have HAX := Lib.hid (hax.below hba (Nat.le_refl _))
            have hkx : rn < xss.length := (List.getElem?_eq_some_iff.1 hxs).1
            have hbx := Blk.new wr 43 #[.int .i64 xst, .slice (some ⟨bv, ov, none⟩) xss.length xc]
            clear hst hct hown hxs hx hv hvs hrv hax hi0
            have hcts : Below w2.heap.size w2 wr := hbr
            clear hbx
            go_wp2_with (at_builtin; refine wpList_append_lies _ rfl _ _ _ rfl w2.heap.size 3 i0 (.int .i64 0) 1 8 Tryz.underlying22 hi hz0 hz1 hz2 rfl (by decide) _ _ _ rfl (HO.out.alloc _) ⟨bx, ox, none⟩ xs.length cx (xs.map (Value.int .i64)) rfl (by simp) (fun j u hu => by rw [Addr.add_lit]; exact HAX.out.at hu) (by intro u hu; obtain ⟨d, _, rfl⟩ := List.mem_map.1 hu; rfl) (by omega) (by unfold maxLen; omega) (by omega) (by simp; omega) (wr.heap.size + 1) (by simp) ?_)
            intro gg cp wz hown1 hgrow hat hlt1
            have hfin : wz.ownsRow w2.heap.size 3 1 (.slice (some ⟨gg, 0, none⟩) ((serOf rn fr tt (l.take k)).length + xs.length) cp) (serOf rn fr tt (l.take (k + 1))).length ((serOf rn fr tt (l.take (k + 1))).map (Value.int .i64)) := by
              rw [HST.out, if_pos trivial, List.length_append, List.map_append]; exact hown1
            have hbz := hba.grown hgrow (by simp; omega) (fun j e => (HO.out.lt j e).1)
            have HFIN := Lib.hid hfin
            clear hown1 hgrow hat hlt1 hfin
            go_wp2
            go_roundw
            case rel => exact ⟨k + 1, by omega, by go_num, by rw [HCT.out, if_pos trivial]; go_num, HFIN.out, hbz⟩
            case measure => simp [intOf]; omega
          · have hi0 : inF fr tt ⟨xst, some ⟨bv, ov, none⟩, xc, xss⟩ = false := by
              simp only [inF, Bool.and_eq_false_iff, decide_eq_false_iff_not]; omega
            rw [hi0] at HST HCT
            have hfin : (wr.alloc (.cells #[.int .i64 xst, .slice (some ⟨bv, ov, none⟩) xss.length xc] 43)).ownsRow w2.heap.size 3 1 u14 (serOf rn fr tt (l.take (k + 1))).length ((serOf rn fr tt (l.take (k + 1))).map (Value.int .i64)) := by
              rw [HST.out, if_neg (by simp), List.append_nil]; exact HO.out.alloc _
            have HFIN := Lib.hid hfin
            have hct2 : cntOf fr tt (l.take (k + 1)) = cntOf fr tt (l.take k) := by rw [HCT.out]; simp
            have HCT2 := Lib.hid hct2
            clear hst hct hown hxs hx hv hvs hrv hax hi0 hfin hct2
            have hjj : xst < fr ∨ (fr ≤ xst ∧ tt ≤ xst) := by omega
            clear hin
            rcases hjj with h | ⟨h, h'⟩
            all_goals
              go_wp2
              go_roundw
              case rel => exact ⟨k + 1, by omega, by go_num, by rw [HCT2.out], HFIN.out, hba⟩
              case measure => simp [intOf]; omega
        · obtain rfl : k = l.length := by omega
          rw [List.take_length] at hown hcl ⊢
          have HO := Lib.hid hown
          have hbf := hf2.trans (hbr.mono hf2.size)
          have hsz2 := hf2.size
          by_cases hcc : (cntOf fr tt l : Int) = tt - fr
          · have he0 : ee = 0 := by rw [HE.out, if_neg (by omega)]
            have hr0 : rr = serOf rn fr tt l := by rw [HRR.out, if_pos he0]
            have HE0 := Lib.hid he0; have HR0 := Lib.hid hr0
            have hneq : ((cntOf fr tt l : Int) != tt - fr) = false := by simpa using hcc
            clear hown he0 hr0 hcc
            go_wp2
            go_ret2
            exact ⟨⟨_, by rw [HE0.out]; rfl, by rw [HR0.out]; exact own_base HO.out hsz2⟩, hbf⟩
          · have he0 : ee = 4 := by rw [HE.out, if_pos hcc]
            have hr0 : rr = [] := by rw [HRR.out, if_neg (by rw [he0]; decide)]
            have HE0 := Lib.hid he0; have HR0 := Lib.hid hr0
            have hneq : ((cntOf fr tt l : Int) != tt - fr) = true := by simpa using hcc
            clear hown he0 hr0
            go_wp2
            go_ret2
            exact ⟨⟨_, by rw [HE0.out]; rfl, by rw [HR0.out]; exact World.ownsRow_nil _ _ _ _⟩, hbf⟩
  · have he : serE bs l name fr tt = btwErr bs l fr tt := by rw [serE, if_pos h1]
    have hres : serR bs l name fr tt = [] := by rw [serR, he, if_neg h1]
    have h3 : (btwErr bs l fr tt != 0) = true := by simpa using h1
    have h4 : (btwErr bs l fr tt == 0) = false := by simpa using h1
    have HE := Lib.hid he; have HS := Lib.hid hres
    clear he hres
    go_enter Tryz.func37, Tryz.ntmps37
    go_wp2_with fail
    refine HCK.out.mono ?_
    rintro e w1 ⟨rfl, hb1⟩
    have hf := hb0.trans (hb1.mono hb0.size)
    go_wp2
    go_ret2
    exact ⟨⟨_, by rw [HE.out]; rfl, by rw [HS.out]; exact World.ownsRow_nil _ _ _ _⟩, hf⟩
end Go.Proofs.YtoochleabcjljaaGreatDoor

/- The chapter's CheckFrame and Encode; Pack. -/
namespace Go.Proofs.YtoochleabcjljaaGreatDoor
open Go.RowKit

set_option maxRecDepth 100000 in
theorem refCheckFrame_any (ao : Option Addr) (bs : List Chan) (cap : Nat) (st : Int) (asm : Option Addr) (vs : List Value) (xss : List (List Int)) (cs : Nat) (w : World) (hb : BookIn w ao bs cap) (hs : Cells w asm vs) (hr : RowsV w vs xss) (hls : xss.length ≤ 9223372036854775807) :
    Calls Tryz.prog 27 #[.slice ao bs.length cap, .agg #[.int .i64 st, .slice asm xss.length cs]] w fun e w' => e = .returned (.int .i64 (frmErr bs st xss)) ∧ Below w.heap.size w w' := by
  have HB := Lib.hid hb; have HS := Lib.hid hs; have HR := Lib.hid hr
  have hlen := hb.len
  clear hs hr hb
  have hck := fun wx (h : BookIn wx ao bs cap) => refCheckBook_any ao bs cap wx h.in0
  have HCK := Lib.hid hck; clear hck
  by_cases h1 : bookErr bs = 0
  · have hok := bookErr_zero h1
    have hfr := fun wx h2 h3 h4 => refFrame_any ao bs cap st asm vs xss cs wx h2 hlen h3 h4 hls hok
    have HFR := Lib.hid hfr; clear hfr hok
    have he : frmErr bs st xss = if frOK bs st xss then 0 else 51 := by simp [frmErr, h1]
    have HE := Lib.hid he; have H1 := Lib.hid h1; clear he h1
    cases h2 : frOK bs st xss
    all_goals
      have H2 := Lib.hid h2
      go_enter Tryz.func27, Tryz.ntmps27
      go_wp2_with fail
      refine (HCK.out _ (HB.out.below ((Below.refl _ _).alloc (Nat.le_refl _) _) (Nat.le_refl _))).mono ?_
      rintro e w1 ⟨rfl, hb1⟩
      rw [H1.out]
      have hbw : Below w.heap.size w w1 := ((Below.refl _ _).alloc (Nat.le_refl _) _).trans (hb1.mono (by simp))
      have q0 : w1.cell? ⟨w.heap.size, 0, none⟩ = some (.int .i64 st) := box_keep hb1 (by simp) 0
      have q1 : w1.cell? ⟨w.heap.size, 1, none⟩ = some (.slice asm xss.length cs) := box_keep hb1 (by simp) 1
      go_wp2_with fail
      refine (HFR.out _ (HB.out.below hbw (Nat.le_refl _)).cells (HS.out.below hbw (Nat.le_refl _)) (HR.out.below hbw (Nat.le_refl _))).mono ?_
      rintro e w2 ⟨rfl, hb2⟩
      go_wp2
      go_ret
      exact ⟨ret_int (by rw [HE.out, H2.out]; rfl), hbw.trans (hb2.mono hbw.size)⟩
  · have he : frmErr bs st xss = bookErr bs := by simp [frmErr, h1]
    have h3 : (bookErr bs != 0) = true := by simpa using h1
    have h4 : (bookErr bs == 0) = false := by simpa using h1
    have HE := Lib.hid he; clear he
    go_enter Tryz.func27, Tryz.ntmps27
    go_wp2_with fail
    refine (HCK.out _ (HB.out.below ((Below.refl _ _).alloc (Nat.le_refl _) _) (Nat.le_refl _))).mono ?_
    rintro e w1 ⟨rfl, hb1⟩
    go_wp2
    go_ret
    exact ⟨ret_int HE.out.symm, ((Below.refl _ _).alloc (Nat.le_refl _) _).trans (hb1.mono (by simp))⟩

set_option maxRecDepth 100000 in
theorem refEncode_any (ao : Option Addr) (bs : List Chan) (cap : Nat) (st : Int) (asm : Option Addr) (vs : List Value) (xss : List (List Int)) (cs : Nat) (w : World) (hb : BookIn w ao bs cap) (hs : Cells w asm vs) (hr : RowsV w vs xss) (hls : xss.length ≤ 9223372036854775807) :
    Calls Tryz.prog 31 #[.slice ao bs.length cap, .agg #[.int .i64 st, .slice asm xss.length cs]] w fun e w' => (∃ v, e = .returned (.tuple #[v, .int .i64 (frmErr bs st xss)]) ∧ w'.ownsRow w.heap.size 5 1 v (encRes bs st xss).length (bys (encRes bs st xss))) ∧ Below w.heap.size w w' := by
  have HB := Lib.hid hb; have HS := Lib.hid hs; have HR := Lib.hid hr
  have hlen := hb.len
  clear hs hr hb
  have hck := fun wx h1 h2 h3 => refCheckFrame_any ao bs cap st asm vs xss cs wx h1 h2 h3 hls
  have HCK := Lib.hid hck; clear hck
  by_cases h1 : frmErr bs st xss = 0
  · have he : encRes bs st xss = encB st xss := by rw [encRes, if_pos h1]
    obtain ⟨_, z1, z2, z3, z4, z5, z6⟩ := frmErr_zero h1
    have hen := fun wx h1 h2 => refCode_any st asm vs xss cs wx h1 h2 (by omega) z3 z4 z5 z6
    rw [z2] at HCK hen ⊢
    have HEN := Lib.hid hen; have HE := Lib.hid he; have H1 := Lib.hid h1
    clear hen he h1 z1 z2 z3 z4 z5 z6 hls
    go_enter Tryz.func31, Tryz.ntmps31
    go_wp2_with fail
    have hb0 := (Below.refl w.heap.size w).alloc (Nat.le_refl _) (.cells #[.int .i64 st, .slice asm bs.length cs] 43)
    refine (HCK.out _ (HB.out.below hb0 (Nat.le_refl _)) (HS.out.below hb0 (Nat.le_refl _)) (HR.out.below hb0 (Nat.le_refl _))).mono ?_
    rintro e w1 ⟨rfl, hb1⟩
    rw [H1.out]
    have q0 : w1.cell? ⟨w.heap.size, 0, none⟩ = some (.int .i64 st) := box_keep hb1 (by simp) 0
    have q1 : w1.cell? ⟨w.heap.size, 1, none⟩ = some (.slice asm bs.length cs) := box_keep hb1 (by simp) 1
    have hbw := hb0.trans (hb1.mono (by simp))
    go_wp2_with fail
    refine (HEN.out _ (HS.out.below hbw (Nat.le_refl _)) (HR.out.below hbw (Nat.le_refl _))).mono ?_
    rintro e w2 ⟨⟨v, rfl, hown⟩, hb2⟩
    have HO := Lib.hid (own_base hown hbw.size)
    have hfin := hbw.trans (hb2.mono hbw.size)
    clear hown hb0 hb1 hbw hb2
    go_wp2
    go_ret2
    exact ⟨⟨v, by rw [H1.out]; rfl, by rw [HE.out]; exact HO.out⟩, hfin⟩
  · have he : encRes bs st xss = [] := by rw [encRes, if_neg h1]
    have h3 : (frmErr bs st xss != 0) = true := by simpa using h1
    have h4 : (frmErr bs st xss == 0) = false := by simpa using h1
    have HE := Lib.hid he; clear he
    go_enter Tryz.func31, Tryz.ntmps31
    go_wp2_with fail
    have hb0 := (Below.refl w.heap.size w).alloc (Nat.le_refl _) (.cells #[.int .i64 st, .slice asm xss.length cs] 43)
    refine (HCK.out _ (HB.out.below hb0 (Nat.le_refl _)) (HS.out.below hb0 (Nat.le_refl _)) (HR.out.below hb0 (Nat.le_refl _))).mono ?_
    rintro e w1 ⟨rfl, hb1⟩
    have hbw := hb0.trans (hb1.mono (by simp))
    go_wp2
    go_ret2
    exact ⟨⟨_, rfl, by rw [HE.out]; exact World.ownsRow_nil _ _ _ _⟩, hbw⟩

/-- the codes of the first frames; of a record -/
def packTo (l : List Frm) (k : Nat) : List Nat := (l.take k).flatMap fun f => encB f.st f.xss
def packRes (bs : List Chan) (l : List Frm) : List Nat := if recErr bs l = 0 then l.flatMap fun f => encB f.st f.xss else []
theorem packTo_succ {l : List Frm} {k : Nat} {f : Frm} (h : l[k]? = some f) : packTo l (k + 1) = packTo l k ++ encB f.st f.xss := by
  rw [packTo, take_get h, List.flatMap_append]; simp [packTo]
theorem encB_length (st : Int) (xss : List (List Int)) (hl : xss.length ≤ 16) (hxl : ∀ xs ∈ xss, xs.length ≤ 64) : (encB st xss).length ≤ 6800 := by
  have hfl := flat_encC xss 64 hxl
  have h1 : (octs (frBits st xss)).length ≤ 6700 := by
    rw [octs_len, frBits, List.length_append, binL_length]; omega
  have h24 : ∀ n : Int, (octs (binL n 24)).length = 3 := fun n => by rw [octs_len, binL_length]
  have h16 : ∀ n : Int, (octs (binL n 16)).length = 2 := fun n => by rw [octs_len, binL_length]
  rw [encB, List.length_append, h24, hdB, List.length_append, List.length_append, h16]
  simp only [List.length_cons, List.length_nil]; omega
theorem packTo_le {bs : List Chan} (l : List Frm) (k : Nat) (h : ∀ f ∈ l, frmErr bs f.st f.xss = 0) : (packTo l k).length ≤ 6800 * k := by
  induction k with
  | zero => simp [packTo]
  | succ k ih =>
    by_cases hk : k < l.length
    · obtain ⟨f, hf⟩ := get_of_lt hk
      obtain ⟨_, z1, z2, _, _, z5, _⟩ := frmErr_zero (h f (List.mem_of_getElem? hf))
      have := encB_length f.st f.xss (by omega) z5
      rw [packTo_succ hf, List.length_append]; omega
    · have : packTo l (k + 1) = packTo l k := by rw [packTo, packTo, List.take_of_length_le (by omega), List.take_of_length_le (by omega)]
      rw [this]; omega

set_option maxRecDepth 100000 in
set_option maxHeartbeats 1000000 in
theorem pack_any (ao : Option Addr) (bs : List Chan) (cap : Nat) (al : Option Addr) (l : List Frm) (cl : Nat) (w : World) (hb : BookIn w ao bs cap) (hr : RecIn w al l) :
    Calls Tryz.prog 32 #[.slice ao bs.length cap, .slice al l.length cl] w fun e w' => (∃ v, e = .returned (.tuple #[v, .int .i64 (recErr bs l)]) ∧ w'.ownsRow w.heap.size 5 1 v (packRes bs l).length (bys (packRes bs l))) ∧ Below w.heap.size w w' := by
  have hck := checkRecord_any ao bs cap al l cl w hb hr
  have HCK := Lib.hid hck; have HR := Lib.hid hr; have HB := Lib.hid hb
  have hlen := hr.len
  clear hck hr hb
  by_cases h1 : recErr bs l = 0
  · have he : packRes bs l = packTo l l.length := by rw [packRes, if_pos h1, packTo, List.take_length]
    obtain ⟨y5, y4, y6, _⟩ := recErr_zero h1
    have hfz : ∀ f ∈ l, frmErr bs f.st f.xss = 0 := fun f hf => by rw [frmErr, if_neg (by simpa using y5), if_pos (y6 f hf)]
    have HE := Lib.hid he; have H1 := Lib.hid h1; have HFZ := Lib.hid hfz
    have HPL := Lib.hid (fun k => packTo_le l k hfz)
    obtain ⟨i0, hi, hz0, hz1, hz2⟩ := info_parts Tryz.infoByte
    clear he h1 y5 y6 hfz
    go_enter Tryz.func32, Tryz.ntmps32
    go_wp2_with fail
    refine HCK.out.mono ?_
    rintro e w1 ⟨rfl, hb1⟩
    rw [H1.out]
    have HR1 := Lib.hid (HR.out.below hb1 (Nat.le_refl _))
    have hw1 := hb1.size
    have hrf := Below.refl w1.heap.size w1
    go_wp2_with fail
    go_loopw [7, 18] (fun v i wr => ∃ k : Nat, k ≤ l.length ∧ i = .int .i64 k ∧ wr.ownsRow w1.heap.size 5 1 v (packTo l k).length (bys (packTo l k)) ∧ Below w1.heap.size w1 wr) (fun _ i _ => l.length - (intOf i).toNat)
    case atStart => exact ⟨0, Nat.zero_le _, rfl, World.ownsRow_nil _ _ _ _, hrf⟩
    case round =>
      clear hrf
      obtain ⟨k, hk, rfl, hown, hbr⟩ := hrel
      have HO := Lib.hid hown; clear hown
      have hz := hbr.size
      have hpl := HPL.out k
      by_cases hlt : k < l.length
      · obtain ⟨⟨xst, xa, xc, xss⟩, hx⟩ := get_of_lt hlt
        have hmem := List.mem_of_getElem? hx
        have hst := packTo_succ hx
        obtain ⟨_, z1, z2, z3, z4, z5, z6⟩ := frmErr_zero (HFZ.out _ hmem)
        simp only at z1 z2 z3 z4 z5 z6 hst
        have hel := encB_length xst xss (by omega) z5
        obtain ⟨bl, ol, rfl⟩ := HR1.out.cells.addr (frs_ne (by omega))
        have d0 := cell_keep (HR1.out.cells.at (frs_get hx).1) hbr (Nat.le_refl _)
        have d1 := cell_keep (HR1.out.cells.at (frs_get hx).2) hbr (Nat.le_refl _)
        rw [← Nat.add_assoc] at d1
        obtain ⟨_, vs, hvs, hrv⟩ := HR1.out.rows _ hmem
        simp only at d0 d1 hvs hrv
        rw [z2] at d1
        have hen := fun wx h1 h2 => encode_any ao bs.length cap xst xa vs xss xc wx z1 z2 h1 h2 z3 z4 z5 z6
        skip
        have HEN := Lib.hid hen; have HST := Lib.hid hst
        have hba : Below w1.heap.size w1 (wr.alloc (.cells #[.int .i64 xst, .slice xa bs.length xc] 43)) := hbr.alloc hz _
        have HVS := Lib.hid (hvs.below hba (Nat.le_refl _)); have HRV := Lib.hid (hrv.below hba (Nat.le_refl _))
        have HOA : Hid ((wr.alloc (.cells #[.int .i64 xst, .slice xa bs.length xc] 43)).ownsRow w1.heap.size 5 1 u7 (packTo l k).length (bys (packTo l k))) := Lib.hid (HO.out.alloc _)
        have hza := hba.size
        have i1 : (k : Int) < l.length := by omega
        have i2 : (0 : Int) ≤ k := by omega
        clear hen hst hvs hrv hx hmem z1 z2 z3 z4 z5 z6
        go_wp2_with fail
        refine (HEN.out _ HVS.out HRV.out).mono ?_
        rintro e w2 ⟨⟨v2, rfl, ho2⟩, hb2⟩
        have HO2 := Lib.hid ho2
        have HOL := Lib.hid (own_below HOA.out hb2 (Nat.le_refl _))
        have hbb := hba.trans (hb2.mono hza)
        have hzz := hbb.size
        clear ho2 hb2
        go_wp2_with (at_builtin; refine wpList_append_two rfl _ _ 48 rfl w1.heap.size 5 i0 (.int .u8 0) 1 1 Tryz.underlying48 hi hz0 hz1 hz2 rfl (by decide) _ _ _ rfl HOL.out _ _ _ _ rfl HO2.out (bys_one _) (by unfold maxLen; omega) (by omega) (by omega) ?_; intro v3 wz hown3 hgrow _)
        have hbz := hbb.grown hgrow (by omega) (fun j e => (HOL.out.lt j e).1)
        have hfin : wz.ownsRow w1.heap.size 5 1 v3 (packTo l (k + 1)).length (bys (packTo l (k + 1))) := by
          rw [HST.out, List.length_append, bys_append]; exact hown3
        have HF := Lib.hid hfin
        clear hown3 hgrow hfin
        go_wp2
        go_roundw
        case rel => exact ⟨k + 1, by omega, by go_num, HF.out, hbz⟩
        case measure => simp [intOf]; omega
      · obtain rfl : k = l.length := by omega
        have hbf := hb1.trans (hbr.mono hw1)
        go_wp2
        go_ret2
        exact ⟨⟨_, by rw [H1.out]; rfl, by rw [HE.out]; exact own_base HO.out hw1⟩, hbf⟩
  · have he : packRes bs l = [] := by rw [packRes, if_neg h1]
    have h3 : (recErr bs l != 0) = true := by simpa using h1
    have h4 : (recErr bs l == 0) = false := by simpa using h1
    have HE := Lib.hid he; clear he
    go_enter Tryz.func32, Tryz.ntmps32
    go_wp2_with fail
    refine HCK.out.mono ?_
    rintro e w1 ⟨rfl, hb1⟩
    go_wp2
    go_ret2
    exact ⟨⟨_, rfl, by rw [HE.out]; exact World.ownsRow_nil _ _ _ _⟩, hb1⟩

set_option maxRecDepth 100000 in
set_option maxHeartbeats 1000000 in
theorem refPack_any (ao : Option Addr) (bs : List Chan) (cap : Nat) (al : Option Addr) (l : List Frm) (cl : Nat) (w : World) (hb : BookIn w ao bs cap) (hr : RecIn w al l) :
    Calls Tryz.prog 33 #[.slice ao bs.length cap, .slice al l.length cl] w fun e w' => (∃ v, e = .returned (.tuple #[v, .int .i64 (recErr bs l)]) ∧ w'.ownsRow w.heap.size 5 1 v (packRes bs l).length (bys (packRes bs l))) ∧ Below w.heap.size w w' := by
  have hck := refCheckRecord_any ao bs cap al l cl w hb hr
  have HCK := Lib.hid hck; have HR := Lib.hid hr; have HB := Lib.hid hb
  have hlen := hr.len
  clear hck hr hb
  by_cases h1 : recErr bs l = 0
  · have he : packRes bs l = packTo l l.length := by rw [packRes, if_pos h1, packTo, List.take_length]
    obtain ⟨y5, y4, y6, _⟩ := recErr_zero h1
    have hfz : ∀ f ∈ l, frmErr bs f.st f.xss = 0 := fun f hf => by rw [frmErr, if_neg (by simpa using y5), if_pos (y6 f hf)]
    have HE := Lib.hid he; have H1 := Lib.hid h1; have HFZ := Lib.hid hfz
    have HPL := Lib.hid (fun k => packTo_le l k hfz)
    obtain ⟨i0, hi, hz0, hz1, hz2⟩ := info_parts Tryz.infoByte
    clear he h1 y5 y6 hfz
    go_enter Tryz.func33, Tryz.ntmps33
    go_wp2_with fail
    refine HCK.out.mono ?_
    rintro e w1 ⟨rfl, hb1⟩
    rw [H1.out]
    have HR1 := Lib.hid (HR.out.below hb1 (Nat.le_refl _))
    have hw1 := hb1.size
    have hrf := Below.refl w1.heap.size w1
    go_wp2_with fail
    go_loopw [7, 8] (fun v i wr => ∃ k : Nat, k ≤ l.length ∧ i = .int .i64 k ∧ wr.ownsRow w1.heap.size 5 1 v (packTo l k).length (bys (packTo l k)) ∧ Below w1.heap.size w1 wr) (fun _ i _ => l.length - (intOf i).toNat)
    case atStart => exact ⟨0, Nat.zero_le _, rfl, World.ownsRow_nil _ _ _ _, hrf⟩
    case round =>
      clear hrf
      obtain ⟨k, hk, rfl, hown, hbr⟩ := hrel
      have HO := Lib.hid hown; clear hown
      have hz := hbr.size
      have hpl := HPL.out k
      by_cases hlt : k < l.length
      · obtain ⟨⟨xst, xa, xc, xss⟩, hx⟩ := get_of_lt hlt
        have hmem := List.mem_of_getElem? hx
        have hst := packTo_succ hx
        obtain ⟨_, z1, z2, z3, z4, z5, z6⟩ := frmErr_zero (HFZ.out _ hmem)
        simp only at z1 z2 z3 z4 z5 z6 hst
        have hel := encB_length xst xss (by omega) z5
        obtain ⟨bl, ol, rfl⟩ := HR1.out.cells.addr (frs_ne (by omega))
        have d0 := cell_keep (HR1.out.cells.at (frs_get hx).1) hbr (Nat.le_refl _)
        have d1 := cell_keep (HR1.out.cells.at (frs_get hx).2) hbr (Nat.le_refl _)
        rw [← Nat.add_assoc] at d1
        obtain ⟨_, vs, hvs, hrv⟩ := HR1.out.rows _ hmem
        simp only at d0 d1 hvs hrv
        rw [z2] at d1
        have hen := fun wx h1 h2 => refCode_any xst xa vs xss xc wx h1 h2 (by omega) z3 z4 z5 z6
        rw [z2] at hen
        have HEN := Lib.hid hen; have HST := Lib.hid hst
        have hba : Below w1.heap.size w1 wr := hbr
        have HVS := Lib.hid (hvs.below hba (Nat.le_refl _)); have HRV := Lib.hid (hrv.below hba (Nat.le_refl _))
        have HOA : Hid (wr.ownsRow w1.heap.size 5 1 u7 (packTo l k).length (bys (packTo l k))) := HO
        have hza := hba.size
        have i1 : (k : Int) < l.length := by omega
        have i2 : (0 : Int) ≤ k := by omega
        clear hen hst hvs hrv hx hmem z1 z2 z3 z4 z5 z6
        go_wp2_with fail
        refine (HEN.out _ HVS.out HRV.out).mono ?_
        rintro e w2 ⟨⟨v2, rfl, ho2⟩, hb2⟩
        have HO2 := Lib.hid ho2
        have HOL := Lib.hid (own_below HOA.out hb2 (Nat.le_refl _))
        have hbb := hba.trans (hb2.mono hza)
        have hzz := hbb.size
        clear ho2 hb2
        go_wp2_with (at_builtin; refine wpList_append_two rfl _ _ 48 rfl w1.heap.size 5 i0 (.int .u8 0) 1 1 Tryz.underlying48 hi hz0 hz1 hz2 rfl (by decide) _ _ _ rfl HOL.out _ _ _ _ rfl HO2.out (bys_one _) (by unfold maxLen; omega) (by omega) (by omega) ?_; intro v3 wz hown3 hgrow _)
        have hbz := hbb.grown hgrow (by omega) (fun j e => (HOL.out.lt j e).1)
        have hfin : wz.ownsRow w1.heap.size 5 1 v3 (packTo l (k + 1)).length (bys (packTo l (k + 1))) := by
          rw [HST.out, List.length_append, bys_append]; exact hown3
        have HF := Lib.hid hfin
        clear hown3 hgrow hfin
        go_wp2
        go_roundw
        case rel => exact ⟨k + 1, by omega, by go_num, HF.out, hbz⟩
        case measure => simp [intOf]; omega
      · obtain rfl : k = l.length := by omega
        have hbf := hb1.trans (hbr.mono hw1)
        go_wp2
        go_ret2
        exact ⟨⟨_, by rw [H1.out]; rfl, by rw [HE.out]; exact own_base HO.out hw1⟩, hbf⟩
  · have he : packRes bs l = [] := by rw [packRes, if_neg h1]
    have h3 : (recErr bs l != 0) = true := by simpa using h1
    have h4 : (recErr bs l == 0) = false := by simpa using h1
    have HE := Lib.hid he; clear he
    go_enter Tryz.func33, Tryz.ntmps33
    go_wp2_with fail
    refine HCK.out.mono ?_
    rintro e w1 ⟨rfl, hb1⟩
    go_wp2
    go_ret2
    exact ⟨⟨_, rfl, by rw [HE.out]; exact World.ownsRow_nil _ _ _ _⟩, hb1⟩
end Go.Proofs.YtoochleabcjljaaGreatDoor

/- RecordFrames: the walk. -/
namespace Go.Proofs.YtoochleabcjljaaGreatDoor
open Go.RowKit

theorem encB_lt (st : Int) (xss : List (List Int)) : ∀ d ∈ encB st xss, d < 256 := by
  intro d hd
  rw [encB] at hd
  rcases List.mem_append.1 hd with h | h
  · rw [hdB] at h
    rcases List.mem_append.1 h with h | h
    · rcases List.mem_append.1 h with h | h
      · simp at h; omega
      · exact (octs_ok _ (binL_bits _ _)).1 d h
    · exact (octs_ok _ (frBits_bits _ _)).1 d h
  · exact (octs_ok _ (binL_bits _ _)).1 d h
theorem encRes_lt (bs : List Chan) (st : Int) (xss : List (List Int)) : ∀ d ∈ encRes bs st xss, d < 256 := by
  intro d hd; unfold encRes at hd; split at hd
  · exact encB_lt _ _ d hd
  · simp at hd
theorem packRes_lt (bs : List Chan) (l : List Frm) : ∀ d ∈ packRes bs l, d < 256 := by
  intro d hd; unfold packRes at hd; split at hd
  · obtain ⟨f, _, hf⟩ := List.mem_flatMap.1 hd; exact encB_lt _ _ d hf
  · simp at hd
/-- bytes as a string -/
def bstr (l : List Nat) : ByteArray := ⟨(l.map UInt8.ofNat).toArray⟩
theorem conv_own {w : World} {b : Nat} {v : Value} {n : Nat} (l : List Nat) (h : w.ownsRow b 5 1 v n (bys l)) (hl : ∀ d ∈ l, d < 256) :
    (convert 48 9 v).run Tryz.prog w = .ok (.string (bstr l)) w := by
  obtain ⟨h0, h1⟩ := h
  rcases h1 with ⟨rfl, rfl⟩ | ⟨g, cap, cur, rfl, hb, hg, hn, hm, hs, ht⟩
  · have hnil : l = [] := by
      have : (bys l).length = 0 := by simpa using h0
      rw [bys_length] at this; exact List.length_eq_zero_iff.1 this
    subst hnil
    exact Lib.run_convert_nil_bytes w _ _ 5 0 Tryz.underlying48 Tryz.underlying5 Tryz.underlying9
  · have hn2 : n = (l.map UInt8.ofNat).length := by rw [List.length_map]; rw [bys_length] at h0; omega
    have hc : Cells w (some ⟨g, 0, none⟩) (bys l) := by
      obtain ⟨a, c, hv, hc⟩ := own_cells (w := w) (b := b) (e := 5) (s := 1) (v := .slice (some ⟨g, 0, none⟩) n cap) (n := n) (xs := bys l) ⟨h0, .inr ⟨g, cap, cur, rfl, hb, hg, hn, hm, hs, ht⟩⟩
      simp at hv; obtain ⟨rfl, rfl⟩ := hv; exact hc
    rw [hn2]
    exact run_convert_bytes_back w _ _ 5 ⟨g, 0, none⟩ cap (l.map UInt8.ofNat) Tryz.underlying48 Tryz.underlying5 Tryz.underlying9 (fun j hj => by
      rw [List.length_map] at hj
      have h2 := hl l[j] (List.getElem_mem _)
      have := hc.at (j := j) (u := .int .u8 (l[j] : Nat)) (by simp [bys, hj])
      rw [Addr.add_lit, this, List.getElem_map]
      congr 2
      simp [Nat.mod_eq_of_lt h2])

/-- the first frame, or none -/
def fstF (l : List Frm) : Frm := l.headD ⟨0, none, 0, []⟩
theorem fstF_in {w : World} {al : Option Addr} {l : List Frm} (h : RecIn w al l) : FrmIn w (fstF l) := by
  cases l with
  | nil => exact ⟨by decide, [], .inl rfl, rfl, by simp⟩
  | cons x r => exact h.rows x (by simp)

set_option maxRecDepth 100000 in
theorem first_any (ao : Option Addr) (nb : Nat) (cap : Nat) (al : Option Addr) (l : List Frm) (cl : Nat) (w : World) (hr : RecIn w al l) :
    Calls Tryz.prog 23 #[.agg #[.slice ao nb cap, .slice al l.length cl]] w fun e w' => e = .returned (.agg #[.int .i64 (fstF l).st, .slice (fstF l).a (fstF l).xss.length (fstF l).c]) ∧ Below w.heap.size w w' := by
  cases l with
  | nil =>
    go_enter Tryz.func23, Tryz.ntmps23
    go_wp2
    refine bodyPost_ret (v := .agg #[.int .i64 0, .slice none 0 0]) (by simp [results, Tryz.results23, go_sem]) rfl ⟨rfl, ?_⟩
    repeat (first | exact Below.refl _ _ | refine Below.setCell ?_ (by simp) _ | refine Below.alloc ?_ (by simp) _)
  | cons x r =>
    obtain ⟨bl, ol, rfl⟩ := hr.cells.addr (frs_ne (by simp))
    have d0 := hr.cells.at (frs_get (l := x :: r) (i := 0) rfl).1
    have d1 := hr.cells.at (frs_get (l := x :: r) (i := 0) rfl).2
    have hlen := hr.len
    obtain ⟨xst, xa, xc, xss⟩ := x
    simp only [Nat.zero_mul, Nat.add_zero, Nat.zero_add] at d0 d1
    have hb2 := two_below w (.cells #[.slice ao nb cap, .slice (some ⟨bl, ol, none⟩) (r.length + 1) cl] 40) (.cells #[.int .i64 0, .slice none 0 0] 43)
    have e0 := cell_keep d0 hb2 (Nat.le_refl _)
    have e1 := cell_keep d1 hb2 (Nat.le_refl _)
    rw [List.length_cons] at *
    clear hr d0 d1
    go_enter Tryz.func23, Tryz.ntmps23
    go_wp2
    refine bodyPost_ret (v := .agg #[.int .i64 xst, .slice xa xss.length xc]) (by simp [results, Tryz.results23, go_sem]) rfl ⟨rfl, ?_⟩
    repeat (first | exact Below.refl _ _ | refine Below.setCell ?_ (by simp) _ | refine Below.alloc ?_ (by simp) _)
end Go.Proofs.YtoochleabcjljaaGreatDoor
