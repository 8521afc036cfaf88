/- Parts of a proof, in build order: S1, A1, C3, C4, R0, E9, F0. -/
import Derived.Test.YtoochleabcjljaaGreatDoorKs1

/- The chapter's own CheckBook. -/
namespace Go.Proofs.YtoochleabcjljaaGreatDoor
open Go.RowKit

/-- what is asked of a book here -/
structure BookIn0 (w : World) (ao : Option Addr) (bs : List Chan) : Prop where
  cells : Cells w ao (chs bs)
  len : bs.length ≤ 9223372036854775807
  names : ∀ c ∈ bs, c.name.size ≤ 9223372036854775807
theorem pow2_mem (r : Int) : (r ∈ [(1 : Int), 2, 4, 8, 16, 32, 64]) ↔ pow2B r = true := by
  simp [pow2B]
theorem chanOK_ref (c : Chan) : chanOK c = (nameOK c.name && (inB 2 c.bits 24 && pow2B c.rate)) := by
  unfold chanOK
  cases h : pow2B c.rate
  · simp
  · have : inB 1 c.rate 64 = true := by
      simp only [pow2B, decide_eq_true_eq] at h
      simp only [inB, Bool.and_eq_true, decide_eq_true_eq]
      omega
    rw [this]; cases nameOK c.name <;> cases inB 2 c.bits 24 <;> rfl
theorem new_lit (w : World) : Cells (w.alloc (.cells #[.int .i64 1, .int .i64 2, .int .i64 4, .int .i64 8, .int .i64 16, .int .i64 32, .int .i64 64] 3)) (some ⟨w.heap.size, 0, none⟩) ([1, 2, 4, 8, 16, 32, 64].map (Value.int .i64)) :=
  .inr ⟨_, _, rfl, fun j u hu => by rw [Nat.zero_add]; simpa using hu⟩
theorem dupB_succ {bs : List Chan} {m : Nat} {x c : Chan} (h : bs[m]? = some x) : dupB (bs.take (m + 1)) c = (dupB (bs.take m) c || sameName x.name c.name) := by
  simp [dupB, take_get h]

set_option maxRecDepth 100000 in
set_option maxHeartbeats 2000000 in
theorem refCheckBook_any (ao : Option Addr) (bs : List Chan) (cap : Nat) (w : World) (hb : BookIn0 w ao bs) :
    Calls Tryz.prog 25 #[.slice ao bs.length cap] w fun e w' => e = .returned (.int .i64 (bookErr bs)) ∧ Below w.heap.size w w' := by
  have HC := Lib.hid hb.cells; have HN := Lib.hid hb.names
  have hl := hb.len
  clear hb
  go_enter Tryz.func25, Tryz.ntmps25
  go_wp2_with (go_at_call 54; refine (in_any _ _ _ _).mono ?_; rintro e w' ⟨rfl, rfl⟩)
  go_loopw [3, 4] (fun o i wr => ∃ k : Nat, k ≤ bs.length ∧ i = .int .i64 k ∧ o = .bool (inB 1 bs.length 16 && bookTo bs k) ∧ Below w.heap.size w wr) (fun _ i _ => bs.length - (intOf i).toNat)
  case atStart => exact ⟨0, Nat.zero_le _, rfl, by simp [bookTo], Below.refl _ _⟩
  case round =>
    obtain ⟨k, hk, rfl, rfl, hbr⟩ := hrel
    by_cases hlt : k < bs.length
    · obtain ⟨c, hx⟩ := get_of_lt hlt
      obtain ⟨b, off, rfl⟩ := HC.out.addr (chs_ne (by omega))
      obtain ⟨g0, g1, g2⟩ := chs_get hx
      have c0 := cell_keep (HC.out.at g0) hbr (Nat.le_refl _)
      have c1 := cell_keep (HC.out.at g1) hbr (Nat.le_refl _)
      have c2 := cell_keep (HC.out.at g2) hbr (Nat.le_refl _)
      rw [← Nat.add_assoc] at c1 c2
      have hns := HN.out c (List.mem_of_getElem? hx)
      have hst := bookTo_succ hx
      have HST := Lib.hid hst
      have hz := hbr.size
      have hba := hbr.alloc hz (.cells #[.string c.name, .int .i64 c.rate, .int .i64 c.bits] 106)
      have hbx := Blk.new wr 106 #[.string c.name, .int .i64 c.rate, .int .i64 c.bits]
      have HBX := Lib.hid hbx; have HBA := Lib.hid hba
      have hck := chanOK_ref c
      have HCK := Lib.hid hck
      have HOB : Hid ((inB 1 bs.length 16 && bookTo bs (k + 1)) = ((inB 1 bs.length 16 && bookTo bs k) && (chanOK c && !dupB (bs.take k) c))) := Lib.hid (by rw [HST.out, Bool.and_assoc])
      clear g0 g1 g2 hst hba hbx hck hx
      generalize hB : (inB 1 bs.length 16 && bookTo bs k) = B at *
      clear hB
      cases B
      · have HV : Hid ((false && chanOK c) = false) := Lib.hid rfl
        have HX6 := HBX; have HL6 := HBA
        go_wp2_with fail
        go_loopw [3, 6] (fun o j wi => ∃ m : Nat, m ≤ k ∧ j = .int .i64 m ∧ o = .bool ((false && chanOK c) && !dupB (bs.take m) c) ∧ Blk wi wr.heap.size 106 #[.string c.name, .int .i64 c.rate, .int .i64 c.bits] ∧ Below w.heap.size w wi) (fun _ j _ => k - (intOf j).toNat)
        case atStart => exact ⟨0, Nat.zero_le _, rfl, by first | (rw [HV.out]; simp [dupB]; done) | (rw [HV.out]; simp [dupB]; omega), HX6.out, HL6.out⟩
        case round =>
          clear HX6 HL6
          obtain ⟨m, hm, rfl, rfl, hbx, hbi⟩ := hrel
          by_cases hlt2 : m < k
          · obtain ⟨x, hxm⟩ := get_of_lt (show m < bs.length by omega)
            have e0 := cell_keep (HC.out.at (chs_get hxm).1) hbi (Nat.le_refl _)
            have e1 := hbx.c0
            have hds := dupB_succ (c := c) hxm
            have hnv : ((false && chanOK c) && !dupB (bs.take (m + 1)) c) = (((false && chanOK c) && !dupB (bs.take m) c) && !sameName x.name c.name) := by rw [hds]; cases chanOK c <;> simp
            have HNV := Lib.hid hnv; have HBX2 := Lib.hid hbx
            clear hds hnv hxm hbx
            generalize hq : ((false && chanOK c) && !dupB (bs.take m) c) = q at *
            clear hq HV
            have i1 : (m : Int) < bs.length := by omega
            have i2 : (0 : Int) ≤ m := by omega
            cases q
            · go_wp2_with fail
              go_quiet (fail)
              go_wp2
              go_roundw
              case rel => exact ⟨m + 1, by omega, by go_num, by rw [HNV.out]; rfl, HBX2.out, bel_drewN hbi _⟩
              case measure => simp [intOf]; omega
            · cases hs : sameName x.name c.name
              · have s1 : (x.name.toList == c.name.toList) = false := hs
                have s2 : (x.name.toList != c.name.toList) = true := by rw [bne, s1]; rfl
                have HNV2 := Lib.hid (HNV.out.trans (by rw [hs]; rfl) : ((false && chanOK c) && !dupB (bs.take (m + 1)) c) = true)
                clear HNV hs
                go_wp2_with fail
                go_quiet (fail)
                go_wp2
                go_roundw
                case rel => exact ⟨m + 1, by omega, by go_num, by rw [HNV2.out], HBX2.out, bel_drewN hbi _⟩
                case measure => simp [intOf]; omega
              · have s1 : (x.name.toList == c.name.toList) = true := hs
                have s2 : (x.name.toList != c.name.toList) = false := by rw [bne, s1]; rfl
                have HNV2 := Lib.hid (HNV.out.trans (by rw [hs]; rfl) : ((false && chanOK c) && !dupB (bs.take (m + 1)) c) = false)
                clear HNV hs
                go_wp2_with fail
                go_quiet (fail)
                go_wp2
                go_roundw
                case rel => exact ⟨m + 1, by omega, by go_num, by rw [HNV2.out], HBX2.out, bel_drewN hbi _⟩
                case measure => simp [intOf]; omega
          · obtain rfl : m = k := by omega
            have HOB2 := Lib.hid (HOB.out.trans (by rw [Bool.and_assoc]) : (inB 1 bs.length 16 && bookTo bs (m + 1)) = ((false && chanOK c) && !dupB (bs.take m) c))
            clear HV
            go_wp2
            go_roundw
            case rel => exact ⟨m + 1, by omega, by go_num, by rw [HOB2.out], hbi⟩
            case measure => simp [intOf]; omega
      · cases hA : nameOK c.name
        · have HV : Hid ((true && chanOK c) = false) := Lib.hid (by rw [HCK.out, hA]; rfl)
          have HX6 := HBX; have HL6 := HBA
          have HAA := Lib.hid hA; clear hA
          go_wp2_with fail
          refine (refIsName_any c.name _ hns).mono ?_
          rintro e w' ⟨rfl, rfl⟩
          rw [HAA.out]
          go_wp2_with fail
          go_loopw [3, 6] (fun o j wi => ∃ m : Nat, m ≤ k ∧ j = .int .i64 m ∧ o = .bool ((true && chanOK c) && !dupB (bs.take m) c) ∧ Blk wi wr.heap.size 106 #[.string c.name, .int .i64 c.rate, .int .i64 c.bits] ∧ Below w.heap.size w wi) (fun _ j _ => k - (intOf j).toNat)
          case atStart => exact ⟨0, Nat.zero_le _, rfl, by first | (rw [HV.out]; simp [dupB]; done) | (rw [HV.out]; simp [dupB]; omega), HX6.out, HL6.out⟩
          case round =>
            clear HX6 HL6
            obtain ⟨m, hm, rfl, rfl, hbx, hbi⟩ := hrel
            by_cases hlt2 : m < k
            · obtain ⟨x, hxm⟩ := get_of_lt (show m < bs.length by omega)
              have e0 := cell_keep (HC.out.at (chs_get hxm).1) hbi (Nat.le_refl _)
              have e1 := hbx.c0
              have hds := dupB_succ (c := c) hxm
              have hnv : ((true && chanOK c) && !dupB (bs.take (m + 1)) c) = (((true && chanOK c) && !dupB (bs.take m) c) && !sameName x.name c.name) := by rw [hds]; cases chanOK c <;> simp
              have HNV := Lib.hid hnv; have HBX2 := Lib.hid hbx
              clear hds hnv hxm hbx
              generalize hq : ((true && chanOK c) && !dupB (bs.take m) c) = q at *
              clear hq HV
              have i1 : (m : Int) < bs.length := by omega
              have i2 : (0 : Int) ≤ m := by omega
              cases q
              · go_wp2_with fail
                go_quiet (fail)
                go_wp2
                go_roundw
                case rel => exact ⟨m + 1, by omega, by go_num, by rw [HNV.out]; rfl, HBX2.out, bel_drewN hbi _⟩
                case measure => simp [intOf]; omega
              · cases hs : sameName x.name c.name
                · have s1 : (x.name.toList == c.name.toList) = false := hs
                  have s2 : (x.name.toList != c.name.toList) = true := by rw [bne, s1]; rfl
                  have HNV2 := Lib.hid (HNV.out.trans (by rw [hs]; rfl) : ((true && chanOK c) && !dupB (bs.take (m + 1)) c) = true)
                  clear HNV hs
                  go_wp2_with fail
                  go_quiet (fail)
                  go_wp2
                  go_roundw
                  case rel => exact ⟨m + 1, by omega, by go_num, by rw [HNV2.out], HBX2.out, bel_drewN hbi _⟩
                  case measure => simp [intOf]; omega
                · have s1 : (x.name.toList == c.name.toList) = true := hs
                  have s2 : (x.name.toList != c.name.toList) = false := by rw [bne, s1]; rfl
                  have HNV2 := Lib.hid (HNV.out.trans (by rw [hs]; rfl) : ((true && chanOK c) && !dupB (bs.take (m + 1)) c) = false)
                  clear HNV hs
                  go_wp2_with fail
                  go_quiet (fail)
                  go_wp2
                  go_roundw
                  case rel => exact ⟨m + 1, by omega, by go_num, by rw [HNV2.out], HBX2.out, bel_drewN hbi _⟩
                  case measure => simp [intOf]; omega
            · obtain rfl : m = k := by omega
              have HOB2 := Lib.hid (HOB.out.trans (by rw [Bool.and_assoc]) : (inB 1 bs.length 16 && bookTo bs (m + 1)) = ((true && chanOK c) && !dupB (bs.take m) c))
              clear HV
              go_wp2
              go_roundw
              case rel => exact ⟨m + 1, by omega, by go_num, by rw [HOB2.out], hbi⟩
              case measure => simp [intOf]; omega
        · have HAA := Lib.hid hA
          cases hBb : inB 2 c.bits 24
          · have HV : Hid ((true && chanOK c) = false) := Lib.hid (by rw [HCK.out, hA, hBb]; rfl)
            have HX6 := HBX; have HL6 := HBA
            have HBB := Lib.hid hBb; clear hA hBb
            go_wp2_with fail
            refine (refIsName_any c.name _ hns).mono ?_
            rintro e w' ⟨rfl, rfl⟩
            rw [HAA.out]
            go_wp2_with fail
            refine (in_any _ _ _ _).mono ?_
            rintro e w' ⟨rfl, rfl⟩
            rw [HBB.out]
            go_wp2_with fail
            go_loopw [3, 6] (fun o j wi => ∃ m : Nat, m ≤ k ∧ j = .int .i64 m ∧ o = .bool ((true && chanOK c) && !dupB (bs.take m) c) ∧ Blk wi wr.heap.size 106 #[.string c.name, .int .i64 c.rate, .int .i64 c.bits] ∧ Below w.heap.size w wi) (fun _ j _ => k - (intOf j).toNat)
            case atStart => exact ⟨0, Nat.zero_le _, rfl, by first | (rw [HV.out]; simp [dupB]; done) | (rw [HV.out]; simp [dupB]; omega), HX6.out, HL6.out⟩
            case round =>
              clear HX6 HL6
              obtain ⟨m, hm, rfl, rfl, hbx, hbi⟩ := hrel
              by_cases hlt2 : m < k
              · obtain ⟨x, hxm⟩ := get_of_lt (show m < bs.length by omega)
                have e0 := cell_keep (HC.out.at (chs_get hxm).1) hbi (Nat.le_refl _)
                have e1 := hbx.c0
                have hds := dupB_succ (c := c) hxm
                have hnv : ((true && chanOK c) && !dupB (bs.take (m + 1)) c) = (((true && chanOK c) && !dupB (bs.take m) c) && !sameName x.name c.name) := by rw [hds]; cases chanOK c <;> simp
                have HNV := Lib.hid hnv; have HBX2 := Lib.hid hbx
                clear hds hnv hxm hbx
                generalize hq : ((true && chanOK c) && !dupB (bs.take m) c) = q at *
                clear hq HV
                have i1 : (m : Int) < bs.length := by omega
                have i2 : (0 : Int) ≤ m := by omega
                cases q
                · go_wp2_with fail
                  go_quiet (fail)
                  go_wp2
                  go_roundw
                  case rel => exact ⟨m + 1, by omega, by go_num, by rw [HNV.out]; rfl, HBX2.out, bel_drewN hbi _⟩
                  case measure => simp [intOf]; omega
                · cases hs : sameName x.name c.name
                  · have s1 : (x.name.toList == c.name.toList) = false := hs
                    have s2 : (x.name.toList != c.name.toList) = true := by rw [bne, s1]; rfl
                    have HNV2 := Lib.hid (HNV.out.trans (by rw [hs]; rfl) : ((true && chanOK c) && !dupB (bs.take (m + 1)) c) = true)
                    clear HNV hs
                    go_wp2_with fail
                    go_quiet (fail)
                    go_wp2
                    go_roundw
                    case rel => exact ⟨m + 1, by omega, by go_num, by rw [HNV2.out], HBX2.out, bel_drewN hbi _⟩
                    case measure => simp [intOf]; omega
                  · have s1 : (x.name.toList == c.name.toList) = true := hs
                    have s2 : (x.name.toList != c.name.toList) = false := by rw [bne, s1]; rfl
                    have HNV2 := Lib.hid (HNV.out.trans (by rw [hs]; rfl) : ((true && chanOK c) && !dupB (bs.take (m + 1)) c) = false)
                    clear HNV hs
                    go_wp2_with fail
                    go_quiet (fail)
                    go_wp2
                    go_roundw
                    case rel => exact ⟨m + 1, by omega, by go_num, by rw [HNV2.out], HBX2.out, bel_drewN hbi _⟩
                    case measure => simp [intOf]; omega
              · obtain rfl : m = k := by omega
                have HOB2 := Lib.hid (HOB.out.trans (by rw [Bool.and_assoc]) : (inB 1 bs.length 16 && bookTo bs (m + 1)) = ((true && chanOK c) && !dupB (bs.take m) c))
                clear HV
                go_wp2
                go_roundw
                case rel => exact ⟨m + 1, by omega, by go_num, by rw [HOB2.out], hbi⟩
                case measure => simp [intOf]; omega
          · have HV : Hid ((true && chanOK c) = pow2B c.rate) := Lib.hid (by rw [HCK.out, hA, hBb]; rfl)
            have HX6 := Lib.hid (HBX.out.alloc (.cells #[.int .i64 1, .int .i64 2, .int .i64 4, .int .i64 8, .int .i64 16, .int .i64 32, .int .i64 64] 3))
            have HL6 := Lib.hid (HBA.out.alloc HBA.out.size (.cells #[.int .i64 1, .int .i64 2, .int .i64 4, .int .i64 8, .int .i64 16, .int .i64 32, .int .i64 64] 3))
            have HBB := Lib.hid hBb; clear hA hBb
            go_wp2_with fail
            refine (refIsName_any c.name _ hns).mono ?_
            rintro e w' ⟨rfl, rfl⟩
            rw [HAA.out]
            go_wp2_with fail
            refine (in_any _ _ _ _).mono ?_
            rintro e w' ⟨rfl, rfl⟩
            rw [HBB.out]
            go_wp2_with fail
            have hlit := new_lit (wr.alloc (.cells #[.string c.name, .int .i64 c.rate, .int .i64 c.bits] 106))
            rw [World.size_alloc] at hlit
            refine (refFind_any _ [1, 2, 4, 8, 16, 32, 64] 7 c.rate _ hlit (by decide)).mono ?_
            rintro e w' ⟨⟨r, rfl, hr⟩, rfl⟩
            rw [pow2_mem] at hr
            cases hp : pow2B c.rate
            · have hr0 : ¬ 0 ≤ r := fun h => by have := hr.1 h; rw [hp] at this; cases this
              rw [hp] at HV
              clear hr hlit hp
              go_wp2_with fail
              go_loopw [3, 6] (fun o j wi => ∃ m : Nat, m ≤ k ∧ j = .int .i64 m ∧ o = .bool ((true && chanOK c) && !dupB (bs.take m) c) ∧ Blk wi wr.heap.size 106 #[.string c.name, .int .i64 c.rate, .int .i64 c.bits] ∧ Below w.heap.size w wi) (fun _ j _ => k - (intOf j).toNat)
              case atStart => exact ⟨0, Nat.zero_le _, rfl, by first | (rw [HV.out]; simp [dupB]; done) | (rw [HV.out]; simp [dupB]; omega), HX6.out, HL6.out⟩
              case round =>
                clear HX6 HL6
                obtain ⟨m, hm, rfl, rfl, hbx, hbi⟩ := hrel
                by_cases hlt2 : m < k
                · obtain ⟨x, hxm⟩ := get_of_lt (show m < bs.length by omega)
                  have e0 := cell_keep (HC.out.at (chs_get hxm).1) hbi (Nat.le_refl _)
                  have e1 := hbx.c0
                  have hds := dupB_succ (c := c) hxm
                  have hnv : ((true && chanOK c) && !dupB (bs.take (m + 1)) c) = (((true && chanOK c) && !dupB (bs.take m) c) && !sameName x.name c.name) := by rw [hds]; cases chanOK c <;> simp
                  have HNV := Lib.hid hnv; have HBX2 := Lib.hid hbx
                  clear hds hnv hxm hbx
                  generalize hq : ((true && chanOK c) && !dupB (bs.take m) c) = q at *
                  clear hq HV
                  have i1 : (m : Int) < bs.length := by omega
                  have i2 : (0 : Int) ≤ m := by omega
                  cases q
                  · go_wp2_with fail
                    go_quiet (fail)
                    go_wp2
                    go_roundw
                    case rel => exact ⟨m + 1, by omega, by go_num, by rw [HNV.out]; rfl, HBX2.out, bel_drewN hbi _⟩
                    case measure => simp [intOf]; omega
                  · cases hs : sameName x.name c.name
                    · have s1 : (x.name.toList == c.name.toList) = false := hs
                      have s2 : (x.name.toList != c.name.toList) = true := by rw [bne, s1]; rfl
                      have HNV2 := Lib.hid (HNV.out.trans (by rw [hs]; rfl) : ((true && chanOK c) && !dupB (bs.take (m + 1)) c) = true)
                      clear HNV hs
                      go_wp2_with fail
                      go_quiet (fail)
                      go_wp2
                      go_roundw
                      case rel => exact ⟨m + 1, by omega, by go_num, by rw [HNV2.out], HBX2.out, bel_drewN hbi _⟩
                      case measure => simp [intOf]; omega
                    · have s1 : (x.name.toList == c.name.toList) = true := hs
                      have s2 : (x.name.toList != c.name.toList) = false := by rw [bne, s1]; rfl
                      have HNV2 := Lib.hid (HNV.out.trans (by rw [hs]; rfl) : ((true && chanOK c) && !dupB (bs.take (m + 1)) c) = false)
                      clear HNV hs
                      go_wp2_with fail
                      go_quiet (fail)
                      go_wp2
                      go_roundw
                      case rel => exact ⟨m + 1, by omega, by go_num, by rw [HNV2.out], HBX2.out, bel_drewN hbi _⟩
                      case measure => simp [intOf]; omega
                · obtain rfl : m = k := by omega
                  have HOB2 := Lib.hid (HOB.out.trans (by rw [Bool.and_assoc]) : (inB 1 bs.length 16 && bookTo bs (m + 1)) = ((true && chanOK c) && !dupB (bs.take m) c))
                  clear HV
                  go_wp2
                  go_roundw
                  case rel => exact ⟨m + 1, by omega, by go_num, by rw [HOB2.out], hbi⟩
                  case measure => simp [intOf]; omega
            · have hr0 : 0 ≤ r := hr.2 hp
              rw [hp] at HV
              clear hr hlit hp
              go_wp2_with fail
              go_loopw [3, 6] (fun o j wi => ∃ m : Nat, m ≤ k ∧ j = .int .i64 m ∧ o = .bool ((true && chanOK c) && !dupB (bs.take m) c) ∧ Blk wi wr.heap.size 106 #[.string c.name, .int .i64 c.rate, .int .i64 c.bits] ∧ Below w.heap.size w wi) (fun _ j _ => k - (intOf j).toNat)
              case atStart => exact ⟨0, Nat.zero_le _, rfl, by first | (rw [HV.out]; simp [dupB]; done) | (rw [HV.out]; simp [dupB]; omega), HX6.out, HL6.out⟩
              case round =>
                clear HX6 HL6
                obtain ⟨m, hm, rfl, rfl, hbx, hbi⟩ := hrel
                by_cases hlt2 : m < k
                · obtain ⟨x, hxm⟩ := get_of_lt (show m < bs.length by omega)
                  have e0 := cell_keep (HC.out.at (chs_get hxm).1) hbi (Nat.le_refl _)
                  have e1 := hbx.c0
                  have hds := dupB_succ (c := c) hxm
                  have hnv : ((true && chanOK c) && !dupB (bs.take (m + 1)) c) = (((true && chanOK c) && !dupB (bs.take m) c) && !sameName x.name c.name) := by rw [hds]; cases chanOK c <;> simp
                  have HNV := Lib.hid hnv; have HBX2 := Lib.hid hbx
                  clear hds hnv hxm hbx
                  generalize hq : ((true && chanOK c) && !dupB (bs.take m) c) = q at *
                  clear hq HV
                  have i1 : (m : Int) < bs.length := by omega
                  have i2 : (0 : Int) ≤ m := by omega
                  cases q
                  · go_wp2_with fail
                    go_quiet (fail)
                    go_wp2
                    go_roundw
                    case rel => exact ⟨m + 1, by omega, by go_num, by rw [HNV.out]; rfl, HBX2.out, bel_drewN hbi _⟩
                    case measure => simp [intOf]; omega
                  · cases hs : sameName x.name c.name
                    · have s1 : (x.name.toList == c.name.toList) = false := hs
                      have s2 : (x.name.toList != c.name.toList) = true := by rw [bne, s1]; rfl
                      have HNV2 := Lib.hid (HNV.out.trans (by rw [hs]; rfl) : ((true && chanOK c) && !dupB (bs.take (m + 1)) c) = true)
                      clear HNV hs
                      go_wp2_with fail
                      go_quiet (fail)
                      go_wp2
                      go_roundw
                      case rel => exact ⟨m + 1, by omega, by go_num, by rw [HNV2.out], HBX2.out, bel_drewN hbi _⟩
                      case measure => simp [intOf]; omega
                    · have s1 : (x.name.toList == c.name.toList) = true := hs
                      have s2 : (x.name.toList != c.name.toList) = false := by rw [bne, s1]; rfl
                      have HNV2 := Lib.hid (HNV.out.trans (by rw [hs]; rfl) : ((true && chanOK c) && !dupB (bs.take (m + 1)) c) = false)
                      clear HNV hs
                      go_wp2_with fail
                      go_quiet (fail)
                      go_wp2
                      go_roundw
                      case rel => exact ⟨m + 1, by omega, by go_num, by rw [HNV2.out], HBX2.out, bel_drewN hbi _⟩
                      case measure => simp [intOf]; omega
                · obtain rfl : m = k := by omega
                  have HOB2 := Lib.hid (HOB.out.trans (by rw [Bool.and_assoc]) : (inB 1 bs.length 16 && bookTo bs (m + 1)) = ((true && chanOK c) && !dupB (bs.take m) c))
                  clear HV
                  go_wp2
                  go_roundw
                  case rel => exact ⟨m + 1, by omega, by go_num, by rw [HOB2.out], hbi⟩
                  case measure => simp [intOf]; omega
    · obtain rfl : k = bs.length := by omega
      have hf : bookErr bs = if (inB 1 bs.length 16 && bookTo bs bs.length) then 0 else 50 := rfl
      have HF := Lib.hid hf; clear hf
      generalize (inB 1 bs.length 16 && bookTo bs bs.length) = o at *
      cases o
      · go_wp2
        go_ret
        exact ⟨ret_int (by rw [HF.out]; rfl), hbr⟩
      · go_wp2
        go_ret
        exact ⟨ret_int (by rw [HF.out]; rfl), hbr⟩
end Go.Proofs.YtoochleabcjljaaGreatDoor

/- Series: CheckSeries, of the program and of the reference. -/
namespace Go.Proofs.YtoochleabcjljaaGreatDoor
open Go.RowKit

set_option maxRecDepth 100000 in
theorem containsFunc_ints (F : FuncId) (capd : Array Value) (p : Int → Bool) (ao : Option Addr) (xs : List Int) (cap : Nat) (w : World) (hc : Cells w ao (xs.map (Value.int .i64))) (hl : xs.length ≤ 9223372036854775807)
    (hcf : ∀ (vs : Array Value) (wx : World), Sem.run Tryz.prog (callFunc F vs) wx = .ok (.enter F vs) wx)
    (hF : ∀ x wx, x ∈ xs → Below w.heap.size w wx → Calls Tryz.prog F (#[.int .i64 x] ++ capd) wx fun e w' => e = .returned (.bool (p x)) ∧ Below wx.heap.size wx w') :
    Calls Tryz.prog 111 #[.slice ao xs.length cap, .func (.func F) #[] capd] w fun e w' => e = .returned (.bool (xs.any p)) ∧ Below w.heap.size w w' := by
  have HC := Lib.hid hc; clear hc
  have HF := Lib.hid hF; clear hF
  have HCF := Lib.hid hcf; clear hcf
  go_enter Tryz.func111, Tryz.ntmps111
  go_wp2_with fail
  refine (indexFunc_ints F capd p ao xs cap w HC.out hl HCF.out HF.out).mono ?_
  rintro e w1 ⟨⟨r, rfl, hr⟩, hb⟩
  have HR := Lib.hid hr; clear hr
  go_wp2
  go_ret
  exact ⟨ret_bool (by rw [Bool.eq_iff_iff, decide_eq_true_iff]; exact HR.out), hb⟩

/-- a series -/
def serOK (xs : List Int) : Bool := decide (xs.length ≤ 4096) && xs.all (fun n => inB (-8388608) n 8388608)
def serErr (xs : List Int) : Int := if serOK xs then 0 else 55

theorem seriesOK_any (ao : Option Addr) (xs : List Int) (cap : Nat) (w : World) (hc : Cells w ao (xs.map (Value.int .i64))) (hl : xs.length ≤ 9223372036854775807) :
    Calls Tryz.prog 57 #[.slice ao xs.length cap] w fun e w' => e = .returned (.bool (serOK xs)) ∧ Below w.heap.size w w' := by
  have HC := Lib.hid hc; clear hc
  by_cases h : xs.length ≤ 4096
  · go_enter Tryz.func57, Tryz.ntmps57
    go_wp2_with fail
    refine (containsFunc_ints 112 #[] (fun n => !inB (-8388608) n 8388608) ao xs cap w HC.out hl (fun _ _ => by kernel_rfl) (fun x wx _ _ => (seriesOK1_any x wx).mono fun e w' h => ⟨h.1, h.2 ▸ Below.refl _ _⟩)).mono ?_
    rintro e w1 ⟨rfl, hb⟩
    go_wp2
    go_ret
    exact ⟨ret_bool (by simp [serOK, h, List.all_eq_not_any_not]), hb⟩
  · go_enter Tryz.func57, Tryz.ntmps57
    go_wp2
    go_ret
    exact ⟨ret_bool (by simp [serOK]; omega), Below.refl _ _⟩

theorem checkSeries_any (ao : Option Addr) (xs : List Int) (cap : Nat) (w : World) (hc : Cells w ao (xs.map (Value.int .i64))) (hl : xs.length ≤ 9223372036854775807) :
    Calls Tryz.prog 110 #[.slice ao xs.length cap] w fun e w' => e = .returned (.int .i64 (serErr xs)) ∧ Below w.heap.size w w' := by
  have HC := Lib.hid hc; clear hc
  cases hs : serOK xs
  all_goals
    go_enter Tryz.func110, Tryz.ntmps110
    go_wp2_with fail
    refine (seriesOK_any ao xs cap w HC.out hl).mono ?_
    rintro e w1 ⟨rfl, hb⟩
    go_wp2
    go_ret
    exact ⟨ret_int (by simp [serErr, hs]), hb⟩

theorem refCheckSeries_any (ao : Option Addr) (xs : List Int) (cap : Nat) (w : World) (hc : Cells w ao (xs.map (Value.int .i64))) (hl : xs.length ≤ 9223372036854775807) :
    Calls Tryz.prog 59 #[.slice ao xs.length cap] w fun e w' => e = .returned (.int .i64 (serErr xs)) ∧ Below w.heap.size w w' := by
  have HC := Lib.hid hc; clear hc
  go_enter Tryz.func59, Tryz.ntmps59
  go_wp2
  go_loopw [3, 4] (fun o i wr => ∃ k : Nat, k ≤ xs.length ∧ i = .int .i64 k ∧ o = .bool (decide (xs.length ≤ 4096) && (xs.take k).all (fun n => inB (-8388608) n 8388608)) ∧ Below w.heap.size w wr) (fun _ i _ => xs.length - (intOf i).toNat)
  case atStart => exact ⟨0, Nat.zero_le _, rfl, by simp; omega, Below.refl _ _⟩
  case round =>
    obtain ⟨k, hk, rfl, rfl, hb⟩ := hrel
    by_cases hlt : k < xs.length
    · obtain ⟨x, hx⟩ := get_of_lt hlt
      obtain ⟨b, off, rfl⟩ := HC.out.addr (by simpa using List.ne_nil_of_length_pos (by omega))
      have hcell := cell_keep (HC.out.int hx) hb (Nat.le_refl _)
      have hn : (decide (xs.length ≤ 4096) && (xs.take (k + 1)).all (fun n => inB (-8388608) n 8388608)) = ((decide (xs.length ≤ 4096) && (xs.take k).all (fun n => inB (-8388608) n 8388608)) && inB (-8388608) x 8388608) := by
        rw [take_get hx, List.all_append]; simp [Bool.and_assoc]
      have HX := Lib.hid hx; clear hx
      have HN := Lib.hid hn; clear hn
      generalize (decide (xs.length ≤ 4096) && (xs.take k).all (fun n => inB (-8388608) n 8388608)) = o at *
      cases o
      · go_wp2
        go_roundw
        case rel => exact ⟨k + 1, by omega, by go_num, by rw [HN.out]; rfl, hb⟩
        case measure => simp [intOf]; omega
      · go_wp2_with (go_at_call 54; refine (in_any _ _ _ _).mono ?_; rintro e w' ⟨rfl, rfl⟩)
        go_roundw
        case rel => exact ⟨k + 1, by omega, by go_num, by rw [HN.out]; simp, hb⟩
        case measure => simp [intOf]; omega
    · obtain rfl : k = xs.length := by omega
      have hn : serOK xs = (decide (xs.length ≤ 4096) && (xs.take xs.length).all (fun n => inB (-8388608) n 8388608)) := by simp [serOK]
      have HN := Lib.hid hn; clear hn
      generalize (decide (xs.length ≤ 4096) && (xs.take xs.length).all (fun n => inB (-8388608) n 8388608)) = o at *
      cases o
      all_goals
        go_wp2
        go_ret
        exact ⟨ret_int (by simp [serErr, HN.out]), hb⟩
end Go.Proofs.YtoochleabcjljaaGreatDoor

/- Frames: frameOK, CheckFrame. -/
namespace Go.Proofs.YtoochleabcjljaaGreatDoor
open Go.RowKit

/-- a slice of numbers, and a slice of such -/
def RowV (w : World) (v : Value) (xs : List Int) : Prop := ∃ a c, v = .slice a xs.length c ∧ Cells w a (xs.map (Value.int .i64)) ∧ xs.length ≤ 9223372036854775807
theorem RowV.below {w w' : World} {B : Nat} {v : Value} {xs : List Int} (h : RowV w v xs) (hb : Below B w w') (hB : w.heap.size ≤ B) : RowV w' v xs := by
  obtain ⟨a, c, h1, h2, h3⟩ := h; exact ⟨a, c, h1, h2.below hb hB, h3⟩
def RowsV (w : World) (vs : List Value) (xss : List (List Int)) : Prop := vs.length = xss.length ∧ ∀ (i : Nat) v xs, vs[i]? = some v → xss[i]? = some xs → RowV w v xs
theorem RowsV.below {w w' : World} {B : Nat} {vs : List Value} {xss : List (List Int)} (h : RowsV w vs xss) (hb : Below B w w') (hB : w.heap.size ≤ B) : RowsV w' vs xss :=
  ⟨h.1, fun i v xs h1 h2 => (h.2 i v xs h1 h2).below hb hB⟩

/-- the greatest magnitude of a channel -/
def mostOf (c : Chan) : Int := 2 ^ (c.bits - 1).toNat
def smpOK (c : Chan) (xs : List Int) : Bool := decide ((xs.length : Int) = c.rate) && !xs.any fun n => !inB (-(mostOf c)) n (mostOf c - 1)
def frTo (bs : List Chan) (xss : List (List Int)) : Nat → Bool
  | 0 => true
  | k + 1 => frTo bs xss k && match bs[k]?, xss[k]? with | some c, some xs => smpOK c xs | _, _ => true
def frOK (bs : List Chan) (st : Int) (xss : List (List Int)) : Bool := inB 0 st 1073741824 && (decide (xss.length = bs.length) && frTo bs xss bs.length)
theorem frTo_succ {bs : List Chan} {xss : List (List Int)} {k : Nat} {c : Chan} {xs : List Int} (h : bs[k]? = some c) (h2 : xss[k]? = some xs) : frTo bs xss (k + 1) = (frTo bs xss k && smpOK c xs) := by simp [frTo, h, h2]
theorem frTo_false {bs : List Chan} {xss : List (List Int)} {k : Nat} (h : frTo bs xss k = false) {n : Nat} (hn : k ≤ n) : frTo bs xss n = false := by
  induction n with
  | zero => obtain rfl : k = 0 := by omega
            exact h
  | succ n ih =>
    by_cases hk : k ≤ n
    · simp [frTo, ih hk]
    · obtain rfl : k = n + 1 := by omega
      exact h

theorem bookTo_get {bs : List Chan} {n : Nat} (h : bookTo bs n = true) {i : Nat} {c : Chan} (hi : i < n) (hc : bs[i]? = some c) : chanOK c = true := by
  induction n with
  | zero => omega
  | succ n ih =>
    simp only [bookTo, Bool.and_eq_true] at h
    by_cases hin : i < n
    · exact ih h.1 hin
    · obtain rfl : i = n := by omega
      have := h.2
      rw [hc] at this
      simp only [Bool.and_eq_true] at this
      exact this.1
theorem book_get {bs : List Chan} (h : bookOK bs = true) {i : Nat} {c : Chan} (hc : bs[i]? = some c) : 1 ≤ c.rate ∧ c.rate ≤ 64 ∧ 2 ≤ c.bits ∧ c.bits ≤ 24 := by
  simp only [bookOK, Bool.and_eq_true] at h
  have h1 := bookTo_get h.2 (List.getElem?_eq_some_iff.1 hc).1 hc
  simp only [chanOK, inB, Bool.and_eq_true, decide_eq_true_eq] at h1
  omega

theorem frameOK1_any (n m : Int) (bc : Nat) (w : World) (hc : w.cell? ⟨bc, 0, none⟩ = some (.int .i64 m)) (h1 : 1 ≤ m) (h2 : m ≤ 8388608) :
    Calls Tryz.prog 119 #[.int .i64 n, .pointer (some ⟨bc, 0, none⟩)] w fun e w' => e = .returned (.bool (!inB (-m) n (m - 1))) ∧ w = w' := by
  go_enter Tryz.func119, Tryz.ntmps119
  go_wp2_with (go_at_call 53; refine (within_any _ _ _ _).mono ?_; rintro e w' ⟨rfl, rfl⟩)
  go_ret
  exact ⟨rfl, rfl⟩

theorem new2_cell (w : World) (o : Obj) (cs : Array Value) (T : TypeId) (i : Nat) : ((w.alloc o).alloc (.cells cs T)).cell? ⟨w.heap.size + 1, i, none⟩ = cs[i]? := by
  simp

theorem most_bd {c : Chan} (h1 : 2 ≤ c.bits) (h2 : c.bits ≤ 24) : 1 ≤ mostOf c ∧ mostOf c ≤ 8388608 ∧ (1 : Int) * 2 ^ (c.bits - 1).toNat = mostOf c := by
  have hn : (c.bits - 1).toNat ≤ 23 := by omega
  have h3 : (2 : Nat) ^ (c.bits - 1).toNat ≤ 2 ^ 23 := Nat.pow_le_pow_right (by decide) hn
  have h4 : ((2 ^ (c.bits - 1).toNat : Nat) : Int) = mostOf c := by simp [mostOf]
  have h5 : 0 < (2 : Nat) ^ (c.bits - 1).toNat := Nat.pow_pos (by decide)
  have h6 : (2 : Nat) ^ 23 = 8388608 := by decide
  refine ⟨by omega, by omega, by simp [mostOf]⟩

set_option maxRecDepth 100000 in
set_option maxHeartbeats 1000000 in
theorem frameOK_any (ao : Option Addr) (bs : List Chan) (cap : Nat) (st : Int) (asm : Option Addr) (vs : List Value) (xss : List (List Int)) (cs : Nat) (w : World) (hc : Cells w ao (chs bs)) (hl : bs.length ≤ 9223372036854775807) (hs : Cells w asm vs) (hr : RowsV w vs xss) (_hls : xss.length ≤ 9223372036854775807) (hbk : bookOK bs = true) :
    Calls Tryz.prog 71 #[.slice ao bs.length cap, .agg #[.int .i64 st, .slice asm xss.length cs]] w fun e w' => e = .returned (.bool (frOK bs st xss)) ∧ Below w.heap.size w w' := by
  have HC := Lib.hid hc; have HS := Lib.hid hs; have HR := Lib.hid hr; have HBK := Lib.hid hbk
  clear hc hs hr hbk
  cases h1 : inB 0 st 1073741824
  · have hf : frOK bs st xss = false := by simp [frOK, h1]
    have HF := Lib.hid hf; clear hf
    go_enter Tryz.func71, Tryz.ntmps71
    go_wp2_with (go_at_call 53; refine (within_any _ _ _ _).mono ?_; rintro e w' ⟨rfl, rfl⟩)
    go_ret
    exact ⟨ret_bool HF.out.symm, (Below.refl _ _).alloc (Nat.le_refl _) _⟩
  · by_cases h2 : xss.length = bs.length
    · have hf : frOK bs st xss = frTo bs xss bs.length := by simp [frOK, h1, h2]
      have HF := Lib.hid hf; clear hf
      have hlen : ((xss.length : Int) != bs.length) = false := by simp [h2]
      have H2 := Lib.hid h2; clear h2
      have hle1 : xss.length ≤ bs.length := by have := H2.out; omega
      have hle2 : bs.length ≤ xss.length := by have := H2.out; omega
      go_enter Tryz.func71, Tryz.ntmps71
      go_wp2_with (go_at_call 53; refine (within_any _ _ _ _).mono ?_; rintro e w' ⟨rfl, rfl⟩)
      go_loopw [22] (fun i wr => ∃ k : Nat, k ≤ bs.length ∧ i = .int .i64 k ∧ frTo bs xss k = true ∧ Below (w.heap.size + 1) (w.alloc (.cells #[.int .i64 st, .slice asm xss.length cs] 43)) wr) (fun i _ => bs.length - (intOf i).toNat)
      case atStart => exact ⟨0, Nat.zero_le _, rfl, rfl, Below.refl _ _⟩
      case round =>
        obtain ⟨k, hk, rfl, hfr, hb⟩ := hrel
        have HFR := Lib.hid hfr; clear hfr
        have p1 : wr.cell? ⟨w.heap.size, 1, none⟩ = some (.slice asm xss.length cs) := box_keep hb (by simp) 1
        have hbw : Below w.heap.size w wr := ((Below.refl _ _).alloc (Nat.le_refl _) _).trans (hb.mono (by omega))
        have hsz : w.heap.size + 1 ≤ wr.heap.size := by have := hb.size; simpa using this
        by_cases hlt : k < bs.length
        · obtain ⟨c, hx⟩ := get_of_lt hlt
          obtain ⟨xs, hxs⟩ := get_of_lt (show k < xss.length by omega)
          obtain ⟨v, hv⟩ := get_of_lt (show k < vs.length by have := HR.out.1; omega)
          obtain ⟨b, off, rfl⟩ := HC.out.addr (chs_ne (by omega))
          obtain ⟨b2, off2, rfl⟩ := HS.out.addr (List.ne_nil_of_length_pos (by have := HR.out.1; omega))
          obtain ⟨g0, g1, g2⟩ := chs_get hx
          have c0 := cell_keep (HC.out.at g0) hbw (Nat.le_refl _)
          have c1 := cell_keep (HC.out.at g1) hbw (Nat.le_refl _)
          have c2 := cell_keep (HC.out.at g2) hbw (Nat.le_refl _)
          rw [← Nat.add_assoc] at c1 c2
          have c3 := cell_keep (HS.out.at hv) hbw (Nat.le_refl _)
          have hrow := HR.out.2 k v xs hv hxs
          obtain ⟨ax, cx, rfl, hax, haxl⟩ := hrow
          have hck := book_get HBK.out hx
          obtain ⟨k1, k2, k3, k4⟩ := hck
          obtain ⟨m1, m2, m3⟩ := most_bd k3 k4
          have hst := frTo_succ hx hxs
          rw [HFR.out, Bool.true_and] at hst
          have HST := Lib.hid hst; have HAX := Lib.hid hax; have M3 := Lib.hid m3
          clear g0 g1 g2 hst hax hx hxs hv m3
          have hmx : (c.bits - 1).toNat ≤ 23 := by omega
          have hmin : min (c.bits - 1).toNat 64 = (c.bits - 1).toNat := by omega
          have hpw : (2 : Int) ^ (c.bits.toNat - 1) = mostOf c := by rw [mostOf]; congr 1; omega
          go_wp2
          clear hpw hmx hmin
          have hbq := (hb.alloc hsz (.cells #[.string c.name, .int .i64 c.rate, .int .i64 c.bits] 106)).alloc (by simp; omega) (.cells #[.int .i64 (mostOf c)] 3)
          have hwq := ((Below.refl wr.heap.size wr).alloc (Nat.le_refl _) (.cells #[.string c.name, .int .i64 c.rate, .int .i64 c.bits] 106)).alloc (by simp) (.cells #[.int .i64 (mostOf c)] 3)
          have q3 := cell_keep c3 hwq (Nat.le_refl _)
          have qr : ((wr.alloc (.cells #[.string c.name, .int .i64 c.rate, .int .i64 c.bits] 106)).alloc (.cells #[.int .i64 (mostOf c)] 3)).cell? ⟨wr.heap.size, 1, none⟩ = some (.int .i64 c.rate) := by simp
          have qm : ((wr.alloc (.cells #[.string c.name, .int .i64 c.rate, .int .i64 c.bits] 106)).alloc (.cells #[.int .i64 (mostOf c)] 3)).cell? ⟨wr.heap.size + 1, 0, none⟩ = some (.int .i64 (mostOf c)) := new2_cell _ _ _ _ 0
          have hsq : wr.heap.size + 2 ≤ ((wr.alloc (.cells #[.string c.name, .int .i64 c.rate, .int .i64 c.bits] 106)).alloc (.cells #[.int .i64 (mostOf c)] 3)).heap.size := by simp
          generalize ((wr.alloc (.cells #[.string c.name, .int .i64 c.rate, .int .i64 c.bits] 106)).alloc (.cells #[.int .i64 (mostOf c)] 3)) = wq at *
          clear c0 c1 c2 c3 p1 hb hwq
          have p1 : wq.cell? ⟨w.heap.size, 1, none⟩ = some (.slice (some ⟨b2, off2, none⟩) xss.length cs) := box_keep hbq (by simp) 1
          have hbw2 : Below w.heap.size w wq := ((Below.refl _ _).alloc (Nat.le_refl _) _).trans (hbq.mono (by omega))
          have ki1 : (k : Int) < xss.length := by omega
          by_cases hlr : (xs.length : Int) = c.rate
          · have hst : frTo bs xss (k + 1) = !xs.any (fun n => !inB (-(mostOf c)) n (mostOf c - 1)) := by rw [HST.out]; simp [smpOK, hlr]
            have HST2 := Lib.hid hst; clear hst
            have hneq : ((xs.length : Int) != c.rate) = false := by simp [hlr]
            clear hlr
            go_still_tail 16, (by kernel_rfl)
            change wpList _ _ _ _ _ wq.drew
            have qm2 : wq.drew.cell? ⟨wr.heap.size + 1, 0, none⟩ = some (.int .i64 (mostOf c)) := qm
            have hbd : Below w.heap.size w wq.drew := hbw2.drew
            have hbqd : Below (w.heap.size + 1) (w.alloc (.cells #[.int .i64 st, .slice (some ⟨b2, off2, none⟩) xss.length cs] 43)) wq.drew := hbq.drew
            have hsq2 : wr.heap.size + 2 ≤ wq.drew.heap.size := hsq
            generalize wq.drew = wd at *
            clear qm qr q3 p1 hbq hbw2 hsq
            go_wp2_with fail
            refine (containsFunc_ints 119 #[.pointer (some ⟨wr.heap.size + 1, 0, none⟩)] (fun n => !inB (-(mostOf c)) n (mostOf c - 1)) ax xs cx wd (HAX.out.below hbd (Nat.le_refl _)) (by omega) (fun _ _ => by kernel_rfl) (fun x wx _ hbe => (frameOK1_any x (mostOf c) (wr.heap.size + 1) wx (cell_keep qm2 hbe (Nat.le_refl _)) m1 m2).mono fun e w' h => ⟨h.1, h.2 ▸ Below.refl _ _⟩)).mono ?_
            rintro e w1 ⟨rfl, hb1⟩
            have hbz := hbqd.trans (hb1.mono (by omega))
            cases hany : xs.any (fun n => !inB (-(mostOf c)) n (mostOf c - 1))
            · have hfr2 : frTo bs xss (k + 1) = true := by rw [HST2.out, hany]; rfl
              have HFR2 := Lib.hid hfr2; clear hfr2 hany
              go_wp2
              go_roundw
              case rel => exact ⟨k + 1, by omega, by go_num, HFR2.out, hbz⟩
              case measure => simp [intOf]; omega
            · have hfr2 : frTo bs xss bs.length = false := frTo_false (k := k + 1) (by rw [HST2.out, hany]; rfl) (by omega)
              have HFR2 := Lib.hid hfr2; clear hfr2 hany
              go_wp2
              go_ret
              exact ⟨ret_bool (by rw [HF.out, HFR2.out]), ((Below.refl _ _).alloc (Nat.le_refl _) _).trans (hbz.mono (by omega))⟩
          · have hfr2 : frTo bs xss bs.length = false := frTo_false (k := k + 1) (by rw [HST.out]; simp [smpOK, hlr]) (by omega)
            have HFR2 := Lib.hid hfr2; clear hfr2
            have hneq : ((xs.length : Int) != c.rate) = true := by simpa using hlr
            go_quiet (fail)
            go_wp2
            go_ret
            exact ⟨ret_bool (by rw [HF.out, HFR2.out]), bel_drewN hbw2 _⟩
        · obtain rfl : k = bs.length := by omega
          go_wp2
          go_ret
          exact ⟨ret_bool (by rw [HF.out, HFR.out]), hbw⟩
    · have hf : frOK bs st xss = false := by simp [frOK, h2]
      have HF := Lib.hid hf; clear hf
      have hlen : ((xss.length : Int) != bs.length) = true := by simp; omega
      go_enter Tryz.func71, Tryz.ntmps71
      go_wp2_with (go_at_call 53; refine (within_any _ _ _ _).mono ?_; rintro e w' ⟨rfl, rfl⟩)
      go_ret
      exact ⟨ret_bool HF.out.symm, (Below.refl _ _).alloc (Nat.le_refl _) _⟩
end Go.Proofs.YtoochleabcjljaaGreatDoor

/- Frames: CheckFrame. -/
namespace Go.Proofs.YtoochleabcjljaaGreatDoor
open Go.RowKit

def frmErr (bs : List Chan) (st : Int) (xss : List (List Int)) : Int := if bookErr bs ≠ 0 then bookErr bs else if frOK bs st xss then 0 else 51
theorem bookErr_zero {bs : List Chan} (h : bookErr bs = 0) : bookOK bs = true := by
  cases e : bookOK bs
  · simp [bookErr, e] at h
  · rfl

/-- what is asked of a book, whatever it holds -/
structure BookIn (w : World) (ao : Option Addr) (bs : List Chan) (cap : Nat) : Prop where
  cells : Cells w ao (chs bs)
  len : bs.length ≤ 9223372036854775807
  lecap : bs.length ≤ cap
  cap2 : cap ≤ 9223372036854775807
  names : ∀ c ∈ bs, c.name.size ≤ 9223372036854775807
  rates : ∀ c ∈ bs, -9223372036854775808 ≤ c.rate
theorem BookIn.below {w w' : World} {B : Nat} {ao : Option Addr} {bs : List Chan} {cap : Nat} (h : BookIn w ao bs cap) (hb : Below B w w') (hB : w.heap.size ≤ B) : BookIn w' ao bs cap :=
  ⟨h.cells.below hb hB, h.len, h.lecap, h.cap2, h.names, h.rates⟩

set_option maxRecDepth 100000 in
theorem checkFrame_any (ao : Option Addr) (bs : List Chan) (cap : Nat) (st : Int) (asm : Option Addr) (vs : List Value) (xss : List (List Int)) (cs : Nat) (w : World) (hb : BookIn w ao bs cap) (hs : Cells w asm vs) (hr : RowsV w vs xss) (hls : xss.length ≤ 9223372036854775807) :
    Calls Tryz.prog 26 #[.slice ao bs.length cap, .agg #[.int .i64 st, .slice asm xss.length cs]] w fun e w' => e = .returned (.int .i64 (frmErr bs st xss)) ∧ Below w.heap.size w w' := by
  have HB := Lib.hid hb; have HS := Lib.hid hs; have HR := Lib.hid hr
  have hlen := hb.len
  clear hs hr hb
  have hck := fun wx (h : BookIn wx ao bs cap) => checkBook_any ao bs cap wx h.cells (by have := h.len; omega) h.lecap h.cap2 h.names h.rates
  have HCK := Lib.hid hck; clear hck
  by_cases h1 : bookErr bs = 0
  · have hok := bookErr_zero h1
    have hfr := fun wx h2 h3 h4 => frameOK_any ao bs cap st asm vs xss cs wx h2 hlen h3 h4 hls hok
    have HFR := Lib.hid hfr; clear hfr hok
    have he : frmErr bs st xss = if frOK bs st xss then 0 else 51 := by simp [frmErr, h1]
    have HE := Lib.hid he; have H1 := Lib.hid h1; clear he h1
    cases h2 : frOK bs st xss
    all_goals
      have H2 := Lib.hid h2
      go_enter Tryz.func26, Tryz.ntmps26
      go_wp2_with fail
      refine (HCK.out _ (HB.out.below ((Below.refl _ _).alloc (Nat.le_refl _) _) (Nat.le_refl _))).mono ?_
      rintro e w1 ⟨rfl, hb1⟩
      rw [H1.out]
      have hbw : Below w.heap.size w w1 := ((Below.refl _ _).alloc (Nat.le_refl _) _).trans (hb1.mono (by simp))
      have q0 : w1.cell? ⟨w.heap.size, 0, none⟩ = some (.int .i64 st) := box_keep hb1 (by simp) 0
      have q1 : w1.cell? ⟨w.heap.size, 1, none⟩ = some (.slice asm xss.length cs) := box_keep hb1 (by simp) 1
      go_wp2_with fail
      refine (HFR.out _ (HB.out.below hbw (Nat.le_refl _)).cells (HS.out.below hbw (Nat.le_refl _)) (HR.out.below hbw (Nat.le_refl _))).mono ?_
      rintro e w2 ⟨rfl, hb2⟩
      go_wp2
      go_ret
      exact ⟨ret_int (by rw [HE.out, H2.out]; rfl), hbw.trans (hb2.mono hbw.size)⟩
  · have he : frmErr bs st xss = bookErr bs := by simp [frmErr, h1]
    have h3 : (bookErr bs != 0) = true := by simpa using h1
    have h4 : (bookErr bs == 0) = false := by simpa using h1
    have HE := Lib.hid he; clear he
    go_enter Tryz.func26, Tryz.ntmps26
    go_wp2_with fail
    refine (HCK.out _ (HB.out.below ((Below.refl _ _).alloc (Nat.le_refl _) _) (Nat.le_refl _))).mono ?_
    rintro e w1 ⟨rfl, hb1⟩
    go_wp2
    go_ret
    exact ⟨ret_int HE.out.symm, ((Below.refl _ _).alloc (Nat.le_refl _) _).trans (hb1.mono (by simp))⟩
end Go.Proofs.YtoochleabcjljaaGreatDoor

/- Records: slices of frames; CheckRecord, between. -/
namespace Go.Proofs.YtoochleabcjljaaGreatDoor
open Go.RowKit

/-- a frame, and where its samples lie -/
structure Frm where
  st : Int
  a : Option Addr
  c : Nat
  xss : List (List Int)
/-- frames, cell by cell -/
def frs (l : List Frm) : List Value := l.flatMap fun f => [.int .i64 f.st, .slice f.a f.xss.length f.c]
theorem frs_cons (t : Frm) (l : List Frm) : frs (t :: l) = .int .i64 t.st :: .slice t.a t.xss.length t.c :: frs l := rfl
theorem frs_length (l : List Frm) : (frs l).length = l.length * 2 := by
  induction l with
  | nil => rfl
  | cons t l ih => simp only [frs_cons, List.length_cons, ih]; omega
theorem frs_get {l : List Frm} {i : Nat} {t : Frm} (h : l[i]? = some t) : (frs l)[i * 2]? = some (.int .i64 t.st) ∧ (frs l)[i * 2 + 1]? = some (.slice t.a t.xss.length t.c) := by
  induction l generalizing i with
  | nil => simp at h
  | cons s l ih =>
    cases i with
    | zero => simp at h; subst h; simp [frs_cons]
    | succ i =>
      have e : (i + 1) * 2 = i * 2 + 1 + 1 := by omega
      have e1 : (i + 1) * 2 + 1 = i * 2 + 1 + 1 + 1 := by omega
      rw [frs_cons, e1, e]
      simp only [List.getElem?_cons_succ]
      exact ih (by simpa using h)
theorem frs_ne {l : List Frm} (h : 0 < l.length) : frs l ≠ [] := by
  intro e; have := frs_length l; rw [e] at this; simp at this; omega

/-- the samples of a frame lie where it says -/
def FrmIn (w : World) (f : Frm) : Prop := f.xss.length ≤ 9223372036854775807 ∧ ∃ vs, Cells w f.a vs ∧ RowsV w vs f.xss
theorem FrmIn.below {w w' : World} {B : Nat} {f : Frm} (h : FrmIn w f) (hb : Below B w w') (hB : w.heap.size ≤ B) : FrmIn w' f := by
  obtain ⟨h0, vs, h1, h2⟩ := h; exact ⟨h0, vs, h1.below hb hB, h2.below hb hB⟩
structure RecIn (w : World) (al : Option Addr) (l : List Frm) : Prop where
  cells : Cells w al (frs l)
  len : l.length ≤ 9223372036854775807
  rows : ∀ f ∈ l, FrmIn w f
theorem RecIn.below {w w' : World} {B : Nat} {al : Option Addr} {l : List Frm} (h : RecIn w al l) (hb : Below B w w') (hB : w.heap.size ≤ B) : RecIn w' al l :=
  ⟨h.cells.below hb hB, h.len, fun f hf => (h.rows f hf).below hb hB⟩

set_option maxRecDepth 100000 in
/-- slices.IndexFunc over frames -/
theorem indexFunc_frms (F : FuncId) (capd : Array Value) (p : Frm → Bool) (ao : Option Addr) (xs : List Frm) (cap : Nat) (w : World) (hc : Cells w ao (frs xs)) (hl : xs.length ≤ 9223372036854775807)
    (hcf : ∀ (vs : Array Value) (wx : World), Sem.run Tryz.prog (callFunc F vs) wx = .ok (.enter F vs) wx)
    (hF : ∀ x wx, x ∈ xs → Below w.heap.size w wx → Calls Tryz.prog F (#[.agg #[.int .i64 x.st, .slice x.a x.xss.length x.c]] ++ capd) wx fun e w' => e = .returned (.bool (p x)) ∧ Below wx.heap.size wx w') :
    Calls Tryz.prog 120 #[.slice ao xs.length cap, .func (.func F) #[] capd] w fun e w' => (∃ r : Int, e = .returned (.int .i64 r) ∧ (0 ≤ r ↔ xs.any p = true)) ∧ Below w.heap.size w w' := by
  go_enter Tryz.func120, Tryz.ntmps120
  go_wp2
  go_loopw [8] (fun i wr => ∃ k : Nat, k ≤ xs.length ∧ i = .int .i64 k ∧ (xs.take k).any p = false ∧ Below w.heap.size w wr) (fun i _ => xs.length - (intOf i).toNat)
  case atStart => exact ⟨0, Nat.zero_le _, rfl, rfl, Below.refl _ _⟩
  case round =>
    obtain ⟨k, hk, rfl, hany, hb⟩ := hrel
    by_cases hlt : k < xs.length
    · obtain ⟨x, hx⟩ := get_of_lt hlt
      obtain ⟨b, off, rfl⟩ := hc.addr (frs_ne (by omega))
      obtain ⟨g0, g1⟩ := frs_get hx
      have hcell1 := cell_keep (hc.at g0) hb (Nat.le_refl _)
      have hcell2 := cell_keep (hc.at g1) hb (Nat.le_refl _)
      rw [← Nat.add_assoc] at hcell2
      clear g0 g1
      have HX := Lib.hid hx; clear hx
      have HC := Lib.hid hc; clear hc
      have HF := Lib.hid hF; clear hF
      have HA := Lib.hid hany; clear hany
      go_wp2_with fail
      refine (HF.out x wr (List.mem_of_getElem? HX.out) hb).mono ?_
      rintro e w1 ⟨rfl, hb1⟩
      have hb2 := hb.trans (hb1.mono hb.size)
      clear hb1
      by_cases hp : p x = true
      · go_wp2
        go_ret
        refine ⟨⟨_, rfl, ?_⟩, hb2⟩
        simp only [Int.natCast_nonneg, true_iff, List.any_eq_true]
        exact ⟨x, List.mem_of_getElem? HX.out, hp⟩
      · simp only [Bool.not_eq_true] at hp
        go_wp2
        go_roundw
        case rel => exact ⟨k + 1, by omega, by go_num, by rw [take_get HX.out, List.any_append, HA.out]; simp [hp], hb2⟩
        case measure => simp [intOf]; omega
    · obtain rfl : k = xs.length := by omega
      rw [List.take_length] at hany
      have HA := Lib.hid hany; clear hany
      go_wp2
      go_ret
      exact ⟨⟨_, rfl, by rw [HA.out]; simp⟩, hb⟩

set_option maxRecDepth 100000 in
theorem containsFunc_frms (F : FuncId) (capd : Array Value) (p : Frm → Bool) (ao : Option Addr) (xs : List Frm) (cap : Nat) (w : World) (hc : Cells w ao (frs xs)) (hl : xs.length ≤ 9223372036854775807)
    (hcf : ∀ (vs : Array Value) (wx : World), Sem.run Tryz.prog (callFunc F vs) wx = .ok (.enter F vs) wx)
    (hF : ∀ x wx, x ∈ xs → Below w.heap.size w wx → Calls Tryz.prog F (#[.agg #[.int .i64 x.st, .slice x.a x.xss.length x.c]] ++ capd) wx fun e w' => e = .returned (.bool (p x)) ∧ Below wx.heap.size wx w') :
    Calls Tryz.prog 73 #[.slice ao xs.length cap, .func (.func F) #[] capd] w fun e w' => e = .returned (.bool (xs.any p)) ∧ Below w.heap.size w w' := by
  have HC := Lib.hid hc; clear hc
  have HF := Lib.hid hF; clear hF
  have HCF := Lib.hid hcf; clear hcf
  go_enter Tryz.func73, Tryz.ntmps73
  go_wp2_with fail
  refine (indexFunc_frms F capd p ao xs cap w HC.out hl HCF.out HF.out).mono ?_
  rintro e w1 ⟨⟨r, rfl, hr⟩, hb⟩
  have HR := Lib.hid hr; clear hr
  go_wp2
  go_ret
  exact ⟨ret_bool (by rw [Bool.eq_iff_iff, decide_eq_true_iff]; exact HR.out), hb⟩

theorem checkRecord1_any (ao : Option Addr) (bs : List Chan) (cap : Nat) (bc : Nat) (x : Frm) (w : World) (hc : w.cell? ⟨bc, 0, none⟩ = some (.slice ao bs.length cap)) (hb : Cells w ao (chs bs)) (hl : bs.length ≤ 9223372036854775807) (hx : FrmIn w x) (hbk : bookOK bs = true) :
    Calls Tryz.prog 74 #[.agg #[.int .i64 x.st, .slice x.a x.xss.length x.c], .pointer (some ⟨bc, 0, none⟩)] w fun e w' => e = .returned (.bool (!frOK bs x.st x.xss)) ∧ Below w.heap.size w w' := by
  have hb0 := (Below.refl w.heap.size w).alloc (Nat.le_refl _) (.cells #[.int .i64 x.st, .slice x.a x.xss.length x.c] 43)
  have hc1 := cell_keep hc hb0 (Nat.le_refl _)
  obtain ⟨h0, vs, h1, h2⟩ := hx
  have hfr := frameOK_any ao bs cap x.st x.a vs x.xss x.c _ (hb.below hb0 (Nat.le_refl _)) hl (h1.below hb0 (Nat.le_refl _)) (h2.below hb0 (Nat.le_refl _)) h0 hbk
  have HFR := Lib.hid hfr
  have H1 := Lib.hid h1; have H2 := Lib.hid h2; have HB := Lib.hid hb
  clear hfr h1 h2 hb hc
  go_enter Tryz.func74, Tryz.ntmps74
  go_wp2_with fail
  refine HFR.out.mono ?_
  rintro e w1 ⟨rfl, hb1⟩
  have hf := hb0.trans (hb1.mono hb0.size)
  go_wp2
  go_ret
  exact ⟨rfl, hf⟩

/-- the seconds go up -/
def upTo (l : List Frm) : Nat → Bool
  | 0 => true
  | k + 1 => upTo l k && (decide (k = 0) || decide ((l.getD (k - 1) ⟨0, none, 0, []⟩).st < (l.getD k ⟨0, none, 0, []⟩).st))
def recErr (bs : List Chan) (l : List Frm) : Int :=
  if bookErr bs ≠ 0 then bookErr bs else if 64 < l.length then 3 else if l.any fun f => !frOK bs f.st f.xss then 51 else if upTo l l.length = false then 52 else 0
theorem upTo_false {l : List Frm} {k : Nat} (h : upTo l k = false) {n : Nat} (hn : k ≤ n) : upTo l n = false := by
  induction n with
  | zero => obtain rfl : k = 0 := by omega
            exact h
  | succ n ih =>
    by_cases hk : k ≤ n
    · simp [upTo, ih hk]
    · obtain rfl : k = n + 1 := by omega
      exact h

set_option maxRecDepth 100000 in
set_option maxHeartbeats 1000000 in
theorem checkRecord_any (ao : Option Addr) (bs : List Chan) (cap : Nat) (al : Option Addr) (l : List Frm) (cl : Nat) (w : World) (hb : BookIn w ao bs cap) (hr : RecIn w al l) :
    Calls Tryz.prog 28 #[.slice ao bs.length cap, .slice al l.length cl] w fun e w' => e = .returned (.int .i64 (recErr bs l)) ∧ Below w.heap.size w w' := by
  have HB := Lib.hid hb; have HR := Lib.hid hr
  have hll := hr.len
  clear hb hr
  have hb0 := (Below.refl w.heap.size w).alloc (Nat.le_refl _) (.cells #[.slice ao bs.length cap] 37)
  have hck := fun wx (h : BookIn wx ao bs cap) => checkBook_any ao bs cap wx h.cells (by have := h.len; omega) h.lecap h.cap2 h.names h.rates
  have HCK := Lib.hid hck; clear hck
  by_cases h1 : bookErr bs = 0
  · have hok := bookErr_zero h1
    by_cases h2 : 64 < l.length
    · have he : recErr bs l = 3 := by simp [recErr, h1, h2]
      have HE := Lib.hid he; have H1 := Lib.hid h1
      clear he h1 hok
      go_enter Tryz.func28, Tryz.ntmps28
      go_wp2_with fail
      refine (HCK.out _ (HB.out.below hb0 (Nat.le_refl _))).mono ?_
      rintro e w1 ⟨rfl, hb1⟩
      rw [H1.out]
      have hf := hb0.trans (hb1.mono hb0.size)
      go_wp2
      go_ret
      exact ⟨ret_int HE.out.symm, hf⟩
    · have HOK := Lib.hid hok; have H1 := Lib.hid h1
      cases h3 : l.any fun f => !frOK bs f.st f.xss
      · have he : recErr bs l = if upTo l l.length = false then 52 else 0 := by rw [recErr, if_neg (by simpa using h1), if_neg h2, h3]; rfl
        have HE := Lib.hid he; have H3 := Lib.hid h3
        clear he h1 hok h3
        go_enter Tryz.func28, Tryz.ntmps28
        go_wp2_with fail
        refine (HCK.out _ (HB.out.below hb0 (Nat.le_refl _))).mono ?_
        rintro e w1 ⟨rfl, hb1⟩
        rw [H1.out]
        have hf := hb0.trans (hb1.mono hb0.size)
        have q0 : w1.cell? ⟨w.heap.size, 0, none⟩ = some (.slice ao bs.length cap) := box_keep hb1 (by simp) 0
        have HR1 := Lib.hid (HR.out.below hf (Nat.le_refl _))
        have HB1 := Lib.hid (HB.out.below hf (Nat.le_refl _))
        clear hb1
        go_wp2_with fail
        refine (containsFunc_frms 74 #[.pointer (some ⟨w.heap.size, 0, none⟩)] (fun f => !frOK bs f.st f.xss) al l cl w1 HR1.out.cells (by omega) (fun _ _ => by kernel_rfl) (fun x wx hx hbx => checkRecord1_any ao bs cap w.heap.size x wx (cell_keep q0 hbx (Nat.le_refl _)) (HB1.out.cells.below hbx (Nat.le_refl _)) HB1.out.len ((HR1.out.rows x hx).below hbx (Nat.le_refl _)) HOK.out)).mono ?_
        rintro e w2 ⟨rfl, hb2⟩
        rw [H3.out]
        have hf2 := hf.trans (hb2.mono hf.size)
        have HR2 := Lib.hid (HR1.out.below hb2 (Nat.le_refl _))
        have hrf := Below.refl w2.heap.size w2
        have HF2 := Lib.hid hf2
        clear hb2 hf hf2 q0
        go_wp2
        go_loopw [20] (fun i wr => ∃ k : Nat, k ≤ l.length ∧ i = .int .i64 k ∧ upTo l k = true ∧ Below w2.heap.size w2 wr) (fun i _ => l.length - (intOf i).toNat)
        case atStart => exact ⟨0, Nat.zero_le _, rfl, rfl, hrf⟩
        case round =>
          clear hrf
          obtain ⟨k, hk, rfl, hup, hbr⟩ := hrel
          have HU := Lib.hid hup; clear hup
          by_cases hlt : k < l.length
          · obtain ⟨y, hy⟩ := get_of_lt hlt
            obtain ⟨bl, ol, rfl⟩ := HR2.out.cells.addr (frs_ne (by omega))
            have c1 := cell_keep (HR2.out.cells.at (frs_get hy).1) hbr (Nat.le_refl _)
            have hyd : l.getD k ⟨0, none, 0, []⟩ = y := by rw [List.getD_eq_getElem?_getD, hy]; rfl
            by_cases h0 : k = 0
            · subst h0
              have hst : upTo l (0 + 1) = true := by simp [upTo]
              have HST := Lib.hid hst
              clear hst hyd hy
              rw [show ((0 : Nat) : Int) = 0 from rfl]
              have d0 : decide ((0 : Int) < 0) = false := by decide
              go_wp2_with fail
              go_quiet (fail)
              go_wp2
              go_roundw
              case rel => exact ⟨0 + 1, by omega, by go_num, HST.out, bel_drewN hbr _⟩
              case measure => simp [intOf]; omega
            · obtain ⟨x, hx⟩ := get_of_lt (show k - 1 < l.length by omega)
              have c0 := cell_keep (HR2.out.cells.at (frs_get hx).1) hbr (Nat.le_refl _)
              have hxd : l.getD (k - 1) ⟨0, none, 0, []⟩ = x := by rw [List.getD_eq_getElem?_getD, hx]; rfl
              have hst : upTo l (k + 1) = decide (x.st < y.st) := by rw [upTo, HU.out, hxd, hyd]; simp [h0]
              have HST := Lib.hid hst
              clear hst hyd hy hx hxd
              have a1 : IntKind.i64.wrap ((k : Int) - 1) = (k : Int) - 1 := IntWalk.i64_in _ (by omega)
              have a2 : ((k : Int) - 1).toNat = k - 1 := by omega
              have a3 : (0 : Int) ≤ (k : Int) - 1 := by omega
              have a3' : (1 : Int) ≤ (k : Int) := by omega
              have a4 : (k : Int) - 1 < (l.length : Int) := by omega
              have a5 : (0 : Int) < k := by omega
              have d5 : decide (0 < k) = true := by simp; omega
              have a6 : (k : Int) < (l.length : Int) := by omega
              have a7 : (0 : Int) ≤ (k : Int) := by omega
              generalize x.st = xs at *
              generalize y.st = ys at *
              by_cases hxy : xs < ys
              · have d1 : decide (ys ≤ xs) = false := by simp; omega
                go_wp2_with fail
                go_quiet (fail)
                go_wp2
                go_roundw
                case rel => exact ⟨k + 1, by omega, by go_num, by rw [HST.out]; simpa using hxy, bel_drewN hbr _⟩
                case measure => simp [intOf]; omega
              · have d1 : decide (ys ≤ xs) = true := by simp; omega
                have hfl : upTo l l.length = false := upTo_false (k := k + 1) (by rw [HST.out]; simpa using hxy) (by omega)
                have HFL := Lib.hid hfl
                clear hfl
                go_wp2_with fail
                go_quiet (fail)
                go_wp2
                go_ret
                exact ⟨ret_int (by rw [HE.out, HFL.out]; rfl), HF2.out.trans ((bel_drewN hbr _).mono HF2.out.size)⟩
          · obtain rfl : k = l.length := by omega
            go_wp2
            go_ret
            exact ⟨ret_int (by rw [HE.out, HU.out]; rfl), HF2.out.trans (hbr.mono HF2.out.size)⟩
      · have he : recErr bs l = 51 := by rw [recErr, if_neg (by simpa using h1), if_neg h2, h3]; rfl
        have HE := Lib.hid he; have H3 := Lib.hid h3
        clear he h1 hok h3
        go_enter Tryz.func28, Tryz.ntmps28
        go_wp2_with fail
        refine (HCK.out _ (HB.out.below hb0 (Nat.le_refl _))).mono ?_
        rintro e w1 ⟨rfl, hb1⟩
        rw [H1.out]
        have hf := hb0.trans (hb1.mono hb0.size)
        have q0 : w1.cell? ⟨w.heap.size, 0, none⟩ = some (.slice ao bs.length cap) := box_keep hb1 (by simp) 0
        have HR1 := Lib.hid (HR.out.below hf (Nat.le_refl _))
        have HB1 := Lib.hid (HB.out.below hf (Nat.le_refl _))
        clear hb1
        go_wp2_with fail
        refine (containsFunc_frms 74 #[.pointer (some ⟨w.heap.size, 0, none⟩)] (fun f => !frOK bs f.st f.xss) al l cl w1 HR1.out.cells (by omega) (fun _ _ => by kernel_rfl) (fun x wx hx hbx => checkRecord1_any ao bs cap w.heap.size x wx (cell_keep q0 hbx (Nat.le_refl _)) (HB1.out.cells.below hbx (Nat.le_refl _)) HB1.out.len ((HR1.out.rows x hx).below hbx (Nat.le_refl _)) HOK.out)).mono ?_
        rintro e w2 ⟨rfl, hb2⟩
        rw [H3.out]
        have hf2 := hf.trans (hb2.mono hf.size)
        clear hb2 hf q0
        go_wp2
        go_ret
        exact ⟨ret_int HE.out.symm, hf2⟩
  · have he : recErr bs l = bookErr bs := by simp [recErr, h1]
    have h3 : (bookErr bs != 0) = true := by simpa using h1
    have h4 : (bookErr bs == 0) = false := by simpa using h1
    have HE := Lib.hid he; clear he
    go_enter Tryz.func28, Tryz.ntmps28
    go_wp2_with fail
    refine (HCK.out _ (HB.out.below hb0 (Nat.le_refl _))).mono ?_
    rintro e w1 ⟨rfl, hb1⟩
    have hf := hb0.trans (hb1.mono hb0.size)
    go_wp2
    go_ret
    exact ⟨ret_int HE.out.symm, hf⟩
end Go.Proofs.YtoochleabcjljaaGreatDoor

/- Codes: whole bytes; the code of a frame in plain words. -/
namespace Go.Proofs.YtoochleabcjljaaGreatDoor
open Go.RowKit

theorem octs_append (a : List Nat) (h : a.length % 8 = 0) (b : List Nat) : octs (a ++ b) = octs a ++ octs b := by
  suffices ∀ r : List Nat, octs (a ++ r.reverse) = octs a ++ octs r.reverse by simpa using this b.reverse
  intro r
  induction r with
  | nil => simp [octs_nil]
  | cons x r ih =>
    rw [List.reverse_cons, ← List.append_assoc, octs_snoc, octs_snoc, ih, List.length_append]
    generalize r.reverse = q
    have hl := octs_len q
    unfold pushBit
    by_cases h0 : q.length % 8 = 0
    · rw [if_pos (by omega), if_pos h0, List.append_assoc]
    · rw [if_neg (by omega), if_neg h0]
      have hp : 0 < (octs q).length := by omega
      have hm : (a.length + q.length) % 8 = q.length % 8 := by omega
      rw [hm, List.length_append, List.set_append_right _ _ (by omega), List.getD_eq_getElem?_getD, List.getD_eq_getElem?_getD, List.getElem?_append_right (by omega)]
      rw [show (octs a).length + (octs q).length - 1 - (octs a).length = (octs q).length - 1 by omega]

theorem octs_byte : ∀ b : Fin 256, octs (binL (b.val : Int) 8) = [b.val] := by decide +kernel
/-- the bits of bytes -/
def unB (l : List Nat) : List Nat := l.flatMap fun (b : Nat) => binL (b : Int) 8
theorem unB_length (l : List Nat) : (unB l).length = 8 * l.length := by
  induction l with
  | nil => rfl
  | cons b l ih => rw [unB, List.flatMap_cons, List.length_append, binL_length, List.length_cons]; rw [unB] at ih; omega
theorem unB_bits (l : List Nat) : ∀ b ∈ unB l, b ≤ 1 := by
  intro b hb
  obtain ⟨x, _, hx⟩ := List.mem_flatMap.1 hb
  exact binL_bits _ _ b hx
theorem octs_unB (l : List Nat) (hl : ∀ d ∈ l, d < 256) : octs (unB l) = l := by
  induction l with
  | nil => rfl
  | cons b l ih =>
    rw [unB, List.flatMap_cons, octs_append _ (by rw [binL_length]), octs_byte ⟨b, hl b (by simp)⟩]
    have := ih fun d hd => hl d (by simp [hd])
    rw [unB] at this
    rw [this]; rfl

/-- the way of a channel's samples, their bits; the bits of a frame; its code -/
def wayOf (x : List Int) : Nat × Nat := (bestF x (wvs 124)).1
def encC (x : List Int) : List Nat := encL (wayOf x).1 (wayOf x).2 (resid x (wayOf x).1)
def frBits (st : Int) (xss : List (List Int)) : List Nat := binL st 32 ++ xss.flatMap encC
def hdB (body : List Nat) : List Nat := [165, 90] ++ octs (binL (body.length : Nat) 16) ++ body
def encB (st : Int) (xss : List (List Int)) : List Nat := hdB (octs (frBits st xss)) ++ octs (binL (chkL (hdB (octs (frBits st xss))) : Nat) 24)

theorem way_bd (x : Way) : x.1.1 ≤ 3 ∧ x.1.2 ≤ 30 := by have := x.2; omega
theorem bestF_bd (xs : List Int) (pre : List Way) : (bestF xs pre).1.1 ≤ 3 ∧ (bestF xs pre).1.2 ≤ 30 := by
  suffices ∀ b : (Nat × Nat) × Nat, b.1.1 ≤ 3 ∧ b.1.2 ≤ 30 → (pre.foldl (stepB xs) b).1.1 ≤ 3 ∧ (pre.foldl (stepB xs) b).1.2 ≤ 30 from this _ ⟨by simp, by simp⟩
  induction pre with
  | nil => intro b h; exact h
  | cons x l ih =>
    intro b h
    rw [List.foldl_cons]
    refine ih _ ?_
    unfold stepB
    split
    · exact way_bd x
    · exact h
theorem wayOf_bd (x : List Int) : (wayOf x).1 ≤ 3 ∧ (wayOf x).2 ≤ 30 := by
  have h := bestF_bd x (wvs 124)
  unfold wayOf
  generalize wvs 124 = q at *
  exact h
theorem encC_length (x : List Int) : (encC x).length ≤ 7 + 52 * x.length := cost_le x _ _ (wayOf_bd x).2
theorem encU_bits (u : Int) (sh : Nat) : ∀ b ∈ encU u sh, b ≤ 1 := by
  intro b hb
  unfold encU at hb
  split at hb
  · rcases List.mem_append.1 hb with h | h <;> exact binL_bits _ _ b h
  · rcases List.mem_append.1 hb with h | h <;> exact binL_bits _ _ b h
theorem flat_encC (xss : List (List Int)) (n : Nat) (h : ∀ xs ∈ xss, xs.length ≤ n) : (xss.flatMap encC).length ≤ (7 + 52 * n) * xss.length := by
  induction xss with
  | nil => simp
  | cons x l ih =>
    have h1 := ih fun y hy => h y (by simp [hy])
    have h2 := encC_length x
    have h3 := h x (by simp)
    rw [List.flatMap_cons, List.length_append, List.length_cons, Nat.mul_succ]
    omega
end Go.Proofs.YtoochleabcjljaaGreatDoor

/- Codes: encode. -/
namespace Go.Proofs.YtoochleabcjljaaGreatDoor
open Go.RowKit Go.Shelf

theorem grown_of_below {n : Nat} {w w' : World} (hb : Below n w w') (hn : w.heap.size ≤ n) (row : Option Nat) : w.grownBy w' row := ⟨hb.os, hb.tape, hb.output, hb.size, fun k hk _ => hb.block k (by omega)⟩
theorem own_base {w : World} {B B' : Nat} {e : TypeId} {s : Nat} {v : Value} {n : Nat} {xs : List Value} (h : w.ownsRow B e s v n xs) (hB : B' ≤ B) : w.ownsRow B' e s v n xs := by
  refine ⟨h.1, h.2.imp id ?_⟩
  rintro ⟨g, cap, cur, h1, h2, h3⟩
  exact ⟨g, cap, cur, h1, by omega, h3⟩
theorem own_below {w w' : World} {B n : Nat} {e : TypeId} {s : Nat} {v : Value} {m : Nat} {xs : List Value} (h : w.ownsRow B e s v m xs) (hb : Below n w w') (hn : w.heap.size ≤ n) : w'.ownsRow B e s v m xs :=
  h.kept (row := none) (grown_of_below hb hn none) (by cases hv : v.ownBlock <;> simp)
theorem WrS.wide {B bW n : Nat} {S : Nat → Prop} {w w' : World} {bs : List Nat} (h : WrS B bW S w bs) (hb : Below n w w') (hn : w.heap.size ≤ n) : WrS B bW (fun k => S k ∨ (w.heap.size ≤ k ∧ k < w'.heap.size)) w' bs := by
  obtain ⟨h1, h2, v, h3, h4, h5, h6⟩ := h
  have hl := heap_lt h3
  refine ⟨h1, h2, v, by rw [hb.block _ (by omega)]; exact h3, own_below h4 hb hn, h5, fun k hk => ?_⟩
  have hs := hb.size
  rcases hk with hk | ⟨hk1, hk2⟩
  · have := h6 k hk; exact ⟨by omega, this.2⟩
  · exact ⟨hk2, by omega, fun e => by have := (h4.lt _ e).2; omega⟩
theorem WrS.new (B : Nat) (S : Nat → Prop) (W : World) (hB : B ≤ W.heap.size) (hS : ∀ k, S k → k < W.heap.size) : WrS B W.heap.size S (W.alloc (.cells #[.slice none 0 0, .int .i64 0] 167)) [] :=
  ⟨hB, by simp, .slice none 0 0, World.alloc_heap_new W _, by rw [octs_nil]; exact World.ownsRow_nil _ _ _ _, by simp [Value.ownBlock], fun k hk => ⟨by have := hS k hk; simp; omega, by have := hS k hk; omega, by simp [Value.ownBlock]⟩⟩
theorem frBits_bits (st : Int) (xss : List (List Int)) : ∀ b ∈ frBits st xss, b ≤ 1 := by
  intro b hb
  rcases List.mem_append.1 hb with h | h
  · exact binL_bits _ _ b h
  · obtain ⟨x, _, hx⟩ := List.mem_flatMap.1 h
    unfold encC encL at hx
    rcases List.mem_append.1 hx with h | h
    · rcases List.mem_append.1 h with h | h <;> exact binL_bits _ _ b h
    · obtain ⟨r, _, hr⟩ := List.mem_flatMap.1 h
      exact encU_bits _ _ b hr

theorem best_way (ao : Option Addr) (xs : List Int) (cap : Nat) (w : World) (hc : Cells w ao (xs.map (Value.int .i64))) (hl : xs.length ≤ 4096) (hx : ∀ x ∈ xs, -8388608 ≤ x ∧ x ≤ 8388608) :
    Calls Tryz.prog 122 #[.slice ao xs.length cap] w fun e w' => ∃ o s : Nat, wayOf xs = (o, s) ∧ e = .returned (.agg #[.int .i64 (o : Nat), .int .i64 (s : Nat)]) ∧ Below w.heap.size w w' := by
  have h := best_any ao xs cap w hc hl hx
  unfold wayOf
  generalize wvs 124 = q at *
  exact h.mono fun e w' h => ⟨_, _, rfl, h⟩

theorem enc_write {B bW : Nat} (S : Nat → Prop) (o sh : Nat) (ho : o ≤ 3) (hsh : sh ≤ 30) (al : Option Addr) (l : List Int) (cl : Nat) (bs : List Nat) {n : Nat} (w : World)
    (hst : WrS B bW S w bs) (hS : ∀ b, n ≤ b ∧ b < w.heap.size → S b) (hl : ∀ b off, al = some ⟨b, off, none⟩ → n ≤ b) (hc : Cells w al (l.map (Value.int .i64))) (hlen : l.length ≤ 4096) (hbs : bs.length ≤ 1000000) (hr : ∀ r ∈ l, -67108864 ≤ r ∧ r ≤ 67108864) :
    Calls Tryz.prog 123 #[.agg #[.int .i64 (o : Nat), .int .i64 (sh : Nat)], .iface 165 (.pointer (some ⟨bW, 0, none⟩)), .slice al l.length cl] w fun e w' => e = .returned (.tuple #[]) ∧ WrS B bW S w' (bs ++ encL o sh l) ∧ KeepS S B w w' := by
  refine write_any (writer_ok B bW) S o sh ho hsh al l cl bs w hst (fun b off hb hne => hS b ⟨hl b off hb, ?_⟩) hc hlen hbs hr
  subst hb
  obtain ⟨r, hr0⟩ := get_of_lt (List.length_pos_iff.2 hne)
  exact World.block_lt_of_cell? w _ (hc.at (j := 0) (by rw [List.getElem?_map, hr0]; rfl))

theorem WrS.lit (w : World) : WrS w.heap.size (w.heap.size + 1) (fun k => k < w.heap.size) ((w.alloc (.cells #[.int .u8 165, .int .u8 90] 5)).alloc (.cells #[.slice (some ⟨w.heap.size, 0, none⟩) 2 2, .int .i64 0] 167)) (unB [165, 90]) := by
  refine ⟨by omega, unB_bits _, .slice (some ⟨w.heap.size, 0, none⟩) 2 2, ?_, ?_, by simp [Value.ownBlock], fun k hk => ⟨by simp; omega, by omega, by simp [Value.ownBlock]; omega⟩⟩
  · have h := World.alloc_heap_new (w.alloc (.cells #[.int .u8 165, .int .u8 90] 5)) (.cells #[.slice (some ⟨w.heap.size, 0, none⟩) 2 2, .int .i64 0] 167)
    rw [World.size_alloc] at h
    exact h
  · rw [octs_unB _ (by decide)]
    refine ⟨rfl, .inr ⟨w.heap.size, 2, #[.int .u8 165, .int .u8 90], rfl, Nat.le_refl _, ?_, by decide, by unfold maxLen; omega, rfl, rfl⟩⟩
    rw [Below.heap_alloc _ _ _ (by simp)]
    exact World.alloc_heap_new w _

set_option maxRecDepth 100000 in
set_option maxHeartbeats 2000000 in
theorem encode_any (ao : Option Addr) (nb : Nat) (cap : Nat) (st : Int) (asm : Option Addr) (vs : List Value) (xss : List (List Int)) (cs : Nat) (w : World) (hl : nb ≤ 16) (hnb : xss.length = nb) (hs : Cells w asm vs) (hr : RowsV w vs xss)
    (hst0 : 0 ≤ st) (hst1 : st ≤ 1073741824) (hxl : ∀ xs ∈ xss, xs.length ≤ 64) (hxb : ∀ xs ∈ xss, ∀ x ∈ xs, -8388608 ≤ x ∧ x ≤ 8388608) :
    Calls Tryz.prog 75 #[.slice ao nb cap, .agg #[.int .i64 st, .slice asm nb cs]] w fun e w' => (∃ v, e = .returned v ∧ w'.ownsRow w.heap.size 5 1 v (encB st xss).length (bys (encB st xss))) ∧ Below w.heap.size w w' := by
  have HS := Lib.hid hs; have HR := Lib.hid hr; have HXL := Lib.hid hxl; have HXB := Lib.hid hxb; have HNB := Lib.hid hnb
  clear hs hr hxl hxb hnb
  go_enter Tryz.func75, Tryz.ntmps75
  go_wp2_with fail
  have hw0 := WrS.new (w.heap.size + 1) (fun _ => False) (w.alloc (.cells #[.int .i64 st, .slice asm nb cs] 43)) (by simp) (fun k h => h.elim)
  rw [World.size_alloc] at hw0
  refine (writer_put _ _ _ _ st 32 _ hw0 hst0 (by omega) (by omega) (by simp)).mono ?_
  rintro e w1 ⟨rfl, hw1, hk1⟩
  have hb1 : Below (w.heap.size + 1) (w.alloc (.cells #[.int .i64 st, .slice asm nb cs] 43)) w1 := ((Below.refl _ _).alloc (by simp) _).trans hk1.below
  have HW1 := Lib.hid hw1
  clear hw0 hw1 hk1
  go_wp2
  go_loopw [18] (fun i wr => ∃ k : Nat, k ≤ nb ∧ i = .int .i64 k ∧ WrS (w.heap.size + 1) (w.heap.size + 1) (fun _ => False) wr (frBits st (xss.take k)) ∧ Below (w.heap.size + 1) (w.alloc (.cells #[.int .i64 st, .slice asm nb cs] 43)) wr) (fun i _ => nb - (intOf i).toNat)
  case atStart => exact ⟨0, Nat.zero_le _, rfl, by simpa [frBits] using HW1.out, hb1⟩
  case round =>
    clear hb1 HW1
    obtain ⟨k, hk, rfl, hwr, hb⟩ := hrel
    have HWR := Lib.hid hwr; clear hwr
    have hsz : w.heap.size + 1 ≤ wr.heap.size := by have := hb.size; simpa using this
    by_cases hlt : k < nb
    · obtain ⟨xs, hxs⟩ := get_of_lt (show k < xss.length by have := HNB.out; omega)
      obtain ⟨v, hv⟩ := get_of_lt (show k < vs.length by have := HR.out.1; have := HNB.out; omega)
      obtain ⟨b2, off2, rfl⟩ := HS.out.addr (List.ne_nil_of_length_pos (by have := HR.out.1; have := HNB.out; omega))
      have hbw : Below w.heap.size w wr := ((Below.refl _ _).alloc (Nat.le_refl _) _).trans (hb.mono (by omega))
      have c3 := cell_keep (HS.out.at hv) hbw (Nat.le_refl _)
      have p1 : wr.cell? ⟨w.heap.size, 1, none⟩ = some (.slice (some ⟨b2, off2, none⟩) nb cs) := box_keep hb (by simp) 1
      obtain ⟨ax, cx, rfl, hax, _⟩ := HR.out.2 k v xs hv hxs
      have hmem := List.mem_of_getElem? hxs
      have hxl := HXL.out xs hmem
      have hxb := HXB.out xs hmem
      have hax2 := hax.below hbw (Nat.le_refl _)
      have HXB2 := Lib.hid hxb; have HAX := Lib.hid hax2
      have HT : Hid (frBits st (xss.take (k + 1)) = frBits st (xss.take k) ++ encC xs) := Lib.hid (by
        rw [frBits, frBits, take_get hxs, List.flatMap_append]; simp)
      have HFL : Hid ((frBits st (xss.take k)).length ≤ 32 + 3335 * 16) := Lib.hid (by
        have h1 := flat_encC (xss.take k) 64 (fun y hy => HXL.out y (List.mem_of_mem_take hy))
        rw [List.length_take, Nat.min_eq_left (by have := HNB.out; omega)] at h1
        rw [frBits, List.length_append, binL_length]; omega)
      clear hv hxs hax hax2 hxb hmem
      go_wp2_with fail
      refine (best_way ax xs cx wr HAX.out (by omega) HXB2.out).mono ?_
      rintro e w1 ⟨o, sh, hwy, rfl, hb1⟩
      have hwb := wayOf_bd xs
      rw [hwy] at hwb
      obtain ⟨ho, hsh⟩ := hwb
      simp only at ho hsh
      have HE : Hid (encC xs = encL o sh (resid xs o)) := Lib.hid (by rw [encC, hwy])
      clear hwy
      have hb2 := hb.trans (hb1.mono hsz)
      have hbx := hb1.alloc hb1.size (.cells #[.int .i64 o, .int .i64 sh] 170)
      have HW2 := Lib.hid ((HWR.out.wide hbx (Nat.le_refl _)))
      have hn1 := hb1.size
      go_wp2
      have hax3 := HAX.out.below hbx.drew (Nat.le_refl _)
      have HAX3 := Lib.hid hax3
      have bw := (Blk.new w1 170 #[.int .i64 o, .int .i64 sh]).drew
      have HWd : Hid (WrS (w.heap.size + 1) (w.heap.size + 1) (fun k => False ∨ (wr.heap.size ≤ k ∧ k < (w1.alloc (.cells #[.int .i64 o, .int .i64 sh] 170)).drew.heap.size)) (w1.alloc (.cells #[.int .i64 o, .int .i64 sh] 170)).drew (frBits st (xss.take k))) := Lib.hid HW2.out
      have hsc : (w1.alloc (.cells #[.int .i64 o, .int .i64 sh] 170)).drew.heap.size = w1.heap.size + 1 := by simp
      have hbd := hbx.drew
      clear hax3 HW2 HAX hb1 hbx c3 p1
      have e0 := bw.c0
      have e1 := bw.c1
      have HBW := Lib.hid bw; have HSC := Lib.hid hsc
      clear bw hsc
      generalize (w1.alloc (.cells #[.int .i64 o, .int .i64 sh] 170)) = Wc at *
      go_region_with (first
        | (go_at_call 124; refine (residues_any ax xs cx o Wc.drew HAX3.out (by omega) ho HXB2.out).mono ?_; rintro e w2 ⟨⟨a1, k1, rfl, hca, hna⟩, hb3⟩; have HCA := Lib.hid hca; have HNA := Lib.hid hna; clear hca hna; have d0 := cell_keep e0 hb3 (Nat.le_refl _); have d1 := cell_keep e1 hb3 (Nat.le_refl _))
        | (go_at_call 123; refine (enc_write _ o sh ho hsh a1 (resid xs o) k1 _ w2 (HWd.out.wide hb3 (Nat.le_refl _)) (fun b hb => .inr hb) HNA.out HCA.out (by rw [resid_length]; omega) (by have := HFL.out; omega) (resid_bd HXB2.out o ho)).mono ?_; rintro e w3 ⟨rfl, hw3, hk3⟩; have hb4 := hk3.below; have HW3 := Lib.hid hw3; clear hw3 hk3))
      all_goals
        have hbz := (hb.trans ((hbd.mono hsz).trans (hb3.mono (Nat.le_trans hsz hbd.size)))).trans hb4
        have HBZ := Lib.hid hbz
        clear hbz hb4 hb3 hbd hb
        go_wp2
        go_roundw
        case rel => exact ⟨k + 1, by omega, by go_num, by rw [HT.out, HE.out]; exact (writer_ok _ _).mono _ _ _ _ (fun k h => h.elim) HW3.out, HBZ.out⟩
        case measure => simp [intOf]; omega
    · obtain rfl : k = nb := by omega
      have ht : xss.take k = xss := by rw [List.take_of_length_le (by have := HNB.out; omega)]
      rw [ht] at HWR
      have hfl : (frBits st xss).length ≤ 32 + 3335 * 16 := by
        have h1 := flat_encC xss 64 HXL.out
        have := HNB.out
        rw [frBits, List.length_append, binL_length]; omega
      have hfl2 : 32 ≤ (frBits st xss).length := by rw [frBits, List.length_append, binL_length]; omega
      have HBI := Lib.hid (frBits_bits st xss)
      have hol := octs_len (frBits st xss)
      have hbw : Below w.heap.size w wr := ((Below.refl _ _).alloc (Nat.le_refl _) _).trans (hb.mono (by omega))
      clear ht hb
      have HENC : Hid (encB st xss = hdB (octs (frBits st xss)) ++ octs (binL (chkL (hdB (octs (frBits st xss))) : Nat) 24)) := Lib.hid rfl
      have hok := (octs_ok _ HBI.out).1
      obtain ⟨eb, heb⟩ : ∃ eb, eb = encB st xss := ⟨_, rfl⟩
      rw [← heb] at HENC
      have HEB := Lib.hid heb
      clear heb
      generalize frBits st xss = fb at *
      have hn1 : 4 ≤ (octs fb).length := by omega
      have hn2 : (octs fb).length ≤ 6674 := by omega
      have HOK := Lib.hid hok
      clear hol hfl hfl2 hok
      obtain ⟨_, _, v1, hbk, hown, hne, _⟩ := HWR.out
      generalize octs fb = body at *
      obtain ⟨a1, c1, rfl, hca⟩ := own_cells hown
      obtain ⟨bv, ov, rfl⟩ := hca.addr (bys_ne (by omega))
      have p0 : wr.cell? ⟨w.heap.size + 1, 0, none⟩ = some (.slice (some ⟨bv, ov, none⟩) body.length c1) := by rw [Lib.cell_of_heap hbk]; rfl
      have hlt1 := heap_lt hbk
      have hlt2 := (hown.lt bv rfl).2
      have HBK := Lib.hid hbk; have HCA := Lib.hid hca; have HNE := Lib.hid hne
      have hba := (((Below.refl wr.heap.size wr).alloc (Nat.le_refl _) (.cells #[.int .u8 165, .int .u8 90] 5)).alloc (by simp) (.cells #[.slice (some ⟨wr.heap.size, 0, none⟩) 2 2, .int .i64 0] 167))
      have p1 := cell_keep p0 hba (Nat.le_refl _)
      have HPK := Lib.hid p0
      clear hbk hown hca hne HWR
      go_wp2_with fail
      have hw2 := WrS.lit wr
      clear p0 p1
      generalize ((wr.alloc (.cells #[.int .u8 165, .int .u8 90] 5)).alloc (.cells #[.slice (some ⟨wr.heap.size, 0, none⟩) 2 2, .int .i64 0] 167)) = wq at *
      refine (writer_put _ _ _ _ (body.length : Nat) 16 _ hw2 (by omega) (by omega) (by omega) (by rw [unB_length]; simp)).mono ?_
      rintro e w2 ⟨rfl, hw3, hk3⟩
      have hb3 := hba.trans hk3.below
      obtain ⟨_, hbits2, v2, hbk2, hown2, hne2, _⟩ := hw3
      have hoc : octs (unB [165, 90] ++ binL (body.length : Nat) 16) = [165, 90] ++ octs (binL (body.length : Nat) 16) := by
        rw [octs_append _ (by rw [unB_length]; rfl), octs_unB _ (by decide)]
      have hol := octs_len (binL (body.length : Nat) 16)
      rw [binL_length] at hol
      have hfr : freeOf (unB [165, 90] ++ binL (body.length : Nat) 16).length = 0 := by rw [List.length_append, unB_length, binL_length]; rfl
      rw [hoc] at hown2
      rw [hfr] at hbk2
      have hln : ([165, 90] ++ octs (binL (body.length : Nat) 16)).length = 4 := by rw [List.length_append, hol]; rfl
      rw [hln] at hown2
      have p2 := cell_keep HPK.out hb3 (Nat.le_refl _)
      have HC2 := Lib.hid hoc; have HLN := Lib.hid hln; have HBT := Lib.hid hbits2
      clear hoc hln hbits2 hol hfr hk3
      obtain ⟨g2, cg2, rfl, hg2, hg2l⟩ := hown2.form (by omega)
      have hne3 : g2 ≠ wr.heap.size + 1 := by simpa [Value.ownBlock] using hne2
      have q0 : w2.cell? ⟨wr.heap.size + 1, 0, none⟩ = some (.slice (some ⟨g2, 0, none⟩) 4 cg2) := by rw [Lib.cell_of_heap hbk2]; rfl
      have f0 : w2.frozen? ⟨wr.heap.size + 1, 0, none⟩ = false := Lib.frozen_of_heap hbk2 0
      have hl2 := heap_lt hbk2
      have hcb := HCA.out.below hb3 (Nat.le_refl _)
      have HCB := Lib.hid hcb; have HB2 := Lib.hid hbk2; have HO2 := Lib.hid hown2
      clear hne2 hcb hbk2 hown2 HNE HBK
      obtain ⟨i0, hi, hz0, hz1, hz2⟩ := info_parts Tryz.infoByte
      have hsz2 := hb3.size
      go_wp2
      have FA : ∀ (g : Nat) (wz : World), w2.drew.grownBy wz (some g2) → wz.frozen? ⟨wr.heap.size + 1, 0, none⟩ = false ∧ ∃ u, wz.cell? ⟨wr.heap.size + 1, 0, none⟩ = some u := fun g wz hg => by
        have e := hg.block (wr.heap.size + 1) hl2 (by simpa using Ne.symm hne3)
        have e2 := e.trans HB2.out
        exact ⟨Lib.frozen_of_heap e2 0, _, by rw [Lib.cell_of_heap e2]; rfl⟩
      replace FA := Lib.hid FA
      go_region_law (refine step_append_lies _ (by rfl) _ _ _ (by rfl) wr.heap.size 5 i0 _ 1 1 Tryz.underlying48 hi hz0 hz1 hz2 rfl (by omega) (.slice (some ⟨g2, 0, none⟩) 4 cg2) 4 _ (by rfl) (own_drewN HO2.out 1) ⟨bv, ov, none⟩ body.length c1 (bys body) (by rfl) (by simp [bys_length]) (fun j u hu => by rw [Addr.add_lit]; exact HCB.out.at hu) (by intro u hu; obtain ⟨d, _, rfl⟩ := List.mem_map.1 hu; rfl) (by omega) (by unfold maxLen; omega) (by omega) (by simp; omega) w2.heap.size (by simp) ?_; intro gg cp wz hown1 hgrow hat hlt1; obtain ⟨f9, u9, c9⟩ := FA.out gg wz hgrow)
      all_goals
        have hgne : gg ≠ wr.heap.size + 1 := by
          rcases hat with h | h
          · simp [Value.ownBlock] at h; omega
          · omega
        have hbz : wz.heap[wr.heap.size + 1]? = some (.cells #[.slice (some ⟨g2, 0, none⟩) 4 cg2, .int .i64 (0 : Nat)] 167 (0, 0)) := (hgrow.block (wr.heap.size + 1) hl2 (by simpa [Value.ownBlock] using Ne.symm hne3)).trans HB2.out
        have hbel : Below wr.heap.size wr wz := (hb3.drew).grown hgrow (by simpa using hsz2) (fun j e => by simp [Value.ownBlock] at e; omega)
        have hy1 := heap_set1 (u := .int .i64 0) (heap_set0 (u := .slice (some ⟨gg, 0, none⟩) (4 + body.length) cp) hbz)
        have hy2 := own_set_other (p := ⟨wr.heap.size + 1, 1, none⟩) (u := .int .i64 0) (own_set_other (p := ⟨wr.heap.size + 1, 0, none⟩) (u := .slice (some ⟨gg, 0, none⟩) (4 + body.length) cp) hown1 (by simpa [Value.ownBlock] using hgne)) (by simpa [Value.ownBlock] using hgne)
        have hy3 := (hbel.setCell (p := ⟨wr.heap.size + 1, 0, none⟩) (by simp) (.slice (some ⟨gg, 0, none⟩) (4 + body.length) cp)).setCell (p := ⟨wr.heap.size + 1, 1, none⟩) (by simp) (.int .i64 0)
        have f1 := Lib.frozen_of_heap hbz 1
        have c1' : ∃ u, wz.cell? ⟨wr.heap.size + 1, 1, none⟩ = some u := ⟨_, by rw [Lib.cell_of_heap hbz]; rfl⟩
        obtain ⟨_, c1'⟩ := c1'
        have HY1 := Lib.hid hy1; have HY2 := Lib.hid hy2; have HY3 := Lib.hid hy3
        clear hown1 hgrow hat hbz hbel hy1 hy2 hy3
        have hhd : bys ([165, 90] ++ octs (binL (body.length : Nat) 16)) ++ bys body = bys (hdB body) := by rw [hdB, bys_append (_ ++ _)]
        have hhl : (hdB body).length = 4 + body.length := by rw [hdB, List.length_append, HLN.out]
        have hhok : ∀ d ∈ hdB body, d < 256 := by
          intro d hd
          rcases List.mem_append.1 hd with h | h
          · have := (octs_ok (unB [165, 90] ++ binL (body.length : Nat) 16) HBT.out).1 d
            rw [HC2.out] at this
            exact this h
          · exact HOK.out d h
        have HHD := Lib.hid hhd; have HHL := Lib.hid hhl; have HHOK := Lib.hid hhok
        clear hhd hhl hhok
        go_wp2_with fail
        clear f1 f9 c9 c1'
        generalize ((wz.setCell ⟨wr.heap.size + 1, 0, none⟩ (.slice (some ⟨gg, 0, none⟩) (4 + body.length) cp)).setCell ⟨wr.heap.size + 1, 1, none⟩ (.int .i64 0)) = wx at *
        have hown4 := HY2.out
        rw [HHD.out] at hown4
        have hck := check_any (some ⟨gg, 0, none⟩) (hdB body) cp wx (by obtain ⟨a, c, h1, h2⟩ := own_cells hown4; simp at h1; rw [h1.1]; exact h2) HHOK.out (by rw [HHL.out]; omega)
        rw [HHL.out] at hck
        refine hck.mono ?_
        rintro e w4 ⟨rfl, rfl⟩
        clear hck
        go_wp2_with fail
        have hwx : WrS wr.heap.size (wr.heap.size + 1) (fun _ => False) wx (unB [165, 90] ++ binL (body.length : Nat) 16 ++ unB body) := by
          have ho : octs (unB [165, 90] ++ binL (body.length : Nat) 16 ++ unB body) = hdB body := by
            rw [octs_append _ (by rw [List.length_append, unB_length, binL_length]; rfl), HC2.out, octs_unB _ HOK.out]; rfl
          refine ⟨by omega, ?_, .slice (some ⟨gg, 0, none⟩) (4 + body.length) cp, ?_, ?_, by simpa [Value.ownBlock] using hgne, fun k h => h.elim⟩
          · intro b hb
            rcases List.mem_append.1 hb with h | h
            · exact HBT.out b h
            · exact unB_bits _ b h
          · have : freeOf (unB [165, 90] ++ binL (body.length : Nat) 16 ++ unB body).length = 0 := by
              unfold freeOf; rw [List.length_append, List.length_append, unB_length, unB_length, binL_length]; simp
            rw [this]; exact HY1.out
          · rw [ho, HHL.out]; exact hown4
        have hcl := chkL_lt (hdB body)
        have hpt := writer_put _ _ _ _ (chkL (hdB body) : Nat) 24 _ hwx (by omega) (by omega) (by omega) (by rw [List.length_append, List.length_append, unB_length, unB_length, binL_length]; simp <;> omega)
        have HPT := Lib.hid hpt
        clear hpt hwx hown4
        refine HPT.out.mono ?_
        rintro e w5 ⟨rfl, hw5, hk5⟩
        have hb5 := HY3.out.trans hk5.below
        obtain ⟨_, _, v5, hbk5, hown5, _, _⟩ := hw5
        have ho5 : octs (unB [165, 90] ++ binL (body.length : Nat) 16 ++ unB body ++ binL (chkL (hdB body) : Nat) 24) = eb := by
          rw [HENC.out, octs_append _ (by rw [List.length_append, List.length_append, unB_length, unB_length, binL_length]; simp <;> omega), octs_append _ (by rw [List.length_append, unB_length, binL_length]; rfl), HC2.out, octs_unB _ HOK.out]; rfl
        rw [ho5] at hown5
        have q5 : w5.cell? ⟨wr.heap.size + 1, 0, none⟩ = some v5 := by rw [Lib.cell_of_heap hbk5]; rfl
        have HO5 := Lib.hid (own_base hown5 (show w.heap.size ≤ wr.heap.size by omega))
        have hfin := hbw.trans (hb5.mono hbw.size)
        clear hbk5 hown5 ho5 hk5
        go_wp2_with fail
        go_ret
        exact ⟨⟨v5, rfl, by rw [← HEB.out]; exact HO5.out⟩, hfin⟩
end Go.Proofs.YtoochleabcjljaaGreatDoor
