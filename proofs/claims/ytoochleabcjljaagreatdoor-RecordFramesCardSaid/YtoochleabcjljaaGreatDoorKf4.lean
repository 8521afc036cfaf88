/- Parts of a proof, in build order: S1, R0, R1, S2, S3, F1, R2. -/
import Derived.Test.YtoochleabcjljaaGreatDoorKf3

/- The chapter's own CheckBook. -/
namespace Go.Proofs.YtoochleabcjljaaGreatDoor
open Go.RowKit

/-- what is asked of a book here -/
structure BookIn0 (w : World) (ao : Option Addr) (bs : List Chan) : Prop where
  cells : Cells w ao (chs bs)
  len : bs.length ≤ 9223372036854775807
  names : ∀ c ∈ bs, c.name.size ≤ 9223372036854775807
theorem pow2_mem (r : Int) : (r ∈ [(1 : Int), 2, 4, 8, 16, 32, 64]) ↔ pow2B r = true := by
  simp [pow2B]
theorem chanOK_ref (c : Chan) : chanOK c = (nameOK c.name && (inB 2 c.bits 24 && pow2B c.rate)) := by
  unfold chanOK
  cases h : pow2B c.rate
  · simp
  · have : inB 1 c.rate 64 = true := by
      simp only [pow2B, decide_eq_true_eq] at h
      simp only [inB, decide_eq_true_eq]
      omega
    rw [this]; cases nameOK c.name <;> cases inB 2 c.bits 24 <;> rfl
theorem new_lit (w : World) : Cells (w.alloc (.cells #[.int .i64 1, .int .i64 2, .int .i64 4, .int .i64 8, .int .i64 16, .int .i64 32, .int .i64 64] 3)) (some ⟨w.heap.size, 0, none⟩) ([1, 2, 4, 8, 16, 32, 64].map (Value.int .i64)) :=
  .inr ⟨_, _, rfl, fun j u hu => by rw [Nat.zero_add]; simpa using hu⟩
theorem dupB_succ {bs : List Chan} {m : Nat} {x c : Chan} (h : bs[m]? = some x) : dupB (bs.take (m + 1)) c = (dupB (bs.take m) c || sameName x.name c.name) := by
  simp [dupB, take_get h]

set_option maxRecDepth 100000 in
set_option maxHeartbeats 2000000 in
theorem refCheckBook_any (ao : Option Addr) (bs : List Chan) (cap : Nat) (w : World) (hb : BookIn0 w ao bs) :
    Calls Tryz.prog 25 #[.slice ao bs.length cap] w fun e w' => e = .returned (.int .i64 (bookErr bs)) ∧ Below w.heap.size w w' := by
  have HC := Lib.hid hb.cells; have HN := Lib.hid hb.names
  have hl := hb.len
  clear hb
  go_enter Tryz.func25, Tryz.ntmps25
  go_wp2_with (go_at_call 54; refine (in_any _ _ _ _).mono ?_; rintro e w' ⟨rfl, rfl⟩)
  go_loopw [3, 4] (fun o i wr => ∃ k : Nat, k ≤ bs.length ∧ i = .int .i64 k ∧ o = .bool (inB 1 bs.length 16 && bookTo bs k) ∧ Below w.heap.size w wr) (fun _ i _ => bs.length - (intOf i).toNat)
  case atStart => exact ⟨0, Nat.zero_le _, rfl, by simp [bookTo], Below.refl _ _⟩
  case round =>
    obtain ⟨k, hk, rfl, rfl, hbr⟩ := hrel
    by_cases hlt : k < bs.length
    · obtain ⟨c, hx⟩ := get_of_lt hlt
      obtain ⟨b, off, rfl⟩ := HC.out.addr (chs_ne (by omega))
      obtain ⟨g0, g1, g2⟩ := chs_get hx
      have c0 := cell_keep (HC.out.at g0) hbr (Nat.le_refl _)
      have c1 := cell_keep (HC.out.at g1) hbr (Nat.le_refl _)
      have c2 := cell_keep (HC.out.at g2) hbr (Nat.le_refl _)
      rw [← Nat.add_assoc] at c1 c2
      have hns := HN.out c (List.mem_of_getElem? hx)
      have hst := bookTo_succ hx
      have HST := Lib.hid hst
      have hz := hbr.size
      have hba := hbr.alloc hz (.cells #[.string c.name, .int .i64 c.rate, .int .i64 c.bits] 106)
      have hbx := Blk.new wr 106 #[.string c.name, .int .i64 c.rate, .int .i64 c.bits]
      have HBX := Lib.hid hbx; have HBA := Lib.hid hba
      have hck := chanOK_ref c
      have HCK := Lib.hid hck
      have HOB : Hid ((inB 1 bs.length 16 && bookTo bs (k + 1)) = ((inB 1 bs.length 16 && bookTo bs k) && (chanOK c && !dupB (bs.take k) c))) := Lib.hid (by rw [HST.out, Bool.and_assoc])
      clear g0 g1 g2 hst hba hbx hck hx
      generalize hB : (inB 1 bs.length 16 && bookTo bs k) = B at *
      clear hB
      cases B
      · have HV : Hid ((false && chanOK c) = false) := Lib.hid rfl
        have HX6 := HBX; have HL6 := HBA
        go_wp2_with fail
        go_loopw [3, 6] (fun o j wi => ∃ m : Nat, m ≤ k ∧ j = .int .i64 m ∧ o = .bool ((false && chanOK c) && !dupB (bs.take m) c) ∧ Blk wi wr.heap.size 106 #[.string c.name, .int .i64 c.rate, .int .i64 c.bits] ∧ Below w.heap.size w wi) (fun _ j _ => k - (intOf j).toNat)
        case atStart => exact ⟨0, Nat.zero_le _, rfl, by first | (rw [HV.out]; simp [dupB]; done) | (rw [HV.out]; simp [dupB]; omega), HX6.out, HL6.out⟩
        case round =>
          clear HX6 HL6
          obtain ⟨m, hm, rfl, rfl, hbx, hbi⟩ := hrel
          by_cases hlt2 : m < k
          · obtain ⟨x, hxm⟩ := get_of_lt (show m < bs.length by omega)
            have e0 := cell_keep (HC.out.at (chs_get hxm).1) hbi (Nat.le_refl _)
            have e1 := hbx.c0
            have hds := dupB_succ (c := c) hxm
            have hnv : ((false && chanOK c) && !dupB (bs.take (m + 1)) c) = (((false && chanOK c) && !dupB (bs.take m) c) && !sameName x.name c.name) := by rw [hds]; cases chanOK c <;> simp
            have HNV := Lib.hid hnv; have HBX2 := Lib.hid hbx
            clear hds hnv hxm hbx
            generalize hq : ((false && chanOK c) && !dupB (bs.take m) c) = q at *
            clear hq HV
            have i1 : (m : Int) < bs.length := by omega
            have i2 : (0 : Int) ≤ m := by omega
            cases q
            · go_wp2_with fail
              go_quiet (fail)
              go_wp2
              go_roundw
              case rel => exact ⟨m + 1, by omega, by go_num, by rw [HNV.out]; rfl, HBX2.out, bel_drewN hbi _⟩
              case measure => simp [intOf]; omega
            · cases hs : sameName x.name c.name
              · have s1 : (x.name.toList == c.name.toList) = false := hs
                have s2 : (x.name.toList != c.name.toList) = true := by rw [bne, s1]; rfl
                have HNV2 := Lib.hid (HNV.out.trans (by rw [hs]; rfl) : ((false && chanOK c) && !dupB (bs.take (m + 1)) c) = true)
                clear HNV hs
                go_wp2_with fail
                go_quiet (fail)
                go_wp2
                go_roundw
                case rel => exact ⟨m + 1, by omega, by go_num, by rw [HNV2.out], HBX2.out, bel_drewN hbi _⟩
                case measure => simp [intOf]; omega
              · have s1 : (x.name.toList == c.name.toList) = true := hs
                have s2 : (x.name.toList != c.name.toList) = false := by rw [bne, s1]; rfl
                have HNV2 := Lib.hid (HNV.out.trans (by rw [hs]; rfl) : ((false && chanOK c) && !dupB (bs.take (m + 1)) c) = false)
                clear HNV hs
                go_wp2_with fail
                go_quiet (fail)
                go_wp2
                go_roundw
                case rel => exact ⟨m + 1, by omega, by go_num, by rw [HNV2.out], HBX2.out, bel_drewN hbi _⟩
                case measure => simp [intOf]; omega
          · obtain rfl : m = k := by omega
            have HOB2 := Lib.hid (HOB.out.trans (by rw [Bool.and_assoc]) : (inB 1 bs.length 16 && bookTo bs (m + 1)) = ((false && chanOK c) && !dupB (bs.take m) c))
            clear HV
            go_wp2
            go_roundw
            case rel => exact ⟨m + 1, by omega, by go_num, by rw [HOB2.out], hbi⟩
            case measure => simp [intOf]; omega
      · cases hA : nameOK c.name
        · have HV : Hid ((true && chanOK c) = false) := Lib.hid (by rw [HCK.out, hA]; rfl)
          have HX6 := HBX; have HL6 := HBA
          have HAA := Lib.hid hA; clear hA
          go_wp2_with fail
          refine (refIsName_any c.name _ hns).mono ?_
          rintro e w' ⟨rfl, rfl⟩
          rw [HAA.out]
          go_wp2_with fail
          go_loopw [3, 6] (fun o j wi => ∃ m : Nat, m ≤ k ∧ j = .int .i64 m ∧ o = .bool ((true && chanOK c) && !dupB (bs.take m) c) ∧ Blk wi wr.heap.size 106 #[.string c.name, .int .i64 c.rate, .int .i64 c.bits] ∧ Below w.heap.size w wi) (fun _ j _ => k - (intOf j).toNat)
          case atStart => exact ⟨0, Nat.zero_le _, rfl, by first | (rw [HV.out]; simp [dupB]; done) | (rw [HV.out]; simp [dupB]; omega), HX6.out, HL6.out⟩
          case round =>
            clear HX6 HL6
            obtain ⟨m, hm, rfl, rfl, hbx, hbi⟩ := hrel
            by_cases hlt2 : m < k
            · obtain ⟨x, hxm⟩ := get_of_lt (show m < bs.length by omega)
              have e0 := cell_keep (HC.out.at (chs_get hxm).1) hbi (Nat.le_refl _)
              have e1 := hbx.c0
              have hds := dupB_succ (c := c) hxm
              have hnv : ((true && chanOK c) && !dupB (bs.take (m + 1)) c) = (((true && chanOK c) && !dupB (bs.take m) c) && !sameName x.name c.name) := by rw [hds]; cases chanOK c <;> simp
              have HNV := Lib.hid hnv; have HBX2 := Lib.hid hbx
              clear hds hnv hxm hbx
              generalize hq : ((true && chanOK c) && !dupB (bs.take m) c) = q at *
              clear hq HV
              have i1 : (m : Int) < bs.length := by omega
              have i2 : (0 : Int) ≤ m := by omega
              cases q
              · go_wp2_with fail
                go_quiet (fail)
                go_wp2
                go_roundw
                case rel => exact ⟨m + 1, by omega, by go_num, by rw [HNV.out]; rfl, HBX2.out, bel_drewN hbi _⟩
                case measure => simp [intOf]; omega
              · cases hs : sameName x.name c.name
                · have s1 : (x.name.toList == c.name.toList) = false := hs
                  have s2 : (x.name.toList != c.name.toList) = true := by rw [bne, s1]; rfl
                  have HNV2 := Lib.hid (HNV.out.trans (by rw [hs]; rfl) : ((true && chanOK c) && !dupB (bs.take (m + 1)) c) = true)
                  clear HNV hs
                  go_wp2_with fail
                  go_quiet (fail)
                  go_wp2
                  go_roundw
                  case rel => exact ⟨m + 1, by omega, by go_num, by rw [HNV2.out], HBX2.out, bel_drewN hbi _⟩
                  case measure => simp [intOf]; omega
                · have s1 : (x.name.toList == c.name.toList) = true := hs
                  have s2 : (x.name.toList != c.name.toList) = false := by rw [bne, s1]; rfl
                  have HNV2 := Lib.hid (HNV.out.trans (by rw [hs]; rfl) : ((true && chanOK c) && !dupB (bs.take (m + 1)) c) = false)
                  clear HNV hs
                  go_wp2_with fail
                  go_quiet (fail)
                  go_wp2
                  go_roundw
                  case rel => exact ⟨m + 1, by omega, by go_num, by rw [HNV2.out], HBX2.out, bel_drewN hbi _⟩
                  case measure => simp [intOf]; omega
            · obtain rfl : m = k := by omega
              have HOB2 := Lib.hid (HOB.out.trans (by rw [Bool.and_assoc]) : (inB 1 bs.length 16 && bookTo bs (m + 1)) = ((true && chanOK c) && !dupB (bs.take m) c))
              clear HV
              go_wp2
              go_roundw
              case rel => exact ⟨m + 1, by omega, by go_num, by rw [HOB2.out], hbi⟩
              case measure => simp [intOf]; omega
        · have HAA := Lib.hid hA
          cases hBb : inB 2 c.bits 24
          · have HV : Hid ((true && chanOK c) = false) := Lib.hid (by rw [HCK.out, hA, hBb]; rfl)
            have HX6 := HBX; have HL6 := HBA
            have HBB := Lib.hid hBb; clear hA hBb
            go_wp2_with fail
            refine (refIsName_any c.name _ hns).mono ?_
            rintro e w' ⟨rfl, rfl⟩
            rw [HAA.out]
            go_wp2_with fail
            refine (in_any _ _ _ _).mono ?_
            rintro e w' ⟨rfl, rfl⟩
            rw [HBB.out]
            go_wp2_with fail
            go_loopw [3, 6] (fun o j wi => ∃ m : Nat, m ≤ k ∧ j = .int .i64 m ∧ o = .bool ((true && chanOK c) && !dupB (bs.take m) c) ∧ Blk wi wr.heap.size 106 #[.string c.name, .int .i64 c.rate, .int .i64 c.bits] ∧ Below w.heap.size w wi) (fun _ j _ => k - (intOf j).toNat)
            case atStart => exact ⟨0, Nat.zero_le _, rfl, by first | (rw [HV.out]; simp [dupB]; done) | (rw [HV.out]; simp [dupB]; omega), HX6.out, HL6.out⟩
            case round =>
              clear HX6 HL6
              obtain ⟨m, hm, rfl, rfl, hbx, hbi⟩ := hrel
              by_cases hlt2 : m < k
              · obtain ⟨x, hxm⟩ := get_of_lt (show m < bs.length by omega)
                have e0 := cell_keep (HC.out.at (chs_get hxm).1) hbi (Nat.le_refl _)
                have e1 := hbx.c0
                have hds := dupB_succ (c := c) hxm
                have hnv : ((true && chanOK c) && !dupB (bs.take (m + 1)) c) = (((true && chanOK c) && !dupB (bs.take m) c) && !sameName x.name c.name) := by rw [hds]; cases chanOK c <;> simp
                have HNV := Lib.hid hnv; have HBX2 := Lib.hid hbx
                clear hds hnv hxm hbx
                generalize hq : ((true && chanOK c) && !dupB (bs.take m) c) = q at *
                clear hq HV
                have i1 : (m : Int) < bs.length := by omega
                have i2 : (0 : Int) ≤ m := by omega
                cases q
                · go_wp2_with fail
                  go_quiet (fail)
                  go_wp2
                  go_roundw
                  case rel => exact ⟨m + 1, by omega, by go_num, by rw [HNV.out]; rfl, HBX2.out, bel_drewN hbi _⟩
                  case measure => simp [intOf]; omega
                · cases hs : sameName x.name c.name
                  · have s1 : (x.name.toList == c.name.toList) = false := hs
                    have s2 : (x.name.toList != c.name.toList) = true := by rw [bne, s1]; rfl
                    have HNV2 := Lib.hid (HNV.out.trans (by rw [hs]; rfl) : ((true && chanOK c) && !dupB (bs.take (m + 1)) c) = true)
                    clear HNV hs
                    go_wp2_with fail
                    go_quiet (fail)
                    go_wp2
                    go_roundw
                    case rel => exact ⟨m + 1, by omega, by go_num, by rw [HNV2.out], HBX2.out, bel_drewN hbi _⟩
                    case measure => simp [intOf]; omega
                  · have s1 : (x.name.toList == c.name.toList) = true := hs
                    have s2 : (x.name.toList != c.name.toList) = false := by rw [bne, s1]; rfl
                    have HNV2 := Lib.hid (HNV.out.trans (by rw [hs]; rfl) : ((true && chanOK c) && !dupB (bs.take (m + 1)) c) = false)
                    clear HNV hs
                    go_wp2_with fail
                    go_quiet (fail)
                    go_wp2
                    go_roundw
                    case rel => exact ⟨m + 1, by omega, by go_num, by rw [HNV2.out], HBX2.out, bel_drewN hbi _⟩
                    case measure => simp [intOf]; omega
              · obtain rfl : m = k := by omega
                have HOB2 := Lib.hid (HOB.out.trans (by rw [Bool.and_assoc]) : (inB 1 bs.length 16 && bookTo bs (m + 1)) = ((true && chanOK c) && !dupB (bs.take m) c))
                clear HV
                go_wp2
                go_roundw
                case rel => exact ⟨m + 1, by omega, by go_num, by rw [HOB2.out], hbi⟩
                case measure => simp [intOf]; omega
          · have HV : Hid ((true && chanOK c) = pow2B c.rate) := Lib.hid (by rw [HCK.out, hA, hBb]; rfl)
            have HX6 := Lib.hid (HBX.out.alloc (.cells #[.int .i64 1, .int .i64 2, .int .i64 4, .int .i64 8, .int .i64 16, .int .i64 32, .int .i64 64] 3))
            have HL6 := Lib.hid (HBA.out.alloc HBA.out.size (.cells #[.int .i64 1, .int .i64 2, .int .i64 4, .int .i64 8, .int .i64 16, .int .i64 32, .int .i64 64] 3))
            have HBB := Lib.hid hBb; clear hA hBb
            go_wp2_with fail
            refine (refIsName_any c.name _ hns).mono ?_
            rintro e w' ⟨rfl, rfl⟩
            rw [HAA.out]
            go_wp2_with fail
            refine (in_any _ _ _ _).mono ?_
            rintro e w' ⟨rfl, rfl⟩
            rw [HBB.out]
            go_wp2_with fail
            have hlit := new_lit (wr.alloc (.cells #[.string c.name, .int .i64 c.rate, .int .i64 c.bits] 106))
            rw [World.size_alloc] at hlit
            refine (refFind_any _ [1, 2, 4, 8, 16, 32, 64] 7 c.rate _ hlit (by decide)).mono ?_
            rintro e w' ⟨⟨r, rfl, hr⟩, rfl⟩
            rw [pow2_mem] at hr
            cases hp : pow2B c.rate
            · have hr0 : ¬ 0 ≤ r := fun h => by have := hr.1 h; rw [hp] at this; cases this
              rw [hp] at HV
              clear hr hlit hp
              go_wp2_with fail
              go_loopw [3, 6] (fun o j wi => ∃ m : Nat, m ≤ k ∧ j = .int .i64 m ∧ o = .bool ((true && chanOK c) && !dupB (bs.take m) c) ∧ Blk wi wr.heap.size 106 #[.string c.name, .int .i64 c.rate, .int .i64 c.bits] ∧ Below w.heap.size w wi) (fun _ j _ => k - (intOf j).toNat)
              case atStart => exact ⟨0, Nat.zero_le _, rfl, by first | (rw [HV.out]; simp [dupB]; done) | (rw [HV.out]; simp [dupB]; omega), HX6.out, HL6.out⟩
              case round =>
                clear HX6 HL6
                obtain ⟨m, hm, rfl, rfl, hbx, hbi⟩ := hrel
                by_cases hlt2 : m < k
                · obtain ⟨x, hxm⟩ := get_of_lt (show m < bs.length by omega)
                  have e0 := cell_keep (HC.out.at (chs_get hxm).1) hbi (Nat.le_refl _)
                  have e1 := hbx.c0
                  have hds := dupB_succ (c := c) hxm
                  have hnv : ((true && chanOK c) && !dupB (bs.take (m + 1)) c) = (((true && chanOK c) && !dupB (bs.take m) c) && !sameName x.name c.name) := by rw [hds]; cases chanOK c <;> simp
                  have HNV := Lib.hid hnv; have HBX2 := Lib.hid hbx
                  clear hds hnv hxm hbx
                  generalize hq : ((true && chanOK c) && !dupB (bs.take m) c) = q at *
                  clear hq HV
                  have i1 : (m : Int) < bs.length := by omega
                  have i2 : (0 : Int) ≤ m := by omega
                  cases q
                  · go_wp2_with fail
                    go_quiet (fail)
                    go_wp2
                    go_roundw
                    case rel => exact ⟨m + 1, by omega, by go_num, by rw [HNV.out]; rfl, HBX2.out, bel_drewN hbi _⟩
                    case measure => simp [intOf]; omega
                  · cases hs : sameName x.name c.name
                    · have s1 : (x.name.toList == c.name.toList) = false := hs
                      have s2 : (x.name.toList != c.name.toList) = true := by rw [bne, s1]; rfl
                      have HNV2 := Lib.hid (HNV.out.trans (by rw [hs]; rfl) : ((true && chanOK c) && !dupB (bs.take (m + 1)) c) = true)
                      clear HNV hs
                      go_wp2_with fail
                      go_quiet (fail)
                      go_wp2
                      go_roundw
                      case rel => exact ⟨m + 1, by omega, by go_num, by rw [HNV2.out], HBX2.out, bel_drewN hbi _⟩
                      case measure => simp [intOf]; omega
                    · have s1 : (x.name.toList == c.name.toList) = true := hs
                      have s2 : (x.name.toList != c.name.toList) = false := by rw [bne, s1]; rfl
                      have HNV2 := Lib.hid (HNV.out.trans (by rw [hs]; rfl) : ((true && chanOK c) && !dupB (bs.take (m + 1)) c) = false)
                      clear HNV hs
                      go_wp2_with fail
                      go_quiet (fail)
                      go_wp2
                      go_roundw
                      case rel => exact ⟨m + 1, by omega, by go_num, by rw [HNV2.out], HBX2.out, bel_drewN hbi _⟩
                      case measure => simp [intOf]; omega
                · obtain rfl : m = k := by omega
                  have HOB2 := Lib.hid (HOB.out.trans (by rw [Bool.and_assoc]) : (inB 1 bs.length 16 && bookTo bs (m + 1)) = ((true && chanOK c) && !dupB (bs.take m) c))
                  clear HV
                  go_wp2
                  go_roundw
                  case rel => exact ⟨m + 1, by omega, by go_num, by rw [HOB2.out], hbi⟩
                  case measure => simp [intOf]; omega
            · have hr0 : 0 ≤ r := hr.2 hp
              rw [hp] at HV
              clear hr hlit hp
              go_wp2_with fail
              go_loopw [3, 6] (fun o j wi => ∃ m : Nat, m ≤ k ∧ j = .int .i64 m ∧ o = .bool ((true && chanOK c) && !dupB (bs.take m) c) ∧ Blk wi wr.heap.size 106 #[.string c.name, .int .i64 c.rate, .int .i64 c.bits] ∧ Below w.heap.size w wi) (fun _ j _ => k - (intOf j).toNat)
              case atStart => exact ⟨0, Nat.zero_le _, rfl, by first | (rw [HV.out]; simp [dupB]; done) | (rw [HV.out]; simp [dupB]; omega), HX6.out, HL6.out⟩
              case round =>
                clear HX6 HL6
                obtain ⟨m, hm, rfl, rfl, hbx, hbi⟩ := hrel
                by_cases hlt2 : m < k
                · obtain ⟨x, hxm⟩ := get_of_lt (show m < bs.length by omega)
                  have e0 := cell_keep (HC.out.at (chs_get hxm).1) hbi (Nat.le_refl _)
                  have e1 := hbx.c0
                  have hds := dupB_succ (c := c) hxm
                  have hnv : ((true && chanOK c) && !dupB (bs.take (m + 1)) c) = (((true && chanOK c) && !dupB (bs.take m) c) && !sameName x.name c.name) := by rw [hds]; cases chanOK c <;> simp
                  have HNV := Lib.hid hnv; have HBX2 := Lib.hid hbx
                  clear hds hnv hxm hbx
                  generalize hq : ((true && chanOK c) && !dupB (bs.take m) c) = q at *
                  clear hq HV
                  have i1 : (m : Int) < bs.length := by omega
                  have i2 : (0 : Int) ≤ m := by omega
                  cases q
                  · go_wp2_with fail
                    go_quiet (fail)
                    go_wp2
                    go_roundw
                    case rel => exact ⟨m + 1, by omega, by go_num, by rw [HNV.out]; rfl, HBX2.out, bel_drewN hbi _⟩
                    case measure => simp [intOf]; omega
                  · cases hs : sameName x.name c.name
                    · have s1 : (x.name.toList == c.name.toList) = false := hs
                      have s2 : (x.name.toList != c.name.toList) = true := by rw [bne, s1]; rfl
                      have HNV2 := Lib.hid (HNV.out.trans (by rw [hs]; rfl) : ((true && chanOK c) && !dupB (bs.take (m + 1)) c) = true)
                      clear HNV hs
                      go_wp2_with fail
                      go_quiet (fail)
                      go_wp2
                      go_roundw
                      case rel => exact ⟨m + 1, by omega, by go_num, by rw [HNV2.out], HBX2.out, bel_drewN hbi _⟩
                      case measure => simp [intOf]; omega
                    · have s1 : (x.name.toList == c.name.toList) = true := hs
                      have s2 : (x.name.toList != c.name.toList) = false := by rw [bne, s1]; rfl
                      have HNV2 := Lib.hid (HNV.out.trans (by rw [hs]; rfl) : ((true && chanOK c) && !dupB (bs.take (m + 1)) c) = false)
                      clear HNV hs
                      go_wp2_with fail
                      go_quiet (fail)
                      go_wp2
                      go_roundw
                      case rel => exact ⟨m + 1, by omega, by go_num, by rw [HNV2.out], HBX2.out, bel_drewN hbi _⟩
                      case measure => simp [intOf]; omega
                · obtain rfl : m = k := by omega
                  have HOB2 := Lib.hid (HOB.out.trans (by rw [Bool.and_assoc]) : (inB 1 bs.length 16 && bookTo bs (m + 1)) = ((true && chanOK c) && !dupB (bs.take m) c))
                  clear HV
                  go_wp2
                  go_roundw
                  case rel => exact ⟨m + 1, by omega, by go_num, by rw [HOB2.out], hbi⟩
                  case measure => simp [intOf]; omega
    · obtain rfl : k = bs.length := by omega
      have hf : bookErr bs = if (inB 1 bs.length 16 && bookTo bs bs.length) then 0 else 50 := rfl
      have HF := Lib.hid hf; clear hf
      generalize (inB 1 bs.length 16 && bookTo bs bs.length) = o at *
      cases o
      · go_wp2
        go_ret
        exact ⟨ret_int (by rw [HF.out]; rfl), hbr⟩
      · go_wp2
        go_ret
        exact ⟨ret_int (by rw [HF.out]; rfl), hbr⟩
end Go.Proofs.YtoochleabcjljaaGreatDoor

/- Records: slices of frames; CheckRecord, between. -/
namespace Go.Proofs.YtoochleabcjljaaGreatDoor
open Go.RowKit

/-- a frame, and where its samples lie -/
structure Frm where
  st : Int
  a : Option Addr
  c : Nat
  xss : List (List Int)
/-- frames, cell by cell -/
def frs (l : List Frm) : List Value := l.flatMap fun f => [.int .i64 f.st, .slice f.a f.xss.length f.c]
theorem frs_cons (t : Frm) (l : List Frm) : frs (t :: l) = .int .i64 t.st :: .slice t.a t.xss.length t.c :: frs l := rfl
theorem frs_length (l : List Frm) : (frs l).length = l.length * 2 := by
  induction l with
  | nil => rfl
  | cons t l ih => simp only [frs_cons, List.length_cons, ih]; omega
theorem frs_get {l : List Frm} {i : Nat} {t : Frm} (h : l[i]? = some t) : (frs l)[i * 2]? = some (.int .i64 t.st) ∧ (frs l)[i * 2 + 1]? = some (.slice t.a t.xss.length t.c) := by
  induction l generalizing i with
  | nil => simp at h
  | cons s l ih =>
    cases i with
    | zero => simp at h; subst h; simp [frs_cons]
    | succ i =>
      have e : (i + 1) * 2 = i * 2 + 1 + 1 := by omega
      have e1 : (i + 1) * 2 + 1 = i * 2 + 1 + 1 + 1 := by omega
      rw [frs_cons, e1, e]
      simp only [List.getElem?_cons_succ]
      exact ih (by simpa using h)
theorem frs_ne {l : List Frm} (h : 0 < l.length) : frs l ≠ [] := by
  intro e; have := frs_length l; rw [e] at this; simp at this; omega

/-- the samples of a frame lie where it says -/
def FrmIn (w : World) (f : Frm) : Prop := f.xss.length ≤ 9223372036854775807 ∧ ∃ vs, Cells w f.a vs ∧ RowsV w vs f.xss
theorem FrmIn.below {w w' : World} {B : Nat} {f : Frm} (h : FrmIn w f) (hb : Below B w w') (hB : w.heap.size ≤ B) : FrmIn w' f := by
  obtain ⟨h0, vs, h1, h2⟩ := h; exact ⟨h0, vs, h1.below hb hB, h2.below hb hB⟩
structure RecIn (w : World) (al : Option Addr) (l : List Frm) : Prop where
  cells : Cells w al (frs l)
  len : l.length ≤ 9223372036854775807
  rows : ∀ f ∈ l, FrmIn w f
theorem RecIn.below {w w' : World} {B : Nat} {al : Option Addr} {l : List Frm} (h : RecIn w al l) (hb : Below B w w') (hB : w.heap.size ≤ B) : RecIn w' al l :=
  ⟨h.cells.below hb hB, h.len, fun f hf => (h.rows f hf).below hb hB⟩

set_option maxRecDepth 100000 in
/-- slices.IndexFunc over frames -/
theorem indexFunc_frms (F : FuncId) (capd : Array Value) (p : Frm → Bool) (ao : Option Addr) (xs : List Frm) (cap : Nat) (w : World) (hc : Cells w ao (frs xs)) (hl : xs.length ≤ 9223372036854775807)
    (hcf : ∀ (vs : Array Value) (wx : World), Sem.run Tryz.prog (callFunc F vs) wx = .ok (.enter F vs) wx)
    (hF : ∀ x wx, x ∈ xs → Below w.heap.size w wx → Calls Tryz.prog F (#[.agg #[.int .i64 x.st, .slice x.a x.xss.length x.c]] ++ capd) wx fun e w' => e = .returned (.bool (p x)) ∧ Below wx.heap.size wx w') :
    Calls Tryz.prog 120 #[.slice ao xs.length cap, .func (.func F) #[] capd] w fun e w' => (∃ r : Int, e = .returned (.int .i64 r) ∧ (0 ≤ r ↔ xs.any p = true)) ∧ Below w.heap.size w w' := by
  go_enter Tryz.func120, Tryz.ntmps120
  go_wp2
  go_loopw [8] (fun i wr => ∃ k : Nat, k ≤ xs.length ∧ i = .int .i64 k ∧ (xs.take k).any p = false ∧ Below w.heap.size w wr) (fun i _ => xs.length - (intOf i).toNat)
  case atStart => exact ⟨0, Nat.zero_le _, rfl, rfl, Below.refl _ _⟩
  case round =>
    obtain ⟨k, hk, rfl, hany, hb⟩ := hrel
    by_cases hlt : k < xs.length
    · obtain ⟨x, hx⟩ := get_of_lt hlt
      obtain ⟨b, off, rfl⟩ := hc.addr (frs_ne (by omega))
      obtain ⟨g0, g1⟩ := frs_get hx
      have hcell1 := cell_keep (hc.at g0) hb (Nat.le_refl _)
      have hcell2 := cell_keep (hc.at g1) hb (Nat.le_refl _)
      rw [← Nat.add_assoc] at hcell2
      clear g0 g1
      have HX := Lib.hid hx; clear hx
      have HC := Lib.hid hc; clear hc
      have HF := Lib.hid hF; clear hF
      have HA := Lib.hid hany; clear hany
      go_wp2_with fail
      refine (HF.out x wr (List.mem_of_getElem? HX.out) hb).mono ?_
      rintro e w1 ⟨rfl, hb1⟩
      have hb2 := hb.trans (hb1.mono hb.size)
      clear hb1
      by_cases hp : p x = true
      · go_wp2
        go_ret
        refine ⟨⟨_, rfl, ?_⟩, hb2⟩
        simp only [Int.natCast_nonneg, true_iff, List.any_eq_true]
        exact ⟨x, List.mem_of_getElem? HX.out, hp⟩
      · simp only [Bool.not_eq_true] at hp
        go_wp2
        go_roundw
        case rel => exact ⟨k + 1, by omega, by go_num, by rw [take_get HX.out, List.any_append, HA.out]; simp [hp], hb2⟩
        case measure => simp [intOf]; omega
    · obtain rfl : k = xs.length := by omega
      rw [List.take_length] at hany
      have HA := Lib.hid hany; clear hany
      go_wp2
      go_ret
      exact ⟨⟨_, rfl, by rw [HA.out]; simp⟩, hb⟩

set_option maxRecDepth 100000 in
theorem containsFunc_frms (F : FuncId) (capd : Array Value) (p : Frm → Bool) (ao : Option Addr) (xs : List Frm) (cap : Nat) (w : World) (hc : Cells w ao (frs xs)) (hl : xs.length ≤ 9223372036854775807)
    (hcf : ∀ (vs : Array Value) (wx : World), Sem.run Tryz.prog (callFunc F vs) wx = .ok (.enter F vs) wx)
    (hF : ∀ x wx, x ∈ xs → Below w.heap.size w wx → Calls Tryz.prog F (#[.agg #[.int .i64 x.st, .slice x.a x.xss.length x.c]] ++ capd) wx fun e w' => e = .returned (.bool (p x)) ∧ Below wx.heap.size wx w') :
    Calls Tryz.prog 73 #[.slice ao xs.length cap, .func (.func F) #[] capd] w fun e w' => e = .returned (.bool (xs.any p)) ∧ Below w.heap.size w w' := by
  have HC := Lib.hid hc; clear hc
  have HF := Lib.hid hF; clear hF
  have HCF := Lib.hid hcf; clear hcf
  go_enter Tryz.func73, Tryz.ntmps73
  go_wp2_with fail
  refine (indexFunc_frms F capd p ao xs cap w HC.out hl HCF.out HF.out).mono ?_
  rintro e w1 ⟨⟨r, rfl, hr⟩, hb⟩
  have HR := Lib.hid hr; clear hr
  go_wp2
  go_ret
  exact ⟨ret_bool (by rw [Bool.eq_iff_iff, decide_eq_true_iff]; exact HR.out), hb⟩

theorem checkRecord1_any (ao : Option Addr) (bs : List Chan) (cap : Nat) (bc : Nat) (x : Frm) (w : World) (hc : w.cell? ⟨bc, 0, none⟩ = some (.slice ao bs.length cap)) (hb : Cells w ao (chs bs)) (hl : bs.length ≤ 9223372036854775807) (hx : FrmIn w x) (hbk : bookOK bs = true) :
    Calls Tryz.prog 74 #[.agg #[.int .i64 x.st, .slice x.a x.xss.length x.c], .pointer (some ⟨bc, 0, none⟩)] w fun e w' => e = .returned (.bool (!frOK bs x.st x.xss)) ∧ Below w.heap.size w w' := by
  have hb0 := (Below.refl w.heap.size w).alloc (Nat.le_refl _) (.cells #[.int .i64 x.st, .slice x.a x.xss.length x.c] 43)
  have hc1 := cell_keep hc hb0 (Nat.le_refl _)
  obtain ⟨h0, vs, h1, h2⟩ := hx
  have hfr := frameOK_any ao bs cap x.st x.a vs x.xss x.c _ (hb.below hb0 (Nat.le_refl _)) hl (h1.below hb0 (Nat.le_refl _)) (h2.below hb0 (Nat.le_refl _)) h0 hbk
  have HFR := Lib.hid hfr
  have H1 := Lib.hid h1; have H2 := Lib.hid h2; have HB := Lib.hid hb
  clear hfr h1 h2 hb hc
  go_enter Tryz.func74, Tryz.ntmps74
  go_wp2_with fail
  refine HFR.out.mono ?_
  rintro e w1 ⟨rfl, hb1⟩
  have hf := hb0.trans (hb1.mono hb0.size)
  go_wp2
  go_ret
  exact ⟨rfl, hf⟩

/-- the seconds go up -/
def upTo (l : List Frm) : Nat → Bool
  | 0 => true
  | k + 1 => upTo l k && (decide (k = 0) || decide ((l.getD (k - 1) ⟨0, none, 0, []⟩).st < (l.getD k ⟨0, none, 0, []⟩).st))
def recErr (bs : List Chan) (l : List Frm) : Int :=
  if bookErr bs ≠ 0 then bookErr bs else if 64 < l.length then 3 else if l.any fun f => !frOK bs f.st f.xss then 51 else if upTo l l.length = false then 52 else 0
theorem upTo_false {l : List Frm} {k : Nat} (h : upTo l k = false) {n : Nat} (hn : k ≤ n) : upTo l n = false := by
  induction n with
  | zero => obtain rfl : k = 0 := by omega
            exact h
  | succ n ih =>
    by_cases hk : k ≤ n
    · simp [upTo, ih hk]
    · obtain rfl : k = n + 1 := by omega
      exact h

set_option maxRecDepth 100000 in
set_option maxHeartbeats 1000000 in
theorem checkRecord_any (ao : Option Addr) (bs : List Chan) (cap : Nat) (al : Option Addr) (l : List Frm) (cl : Nat) (w : World) (hb : BookIn w ao bs cap) (hr : RecIn w al l) :
    Calls Tryz.prog 28 #[.slice ao bs.length cap, .slice al l.length cl] w fun e w' => e = .returned (.int .i64 (recErr bs l)) ∧ Below w.heap.size w w' := by
  have HB := Lib.hid hb; have HR := Lib.hid hr
  have hll := hr.len
  clear hb hr
  have hb0 := (Below.refl w.heap.size w).alloc (Nat.le_refl _) (.cells #[.slice ao bs.length cap] 37)
  have hck := fun wx (h : BookIn wx ao bs cap) => checkBook_any ao bs cap wx h.cells (by have := h.len; omega) h.lecap h.cap2 h.names h.rates
  have HCK := Lib.hid hck; clear hck
  by_cases h1 : bookErr bs = 0
  · have hok := bookErr_zero h1
    by_cases h2 : 64 < l.length
    · have he : recErr bs l = 3 := by simp [recErr, h1, h2]
      have HE := Lib.hid he; have H1 := Lib.hid h1
      clear he h1 hok
      go_enter Tryz.func28, Tryz.ntmps28
      go_wp2_with fail
      refine (HCK.out _ (HB.out.below hb0 (Nat.le_refl _))).mono ?_
      rintro e w1 ⟨rfl, hb1⟩
      rw [H1.out]
      have hf := hb0.trans (hb1.mono hb0.size)
      go_wp2
      go_ret
      exact ⟨ret_int HE.out.symm, hf⟩
    · have HOK := Lib.hid hok; have H1 := Lib.hid h1
      cases h3 : l.any fun f => !frOK bs f.st f.xss
      · have he : recErr bs l = if upTo l l.length = false then 52 else 0 := by rw [recErr, if_neg (by simpa using h1), if_neg h2, h3]; rfl
        have HE := Lib.hid he; have H3 := Lib.hid h3
        clear he h1 hok h3
        go_enter Tryz.func28, Tryz.ntmps28
        go_wp2_with fail
        refine (HCK.out _ (HB.out.below hb0 (Nat.le_refl _))).mono ?_
        rintro e w1 ⟨rfl, hb1⟩
        rw [H1.out]
        have hf := hb0.trans (hb1.mono hb0.size)
        have q0 : w1.cell? ⟨w.heap.size, 0, none⟩ = some (.slice ao bs.length cap) := box_keep hb1 (by simp) 0
        have HR1 := Lib.hid (HR.out.below hf (Nat.le_refl _))
        have HB1 := Lib.hid (HB.out.below hf (Nat.le_refl _))
        clear hb1
        go_wp2_with fail
        refine (containsFunc_frms 74 #[.pointer (some ⟨w.heap.size, 0, none⟩)] (fun f => !frOK bs f.st f.xss) al l cl w1 HR1.out.cells (by omega) (fun _ _ => by kernel_rfl) (fun x wx hx hbx => checkRecord1_any ao bs cap w.heap.size x wx (cell_keep q0 hbx (Nat.le_refl _)) (HB1.out.cells.below hbx (Nat.le_refl _)) HB1.out.len ((HR1.out.rows x hx).below hbx (Nat.le_refl _)) HOK.out)).mono ?_
        rintro e w2 ⟨rfl, hb2⟩
        rw [H3.out]
        have hf2 := hf.trans (hb2.mono hf.size)
        have HR2 := Lib.hid (HR1.out.below hb2 (Nat.le_refl _))
        have hrf := Below.refl w2.heap.size w2
        have HF2 := Lib.hid hf2
        clear hb2 hf hf2 q0
        go_wp2
        go_loopw [20] (fun i wr => ∃ k : Nat, k ≤ l.length ∧ i = .int .i64 k ∧ upTo l k = true ∧ Below w2.heap.size w2 wr) (fun i _ => l.length - (intOf i).toNat)
        case atStart => exact ⟨0, Nat.zero_le _, rfl, rfl, hrf⟩
        case round =>
          clear hrf
          obtain ⟨k, hk, rfl, hup, hbr⟩ := hrel
          have HU := Lib.hid hup; clear hup
          by_cases hlt : k < l.length
          · obtain ⟨y, hy⟩ := get_of_lt hlt
            obtain ⟨bl, ol, rfl⟩ := HR2.out.cells.addr (frs_ne (by omega))
            have c1 := cell_keep (HR2.out.cells.at (frs_get hy).1) hbr (Nat.le_refl _)
            have hyd : l.getD k ⟨0, none, 0, []⟩ = y := by rw [List.getD_eq_getElem?_getD, hy]; rfl
            by_cases h0 : k = 0
            · subst h0
              have hst : upTo l (0 + 1) = true := by simp [upTo]
              have HST := Lib.hid hst
              clear hst hyd hy
              rw [show ((0 : Nat) : Int) = 0 from rfl]
              have d0 : decide ((0 : Int) < 0) = false := by decide
              go_wp2_with fail
              go_quiet (fail)
              go_wp2
              go_roundw
              case rel => exact ⟨0 + 1, by omega, by go_num, HST.out, bel_drewN hbr _⟩
              case measure => simp [intOf]; omega
            · obtain ⟨x, hx⟩ := get_of_lt (show k - 1 < l.length by omega)
              have c0 := cell_keep (HR2.out.cells.at (frs_get hx).1) hbr (Nat.le_refl _)
              have hxd : l.getD (k - 1) ⟨0, none, 0, []⟩ = x := by rw [List.getD_eq_getElem?_getD, hx]; rfl
              have hst : upTo l (k + 1) = decide (x.st < y.st) := by rw [upTo, HU.out, hxd, hyd]; simp [h0]
              have HST := Lib.hid hst
              clear hst hyd hy hx hxd
              have a1 : IntKind.i64.wrap ((k : Int) - 1) = (k : Int) - 1 := IntWalk.i64_in _ (by omega)
              have a2 : ((k : Int) - 1).toNat = k - 1 := by omega
              have a3 : (0 : Int) ≤ (k : Int) - 1 := by omega
              have a3' : (1 : Int) ≤ (k : Int) := by omega
              have a4 : (k : Int) - 1 < (l.length : Int) := by omega
              have a5 : (0 : Int) < k := by omega
              have d5 : decide (0 < k) = true := by simp; omega
              have a6 : (k : Int) < (l.length : Int) := by omega
              have a7 : (0 : Int) ≤ (k : Int) := by omega
              generalize x.st = xs at *
              generalize y.st = ys at *
              by_cases hxy : xs < ys
              · have d1 : decide (ys ≤ xs) = false := by simp; omega
                go_wp2_with fail
                go_quiet (fail)
                go_wp2
                go_roundw
                case rel => exact ⟨k + 1, by omega, by go_num, by rw [HST.out]; simpa using hxy, bel_drewN hbr _⟩
                case measure => simp [intOf]; omega
              · have d1 : decide (ys ≤ xs) = true := by simp; omega
                have hfl : upTo l l.length = false := upTo_false (k := k + 1) (by rw [HST.out]; simpa using hxy) (by omega)
                have HFL := Lib.hid hfl
                clear hfl
                go_wp2_with fail
                go_quiet (fail)
                go_wp2
                go_ret
                exact ⟨ret_int (by rw [HE.out, HFL.out]; rfl), HF2.out.trans ((bel_drewN hbr _).mono HF2.out.size)⟩
          · obtain rfl : k = l.length := by omega
            go_wp2
            go_ret
            exact ⟨ret_int (by rw [HE.out, HU.out]; rfl), HF2.out.trans (hbr.mono HF2.out.size)⟩
      · have he : recErr bs l = 51 := by rw [recErr, if_neg (by simpa using h1), if_neg h2, h3]; rfl
        have HE := Lib.hid he; have H3 := Lib.hid h3
        clear he h1 hok h3
        go_enter Tryz.func28, Tryz.ntmps28
        go_wp2_with fail
        refine (HCK.out _ (HB.out.below hb0 (Nat.le_refl _))).mono ?_
        rintro e w1 ⟨rfl, hb1⟩
        rw [H1.out]
        have hf := hb0.trans (hb1.mono hb0.size)
        have q0 : w1.cell? ⟨w.heap.size, 0, none⟩ = some (.slice ao bs.length cap) := box_keep hb1 (by simp) 0
        have HR1 := Lib.hid (HR.out.below hf (Nat.le_refl _))
        have HB1 := Lib.hid (HB.out.below hf (Nat.le_refl _))
        clear hb1
        go_wp2_with fail
        refine (containsFunc_frms 74 #[.pointer (some ⟨w.heap.size, 0, none⟩)] (fun f => !frOK bs f.st f.xss) al l cl w1 HR1.out.cells (by omega) (fun _ _ => by kernel_rfl) (fun x wx hx hbx => checkRecord1_any ao bs cap w.heap.size x wx (cell_keep q0 hbx (Nat.le_refl _)) (HB1.out.cells.below hbx (Nat.le_refl _)) HB1.out.len ((HR1.out.rows x hx).below hbx (Nat.le_refl _)) HOK.out)).mono ?_
        rintro e w2 ⟨rfl, hb2⟩
        rw [H3.out]
        have hf2 := hf.trans (hb2.mono hf.size)
        clear hb2 hf q0
        go_wp2
        go_ret
        exact ⟨ret_int HE.out.symm, hf2⟩
  · have he : recErr bs l = bookErr bs := by simp [recErr, h1]
    have h3 : (bookErr bs != 0) = true := by simpa using h1
    have h4 : (bookErr bs == 0) = false := by simpa using h1
    have HE := Lib.hid he; clear he
    go_enter Tryz.func28, Tryz.ntmps28
    go_wp2_with fail
    refine (HCK.out _ (HB.out.below hb0 (Nat.le_refl _))).mono ?_
    rintro e w1 ⟨rfl, hb1⟩
    have hf := hb0.trans (hb1.mono hb0.size)
    go_wp2
    go_ret
    exact ⟨ret_int HE.out.symm, hf⟩
end Go.Proofs.YtoochleabcjljaaGreatDoor

/- Records: between, Gaps. -/
namespace Go.Proofs.YtoochleabcjljaaGreatDoor
open Go.RowKit

def btwErr (bs : List Chan) (l : List Frm) (fr tt : Int) : Int := if recErr bs l ≠ 0 then recErr bs l else if fr < 0 ∨ tt < fr ∨ 1073741824 < tt then 8 else 0

set_option maxRecDepth 100000 in
theorem between_any (ao : Option Addr) (bs : List Chan) (cap : Nat) (al : Option Addr) (l : List Frm) (cl : Nat) (fr tt : Int) (w : World) (hb : BookIn w ao bs cap) (hr : RecIn w al l) :
    Calls Tryz.prog 77 #[.slice ao bs.length cap, .slice al l.length cl, .int .i64 fr, .int .i64 tt] w fun e w' => e = .returned (.int .i64 (btwErr bs l fr tt)) ∧ Below w.heap.size w w' := by
  have hck := checkRecord_any ao bs cap al l cl w hb hr
  have HCK := Lib.hid hck
  clear hck hb hr
  by_cases h1 : recErr bs l = 0
  · have H1 := Lib.hid h1
    have he : btwErr bs l fr tt = if fr < 0 ∨ tt < fr ∨ 1073741824 < tt then 8 else 0 := by rw [btwErr, if_neg (by simpa using h1)]
    have HE := Lib.hid he
    clear h1 he
    by_cases h2 : fr < 0
    · go_enter Tryz.func77, Tryz.ntmps77
      go_wp2_with fail
      refine HCK.out.mono ?_
      rintro e w1 ⟨rfl, hb1⟩
      rw [H1.out]
      go_wp2
      go_ret
      exact ⟨ret_int (by rw [HE.out, if_pos (.inl h2)]), hb1⟩
    · by_cases h3 : tt < fr
      · go_enter Tryz.func77, Tryz.ntmps77
        go_wp2_with fail
        refine HCK.out.mono ?_
        rintro e w1 ⟨rfl, hb1⟩
        rw [H1.out]
        go_wp2
        go_ret
        exact ⟨ret_int (by rw [HE.out, if_pos (.inr (.inl h3))]), hb1⟩
      · by_cases h4 : 1073741824 < tt
        · go_enter Tryz.func77, Tryz.ntmps77
          go_wp2_with fail
          refine HCK.out.mono ?_
          rintro e w1 ⟨rfl, hb1⟩
          rw [H1.out]
          go_wp2
          go_ret
          exact ⟨ret_int (by rw [HE.out, if_pos (.inr (.inr h4))]), hb1⟩
        · go_enter Tryz.func77, Tryz.ntmps77
          go_wp2_with fail
          refine HCK.out.mono ?_
          rintro e w1 ⟨rfl, hb1⟩
          rw [H1.out]
          go_wp2
          go_ret
          exact ⟨ret_int (by rw [HE.out, if_neg (by omega)]), hb1⟩
  · have he : btwErr bs l fr tt = recErr bs l := by simp [btwErr, h1]
    have h3 : (recErr bs l != 0) = true := by simpa using h1
    have h4 : (recErr bs l == 0) = false := by simpa using h1
    have HE := Lib.hid he; clear he
    go_enter Tryz.func77, Tryz.ntmps77
    go_wp2_with fail
    refine HCK.out.mono ?_
    rintro e w1 ⟨rfl, hb1⟩
    go_wp2
    go_ret
    exact ⟨ret_int HE.out.symm, hb1⟩

/-- one more span, if it is not empty -/
def addS (at_ : Int) (ss : List (Int × Int)) (e : Int) : List (Int × Int) := if at_ < e then ss ++ [(at_, e)] else ss
/-- the gaps till now: where the next one begins, and those that are done -/
structure GapS (base bA bO : Nat) (at_ : Int) (ss : List (Int × Int)) (v : Value) (w : World) : Prop where
  a : Blk w bA 3 #[.int .i64 at_]
  o : Blk w bO 54 #[v]
  own : w.ownsRow base 71 2 v ss.length (prs ss)

theorem Tryz.infoSpan : (Tryz.prog.info? 71).map (fun i => (i.zero, i.size, i.bytes)) = some (some (.agg #[.int .i64 0, .int .i64 0]), 2, 16) := by kernel_rfl
theorem blk_own_ne {w : World} {b base : Nat} {T e : TypeId} {cs : Array Value} {s n : Nat} {v : Value} {xs : List Value} (h : Blk w b T cs) (ho : w.ownsRow base e s v n xs) (hT : T ≠ e) : v.ownBlock ≠ some b := by
  intro hv
  rcases ho.2 with ⟨rfl, _⟩ | ⟨g, cap, cur, rfl, _, hg, _⟩
  · simp [Value.ownBlock] at hv
  · simp [Value.ownBlock] at hv
    subst hv
    rw [show w.heap[g]? = _ from h] at hg
    simp at hg
    exact hT hg.2

set_option maxRecDepth 100000 in
theorem gaps1_any (base bA bO : Nat) (hA : base ≤ bA) (hO : base ≤ bO) (hne : bA ≠ bO) (at_ e_ : Int) (ss : List (Int × Int)) (v : Value) (w : World) (h : GapS base bA bO at_ ss v w) (hl : ss.length ≤ 1000) :
    Calls Tryz.prog 78 #[.int .i64 e_, .pointer (some ⟨bA, 0, none⟩), .pointer (some ⟨bO, 0, none⟩)] w fun e w' => e = .returned (.tuple #[]) ∧ (∃ v', GapS base bA bO at_ (addS at_ ss e_) v' w') ∧ Below base w w' ∧ ∀ j, j < w.heap.size → j ≠ bO → v.ownBlock ≠ some j → w'.heap[j]? = w.heap[j]? := by
  have c1 := h.a.c0
  have c2 := h.o.c0
  have f2 := h.o.free 0
  have HG := Lib.hid h
  clear h
  by_cases hlt : at_ < e_
  · have hs : addS at_ ss e_ = ss ++ [(at_, e_)] := by rw [addS, if_pos hlt]
    have HS := Lib.hid hs; clear hs
    obtain ⟨i0, hi, hz0, hz1, hz2⟩ := info_parts Tryz.infoSpan
    have hsz : base ≤ w.heap.size := by have := HG.out.a.lt; omega
    have HOW := Lib.hid HG.out.own
    go_enter Tryz.func78, Tryz.ntmps78
    go_wp2_with (at_builtin; refine wpList_append_lies _ rfl _ _ _ rfl base 71 i0 (.agg #[.int .i64 0, .int .i64 0]) 2 16 Tryz.underlying54 hi hz0 hz1 hz2 rfl (by decide) v ss.length (prs ss) rfl (HOW.out.alloc _) ⟨w.heap.size, 0, none⟩ 1 1 [.int .i64 at_, .int .i64 e_] rfl rfl (World.news_of_block (cs := #[.int .i64 at_, .int .i64 e_]) (t := 71) (fr := (0, 0)) (heap_alloc_new w _)) (by simp [Value.oneCell']) (by omega) (by unfold maxLen; omega) (by omega) (by simp; omega) (w.heap.size + 1) (by simp) ?_)
    intro gg cp wz hown1 hgrow hat hlt1
    have k1 := (HG.out.a.alloc (.cells #[.int .i64 at_, .int .i64 e_] 71)).kept hgrow (fun e => blk_own_ne HG.out.a HG.out.own (by decide) e.symm)
    have k2 := (HG.out.o.alloc (.cells #[.int .i64 at_, .int .i64 e_] 71)).kept hgrow (fun e => blk_own_ne HG.out.o HG.out.own (by decide) e.symm)
    have z2 := k2.c0
    have g2 := k2.free 0
    have t2 := blk_own_ne k2 hown1 (by decide)
    have hfin : GapS base bA bO at_ (addS at_ ss e_) (.slice (some ⟨gg, 0, none⟩) (ss.length + 1) cp) (wz.setCell ⟨bO, 0, none⟩ (.slice (some ⟨gg, 0, none⟩) (ss.length + 1) cp)) := by
      refine ⟨k1.other hne _ _, k2.set0 _, ?_⟩
      rw [HS.out, List.length_append, prs_append]
      exact own_set_other hown1 t2
    have hbz := (((Below.refl base w).alloc hsz (.cells #[.int .i64 at_, .int .i64 e_] 71)).grown hgrow (by simp; omega) (fun j e => (HOW.out.lt j e).1)).setCell (p := ⟨bO, 0, none⟩) hO (.slice (some ⟨gg, 0, none⟩) (ss.length + 1) cp)
    have hkeep : ∀ j, j < w.heap.size → j ≠ bO → v.ownBlock ≠ some j → (wz.setCell ⟨bO, 0, none⟩ (.slice (some ⟨gg, 0, none⟩) (ss.length + 1) cp)).heap[j]? = w.heap[j]? := fun j hj hjo hjv => by
      rw [Below.heap_setCell _ _ _ _ hjo, hgrow.block j (by simp; omega) (fun e => hjv e.symm), Below.heap_alloc _ _ _ hj]
    have HF := Lib.hid hfin; have HKP := Lib.hid hkeep
    clear hown1 hgrow hat hlt1 k1 k2 t2 hfin hkeep
    go_wp2
    go_end0
    exact ⟨rfl, ⟨_, HF.out⟩, hbz, HKP.out⟩
  · have hs : addS at_ ss e_ = ss := by rw [addS, if_neg hlt]
    have HS := Lib.hid hs; clear hs
    go_enter Tryz.func78, Tryz.ntmps78
    go_wp2
    go_end0
    exact ⟨rfl, ⟨v, by rw [HS.out]; exact HG.out⟩, Below.refl _ _, fun _ _ _ _ => rfl⟩
end Go.Proofs.YtoochleabcjljaaGreatDoor

/- The chapter's own frame, CheckRecord, span. -/
namespace Go.Proofs.YtoochleabcjljaaGreatDoor
open Go.RowKit

set_option maxRecDepth 100000 in
set_option maxHeartbeats 2000000 in
theorem refFrame_any (ao : Option Addr) (bs : List Chan) (cap : Nat) (st : Int) (asm : Option Addr) (vs : List Value) (xss : List (List Int)) (cs : Nat) (w : World) (hc : Cells w ao (chs bs)) (hl : bs.length ≤ 9223372036854775807) (hs : Cells w asm vs) (hr : RowsV w vs xss) (_hls : xss.length ≤ 9223372036854775807) (hbk : bookOK bs = true) :
    Calls Tryz.prog 72 #[.slice ao bs.length cap, .agg #[.int .i64 st, .slice asm xss.length cs]] w fun e w' => e = .returned (.bool (frOK bs st xss)) ∧ Below w.heap.size w w' := by
  have HC := Lib.hid hc; have HS := Lib.hid hs; have HR := Lib.hid hr; have HBK := Lib.hid hbk
  clear hc hs hr hbk
  cases h1 : inB 0 st 1073741824
  · have hf : frOK bs st xss = false := by simp [frOK, h1]
    have HF := Lib.hid hf; have H1 := Lib.hid h1
    clear hf h1
    go_enter Tryz.func72, Tryz.ntmps72
    go_wp2_with fail
    refine (in_any _ _ _ _).mono ?_
    rintro e w' ⟨rfl, rfl⟩
    rw [H1.out]
    go_wp2
    go_ret
    exact ⟨ret_bool HF.out.symm, (Below.refl _ _).alloc (Nat.le_refl _) _⟩
  · by_cases h2 : xss.length = bs.length
    · have hf : frOK bs st xss = frTo bs xss bs.length := by simp [frOK, h1, h2]
      have HF := Lib.hid hf; have H1 := Lib.hid h1
      have hlen : ((xss.length : Int) != bs.length) = false := by simp [h2]
      have hle1 : xss.length ≤ bs.length := by omega
      have hle2 : bs.length ≤ xss.length := by omega
      clear hf h1 h2
      go_enter Tryz.func72, Tryz.ntmps72
      go_wp2_with fail
      refine (in_any _ _ _ _).mono ?_
      rintro e w' ⟨rfl, rfl⟩
      rw [H1.out]
      have hrf := Below.refl (w.heap.size + 1) (w.alloc (.cells #[.int .i64 st, .slice asm xss.length cs] 43))
      go_wp2_with fail
      go_loopw [5] (fun i wr => ∃ k : Nat, k ≤ bs.length ∧ i = .int .i64 k ∧ frTo bs xss k = true ∧ Below (w.heap.size + 1) (w.alloc (.cells #[.int .i64 st, .slice asm xss.length cs] 43)) wr) (fun i _ => bs.length - (intOf i).toNat)
      case atStart => exact ⟨0, Nat.zero_le _, rfl, rfl, hrf⟩
      case round =>
        clear hrf
        obtain ⟨k, hk, rfl, hfr, hb⟩ := hrel
        have HFR := Lib.hid hfr; clear hfr
        have p1 : wr.cell? ⟨w.heap.size, 1, none⟩ = some (.slice asm xss.length cs) := box_keep hb (by simp) 1
        have hbw : Below w.heap.size w wr := ((Below.refl _ _).alloc (Nat.le_refl _) _).trans (hb.mono (by omega))
        by_cases hlt : k < bs.length
        · obtain ⟨c, hx⟩ := get_of_lt hlt
          obtain ⟨xs, hxs⟩ := get_of_lt (show k < xss.length by omega)
          obtain ⟨v, hv⟩ := get_of_lt (show k < vs.length by have := HR.out.1; omega)
          obtain ⟨b, off, rfl⟩ := HC.out.addr (chs_ne (by omega))
          obtain ⟨b2, off2, rfl⟩ := HS.out.addr (List.ne_nil_of_length_pos (by have := HR.out.1; omega))
          obtain ⟨g0, g1, g2⟩ := chs_get hx
          have hg1 := HC.out.at g1
          have hg2 := HC.out.at g2
          rw [← Nat.add_assoc] at hg1 hg2
          have hg3 := HS.out.at hv
          have HG1 := Lib.hid hg1; have HG2 := Lib.hid hg2
          have c1 := cell_keep hg1 hbw (Nat.le_refl _)
          have c2 := cell_keep hg2 hbw (Nat.le_refl _)
          have c3 := cell_keep hg3 hbw (Nat.le_refl _)
          have hrow := HR.out.2 k v xs hv hxs
          obtain ⟨ax, cx, rfl, hax, haxl⟩ := hrow
          have HG3 := Lib.hid hg3
          have hck := book_get HBK.out hx
          obtain ⟨k1, k2, k3, k4⟩ := hck
          obtain ⟨m1, m2, m3⟩ := most_bd k3 k4
          have hst := frTo_succ hx hxs
          rw [HFR.out, Bool.true_and] at hst
          have HST := Lib.hid hst; have HAX := Lib.hid hax; have M3 := Lib.hid m3
          clear g0 g1 g2 hg1 hg2 hg3 hst hax hx hxs hv m3
          have hmx : (c.bits - 1).toNat ≤ 23 := by omega
          have hmin : min (c.bits - 1).toNat 64 = (c.bits - 1).toNat := by omega
          have hpw : (2 : Int) ^ (c.bits.toNat - 1) = mostOf c := by rw [mostOf]; congr 1; omega
          have ki1 : (k : Int) < xss.length := by omega
          have ki2 : (k : Int) < bs.length := by omega
          have ki3 : (0 : Int) ≤ k := by omega
          go_wp2_with fail
          clear hpw hmx hmin
          by_cases hlr : (xs.length : Int) = c.rate
          · have hst : frTo bs xss (k + 1) = !xs.any (fun n => !inB (-(mostOf c)) n (mostOf c - 1)) := by rw [HST.out]; simp [smpOK, hlr]
            have HST2 := Lib.hid hst; clear hst
            have hneq : ((xs.length : Int) != c.rate) = false := by simp [hlr]
            clear hlr
            go_quiet (fail)
            go_wp2_with fail
            have hbd := bel_drewN hb nq
            clear c1 c2 c3 p1 hb hbw
            go_loopw [7] (fun i wi => ∃ m : Nat, m ≤ xs.length ∧ i = .int .i64 m ∧ ((xs.take m).any fun n => !inB (-(mostOf c)) n (mostOf c - 1)) = false ∧ Below (w.heap.size + 1) (w.alloc (.cells #[.int .i64 st, .slice (some ⟨b2, off2, none⟩) xss.length cs] 43)) wi) (fun i _ => xs.length - (intOf i).toNat)
            case atStart => exact ⟨0, Nat.zero_le _, rfl, rfl, hbd⟩
            case round =>
              clear hbd
              obtain ⟨m, hm, rfl, hany, hbi⟩ := hrel
              have HA := Lib.hid hany; clear hany
              have p1 : wr.cell? ⟨w.heap.size, 1, none⟩ = some (.slice (some ⟨b2, off2, none⟩) xss.length cs) := box_keep hbi (by simp) 1
              have hbw : Below w.heap.size w wr := ((Below.refl _ _).alloc (Nat.le_refl _) _).trans (hbi.mono (by omega))
              have c3 := cell_keep HG3.out hbw (Nat.le_refl _)
              by_cases hlt2 : m < xs.length
              · obtain ⟨x, hxm⟩ := get_of_lt hlt2
                obtain ⟨bx, ox, rfl⟩ := HAX.out.addr (by simpa using List.ne_nil_of_length_pos (by omega))
                have c4 := cell_keep (HAX.out.int hxm) hbw (Nat.le_refl _)
                have HXM := Lib.hid hxm; clear hxm
                cases hin : inB (-(mostOf c)) x (mostOf c - 1)
                · have hfl : frTo bs xss bs.length = false := frTo_false (k := k + 1) (by
                    rw [HST2.out, Bool.not_eq_false', List.any_eq_true]
                    exact ⟨x, List.mem_of_getElem? HXM.out, by rw [hin]; rfl⟩) (by omega)
                  have HFL := Lib.hid hfl; have HIN := Lib.hid hin
                  clear hfl hin
                  go_wp2_with fail
                  refine (in_any _ _ _ _).mono ?_
                  rintro e w' ⟨rfl, rfl⟩
                  rw [HIN.out]
                  go_wp2
                  go_ret
                  exact ⟨ret_bool (by rw [HF.out, HFL.out]), hbw⟩
                · have HIN := Lib.hid hin
                  have hnx : ((xs.take (m + 1)).any fun n => !inB (-(mostOf c)) n (mostOf c - 1)) = false := by
                    rw [take_get HXM.out, List.any_append, HA.out]; simp [hin]
                  have HNX := Lib.hid hnx
                  clear hin hnx
                  go_wp2_with fail
                  refine (in_any _ _ _ _).mono ?_
                  rintro e w' ⟨rfl, rfl⟩
                  rw [HIN.out]
                  go_wp2
                  go_roundw
                  case rel => exact ⟨m + 1, by omega, by go_num, HNX.out, hbi⟩
                  case measure => simp [intOf]; omega
              · obtain rfl : m = xs.length := by omega
                rw [List.take_length] at HA
                have hfr2 : frTo bs xss (k + 1) = true := by rw [HST2.out, HA.out]; rfl
                have HFR2 := Lib.hid hfr2; clear hfr2
                go_wp2
                go_roundw
                case rel => exact ⟨k + 1, by omega, by go_num, HFR2.out, hbi⟩
                case measure => simp [intOf]; omega
          · have hfl : frTo bs xss bs.length = false := frTo_false (k := k + 1) (by rw [HST.out]; simp [smpOK, hlr]) (by omega)
            have HFL := Lib.hid hfl; clear hfl
            have hneq : ((xs.length : Int) != c.rate) = true := by simpa using hlr
            go_quiet (fail)
            go_wp2
            go_ret
            exact ⟨ret_bool (by rw [HF.out, HFL.out]), bel_drewN hbw _⟩
        · obtain rfl : k = bs.length := by omega
          go_wp2
          go_ret
          exact ⟨ret_bool (by rw [HF.out, HFR.out]), hbw⟩
    · have hf : frOK bs st xss = false := by simp [frOK, h2]
      have HF := Lib.hid hf; have H1 := Lib.hid h1
      have hlen : ((xss.length : Int) != bs.length) = true := by rw [bne_iff_ne]; omega
      clear hf h1 h2
      go_enter Tryz.func72, Tryz.ntmps72
      go_wp2_with fail
      refine (in_any _ _ _ _).mono ?_
      rintro e w' ⟨rfl, rfl⟩
      rw [H1.out]
      go_wp2
      go_ret
      exact ⟨ret_bool HF.out.symm, (Below.refl _ _).alloc (Nat.le_refl _) _⟩
end Go.Proofs.YtoochleabcjljaaGreatDoor

/- The chapter's own CheckRecord, span. -/
namespace Go.Proofs.YtoochleabcjljaaGreatDoor
open Go.RowKit

theorem BookIn.in0 {w : World} {ao : Option Addr} {bs : List Chan} {cap : Nat} (h : BookIn w ao bs cap) : BookIn0 w ao bs := ⟨h.cells, h.len, h.names⟩

set_option maxRecDepth 100000 in
set_option maxHeartbeats 2000000 in
theorem refCheckRecord_any (ao : Option Addr) (bs : List Chan) (cap : Nat) (al : Option Addr) (l : List Frm) (cl : Nat) (w : World) (hb : BookIn w ao bs cap) (hr : RecIn w al l) :
    Calls Tryz.prog 29 #[.slice ao bs.length cap, .slice al l.length cl] w fun e w' => e = .returned (.int .i64 (recErr bs l)) ∧ Below w.heap.size w w' := by
  have HB := Lib.hid hb; have HR := Lib.hid hr
  have hll := hr.len
  clear hb hr
  have hck := fun wx (h : BookIn wx ao bs cap) => refCheckBook_any ao bs cap wx h.in0
  have HCK := Lib.hid hck; clear hck
  by_cases h1 : bookErr bs = 0
  · have hok := bookErr_zero h1
    by_cases h2 : 64 < l.length
    · have he : recErr bs l = 3 := by simp [recErr, h1, h2]
      have HE := Lib.hid he; have H1 := Lib.hid h1
      clear he h1 hok
      go_enter Tryz.func29, Tryz.ntmps29
      go_wp2_with fail
      refine (HCK.out _ HB.out).mono ?_
      rintro e w1 ⟨rfl, hb1⟩
      rw [H1.out]
      go_wp2
      go_ret
      exact ⟨ret_int HE.out.symm, hb1⟩
    · have HOK := Lib.hid hok; have H1 := Lib.hid h1
      clear h1 hok
      go_enter Tryz.func29, Tryz.ntmps29
      go_wp2_with fail
      refine (HCK.out _ HB.out).mono ?_
      rintro e w1 ⟨rfl, hb1⟩
      rw [H1.out]
      have HB1 := Lib.hid (HB.out.below hb1 (Nat.le_refl _))
      go_wp2_with fail
      go_loopw [6] (fun i wr => ∃ k : Nat, k ≤ l.length ∧ i = .int .i64 k ∧ ((l.take k).any fun f => !frOK bs f.st f.xss) = false ∧ Below w.heap.size w wr) (fun i _ => l.length - (intOf i).toNat)
      case atStart => exact ⟨0, Nat.zero_le _, rfl, rfl, hb1⟩
      case round =>
        clear hb1
        obtain ⟨k, hk, rfl, hany, hbr⟩ := hrel
        have HA := Lib.hid hany; clear hany
        by_cases hlt : k < l.length
        · obtain ⟨⟨xst, xa, xc, xss⟩, hx⟩ := get_of_lt hlt
          have hmem := List.mem_of_getElem? hx
          obtain ⟨bl, ol, rfl⟩ := HR.out.cells.addr (frs_ne (by omega))
          have d0 := cell_keep (HR.out.cells.at (frs_get hx).1) hbr (Nat.le_refl _)
          have d1 := cell_keep (HR.out.cells.at (frs_get hx).2) hbr (Nat.le_refl _)
          rw [← Nat.add_assoc] at d1
          obtain ⟨hxl, vs, hvs, hrv⟩ := HR.out.rows _ hmem
          simp only at d0 d1 hxl hvs hrv
          have hfr := refFrame_any ao bs cap xst xa vs xss xc wr (HB.out.below hbr (Nat.le_refl _)).cells HB.out.len (hvs.below hbr (Nat.le_refl _)) (hrv.below hbr (Nat.le_refl _)) hxl HOK.out
          have HFR := Lib.hid hfr; have HX := Lib.hid hx
          clear hfr hvs hrv hx
          go_wp2_with fail
          refine HFR.out.mono ?_
          rintro e w2 ⟨rfl, hb2⟩
          have hbz := hbr.trans (hb2.mono hbr.size)
          clear hb2
          cases hf : frOK bs xst xss
          · have he : recErr bs l = 51 := by
              have h3 : (l.any fun f => !frOK bs f.st f.xss) = true := List.any_eq_true.2 ⟨_, hmem, by simp [hf]⟩
              rw [recErr, if_neg (by rw [H1.out]; decide), if_neg h2, h3]; rfl
            have HE := Lib.hid he
            clear he hmem hf
            go_wp2
            go_ret
            exact ⟨ret_int HE.out.symm, hbz⟩
          · have hnx : ((l.take (k + 1)).any fun f => !frOK bs f.st f.xss) = false := by
              rw [take_get HX.out, List.any_append, HA.out]; simp [hf]
            have HNX := Lib.hid hnx
            clear hnx hmem hf
            go_wp2
            go_roundw
            case rel => exact ⟨k + 1, by omega, by go_num, HNX.out, hbz⟩
            case measure => simp [intOf]; omega
        · obtain rfl : k = l.length := by omega
          rw [List.take_length] at HA
          have he : recErr bs l = if upTo l l.length = false then 52 else 0 := by rw [recErr, if_neg (by rw [H1.out]; decide), if_neg h2, HA.out]; rfl
          have HE := Lib.hid he
          clear he
          go_wp2_with fail
          obtain ⟨wo, rfl⟩ : ∃ wo : World, wo = wr := ⟨_, rfl⟩
          go_loopw [7] (fun i wr => ∃ k : Nat, 1 ≤ k ∧ (k ≤ l.length ∨ k = 1) ∧ i = .int .i64 k ∧ upTo l (min k l.length) = true ∧ Below w.heap.size w wr) (fun i _ => l.length - (intOf i).toNat)
          case atStart =>
            refine ⟨1, Nat.le_refl _, .inr rfl, rfl, ?_, hbr⟩
            rcases Nat.eq_zero_or_pos l.length with h | h
            · rw [h]; rfl
            · rw [Nat.min_eq_left h]; simp [upTo]
          case round =>
            clear hbr
            obtain ⟨k, hk1, hk2, rfl, hup, hbr⟩ := hrel
            by_cases hlt : k < l.length
            · rw [Nat.min_eq_left (by omega)] at hup
              have HU := Lib.hid hup; clear hup
              obtain ⟨y, hy⟩ := get_of_lt hlt
              obtain ⟨x, hx⟩ := get_of_lt (show k - 1 < l.length by omega)
              obtain ⟨bl, ol, rfl⟩ := HR.out.cells.addr (frs_ne (by omega))
              have c1 := cell_keep (HR.out.cells.at (frs_get hy).1) hbr (Nat.le_refl _)
              have c0 := cell_keep (HR.out.cells.at (frs_get hx).1) hbr (Nat.le_refl _)
              have hyd : l.getD k ⟨0, none, 0, []⟩ = y := by rw [List.getD_eq_getElem?_getD, hy]; rfl
              have hxd : l.getD (k - 1) ⟨0, none, 0, []⟩ = x := by rw [List.getD_eq_getElem?_getD, hx]; rfl
              have hst : upTo l (k + 1) = decide (x.st < y.st) := by rw [upTo, HU.out, hxd, hyd]; simp; omega
              have HST := Lib.hid hst
              clear hst hyd hy hx hxd
              have a1 : IntKind.i64.wrap ((k : Int) - 1) = (k : Int) - 1 := IntWalk.i64_in _ (by omega)
              have a2 : ((k : Int) - 1).toNat = k - 1 := by omega
              have a3 : (0 : Int) ≤ (k : Int) - 1 := by omega
              have a3' : (1 : Int) ≤ (k : Int) := by omega
              have a4 : (k : Int) - 1 < (l.length : Int) := by omega
              have a6 : (k : Int) < (l.length : Int) := by omega
              have a7 : (0 : Int) ≤ (k : Int) := by omega
              generalize x.st = xs at *
              generalize y.st = ys at *
              by_cases hxy : xs < ys
              · have d1 : decide (ys ≤ xs) = false := by simp; omega
                go_wp2_with fail
                go_quiet (fail)
                clear a1 a2 a3 a3' a4 a6 a7
                go_wp2
                go_roundw
                case rel => exact ⟨k + 1, by omega, .inl (by omega), by go_num, by rw [Nat.min_eq_left (by omega), HST.out]; simpa using hxy, bel_drewN hbr _⟩
                case measure => simp [intOf]; omega
              · have d1 : decide (ys ≤ xs) = true := by simp; omega
                have hfl : upTo l l.length = false := upTo_false (k := k + 1) (by rw [HST.out]; simpa using hxy) (by omega)
                have HFL := Lib.hid hfl
                clear hfl
                go_wp2_with fail
                go_quiet (fail)
                go_wp2
                go_ret
                exact ⟨ret_int (by rw [HE.out, HFL.out]; rfl), bel_drewN hbr _⟩
            · have hup2 : upTo l l.length = true := by rw [Nat.min_eq_right (by omega)] at hup; exact hup
              have HU := Lib.hid hup2
              clear hup hup2
              go_wp2
              go_ret
              exact ⟨ret_int (by rw [HE.out, HU.out]; rfl), hbr⟩
  · have he : recErr bs l = bookErr bs := by simp [recErr, h1]
    have h3 : (bookErr bs != 0) = true := by simpa using h1
    have h4 : (bookErr bs == 0) = false := by simpa using h1
    have HE := Lib.hid he; clear he
    go_enter Tryz.func29, Tryz.ntmps29
    go_wp2_with fail
    refine (HCK.out _ HB.out).mono ?_
    rintro e w1 ⟨rfl, hb1⟩
    go_wp2
    go_ret
    exact ⟨ret_int HE.out.symm, hb1⟩
end Go.Proofs.YtoochleabcjljaaGreatDoor

/- Codes: Encode. -/
namespace Go.Proofs.YtoochleabcjljaaGreatDoor
open Go.RowKit

theorem frTo_get {bs : List Chan} {xss : List (List Int)} {n : Nat} (h : frTo bs xss n = true) {i : Nat} {c : Chan} {xs : List Int} (hi : i < n) (hc : bs[i]? = some c) (hx : xss[i]? = some xs) : smpOK c xs = true := by
  induction n with
  | zero => omega
  | succ n ih =>
    simp only [frTo, Bool.and_eq_true] at h
    by_cases hin : i < n
    · exact ih h.1 hin
    · obtain rfl : i = n := by omega
      have := h.2
      rw [hc, hx] at this
      exact this
theorem frmErr_zero {bs : List Chan} {st : Int} {xss : List (List Int)} (h : frmErr bs st xss = 0) : bookOK bs = true ∧ bs.length ≤ 16 ∧ xss.length = bs.length ∧ 0 ≤ st ∧ st ≤ 1073741824 ∧ (∀ xs ∈ xss, xs.length ≤ 64) ∧ ∀ xs ∈ xss, ∀ x ∈ xs, -8388608 ≤ x ∧ x ≤ 8388608 := by
  unfold frmErr at h
  split at h
  · contradiction
  · rename_i hb
    have hb : bookErr bs = 0 := by simpa using hb
    have hk := bookErr_zero hb
    split at h
    · rename_i hf
      simp only [frOK, Bool.and_eq_true, decide_eq_true_eq] at hf
      obtain ⟨h1, h2, h3⟩ := hf
      have hk2 := hk
      simp only [bookOK, inB, Bool.and_eq_true, decide_eq_true_eq] at hk2
      simp only [inB, decide_eq_true_eq] at h1
      have key : ∀ xs ∈ xss, ∃ c, (1 ≤ c.rate ∧ c.rate ≤ 64 ∧ 2 ≤ c.bits ∧ c.bits ≤ 24) ∧ smpOK c xs = true := by
        intro xs hxs
        obtain ⟨i, hi, hx⟩ := List.mem_iff_getElem.1 hxs
        obtain ⟨c, hc⟩ := get_of_lt (show i < bs.length by omega)
        exact ⟨c, book_get hk hc, frTo_get h3 (by omega) hc (by rw [List.getElem?_eq_getElem hi, hx])⟩
      refine ⟨hk, by omega, h2, h1.1, h1.2, fun xs hxs => ?_, fun xs hxs x hx => ?_⟩
      · obtain ⟨c, hc, hs⟩ := key xs hxs
        simp only [smpOK, Bool.and_eq_true, decide_eq_true_eq] at hs
        omega
      · obtain ⟨c, hc, hs⟩ := key xs hxs
        simp only [smpOK, Bool.and_eq_true] at hs
        have h4 := hs.2
        obtain ⟨m1, m2, _⟩ := most_bd hc.2.2.1 hc.2.2.2
        rw [Bool.not_eq_true'] at h4
        have h5 := List.any_eq_false.1 h4 x hx
        simp [inB] at h5
        omega
    · contradiction
def encRes (bs : List Chan) (st : Int) (xss : List (List Int)) : List Nat := if frmErr bs st xss = 0 then encB st xss else []

set_option maxRecDepth 100000 in
theorem Encode_any (ao : Option Addr) (bs : List Chan) (cap : Nat) (st : Int) (asm : Option Addr) (vs : List Value) (xss : List (List Int)) (cs : Nat) (w : World) (hb : BookIn w ao bs cap) (hs : Cells w asm vs) (hr : RowsV w vs xss) (hls : xss.length ≤ 9223372036854775807) :
    Calls Tryz.prog 30 #[.slice ao bs.length cap, .agg #[.int .i64 st, .slice asm xss.length cs]] w fun e w' => (∃ v, e = .returned (.tuple #[v, .int .i64 (frmErr bs st xss)]) ∧ w'.ownsRow w.heap.size 5 1 v (encRes bs st xss).length (bys (encRes bs st xss))) ∧ Below w.heap.size w w' := by
  have HB := Lib.hid hb; have HS := Lib.hid hs; have HR := Lib.hid hr
  have hlen := hb.len
  clear hs hr hb
  have hck := fun wx h1 h2 h3 => checkFrame_any ao bs cap st asm vs xss cs wx h1 h2 h3 hls
  have HCK := Lib.hid hck; clear hck
  by_cases h1 : frmErr bs st xss = 0
  · have he : encRes bs st xss = encB st xss := by rw [encRes, if_pos h1]
    obtain ⟨_, z1, z2, z3, z4, z5, z6⟩ := frmErr_zero h1
    have hen := fun wx h1 h2 => encode_any ao bs.length cap st asm vs xss cs wx z1 z2 h1 h2 z3 z4 z5 z6
    rw [z2] at HCK ⊢
    have HEN := Lib.hid hen; have HE := Lib.hid he; have H1 := Lib.hid h1
    clear hen he h1 z1 z2 z3 z4 z5 z6 hls
    go_enter Tryz.func30, Tryz.ntmps30
    go_wp2_with fail
    have hb0 := (Below.refl w.heap.size w).alloc (Nat.le_refl _) (.cells #[.int .i64 st, .slice asm bs.length cs] 43)
    refine (HCK.out _ (HB.out.below hb0 (Nat.le_refl _)) (HS.out.below hb0 (Nat.le_refl _)) (HR.out.below hb0 (Nat.le_refl _))).mono ?_
    rintro e w1 ⟨rfl, hb1⟩
    rw [H1.out]
    have q0 : w1.cell? ⟨w.heap.size, 0, none⟩ = some (.int .i64 st) := box_keep hb1 (by simp) 0
    have q1 : w1.cell? ⟨w.heap.size, 1, none⟩ = some (.slice asm bs.length cs) := box_keep hb1 (by simp) 1
    have hbw := hb0.trans (hb1.mono (by simp))
    go_wp2_with fail
    refine (HEN.out _ (HS.out.below hbw (Nat.le_refl _)) (HR.out.below hbw (Nat.le_refl _))).mono ?_
    rintro e w2 ⟨⟨v, rfl, hown⟩, hb2⟩
    have HO := Lib.hid (own_base hown hbw.size)
    have hfin := hbw.trans (hb2.mono hbw.size)
    clear hown hb0 hb1 hbw hb2
    go_wp2
    go_ret2
    exact ⟨⟨v, by rw [H1.out]; rfl, by rw [HE.out]; exact HO.out⟩, hfin⟩
  · have he : encRes bs st xss = [] := by rw [encRes, if_neg h1]
    have h3 : (frmErr bs st xss != 0) = true := by simpa using h1
    have h4 : (frmErr bs st xss == 0) = false := by simpa using h1
    have HE := Lib.hid he; clear he
    go_enter Tryz.func30, Tryz.ntmps30
    go_wp2_with fail
    have hb0 := (Below.refl w.heap.size w).alloc (Nat.le_refl _) (.cells #[.int .i64 st, .slice asm xss.length cs] 43)
    refine (HCK.out _ (HB.out.below hb0 (Nat.le_refl _)) (HS.out.below hb0 (Nat.le_refl _)) (HR.out.below hb0 (Nat.le_refl _))).mono ?_
    rintro e w1 ⟨rfl, hb1⟩
    have hbw := hb0.trans (hb1.mono (by simp))
    go_wp2
    go_ret2
    exact ⟨⟨_, rfl, by rw [HE.out]; exact World.ownsRow_nil _ _ _ _⟩, hbw⟩
end Go.Proofs.YtoochleabcjljaaGreatDoor

/- Records: Gaps. -/
namespace Go.Proofs.YtoochleabcjljaaGreatDoor
open Go.RowKit

def gapStep (fr tt : Int) (s : Int × List (Int × Int)) (f : Frm) : Int × List (Int × Int) := if fr ≤ f.st ∧ f.st < tt then (f.st + 1, addS s.1 s.2 f.st) else s
def gapsTo (fr tt : Int) (l : List Frm) : Int × List (Int × Int) := l.foldl (gapStep fr tt) (fr, [])
def gapsOf (fr tt : Int) (l : List Frm) : List (Int × Int) := addS (gapsTo fr tt l).1 (gapsTo fr tt l).2 tt
def gapsRes (bs : List Chan) (l : List Frm) (fr tt : Int) : List (Int × Int) := if btwErr bs l fr tt = 0 then gapsOf fr tt l else []
theorem gapsTo_snoc (fr tt : Int) (l : List Frm) (f : Frm) : gapsTo fr tt (l ++ [f]) = gapStep fr tt (gapsTo fr tt l) f := by simp [gapsTo]
theorem addS_length (a : Int) (ss : List (Int × Int)) (e : Int) : (addS a ss e).length ≤ ss.length + 1 := by unfold addS; split <;> simp
theorem gapsTo_length (fr tt : Int) (l : List Frm) : (gapsTo fr tt l).2.length ≤ l.length := by
  suffices ∀ n (l : List Frm), l.length = n → (gapsTo fr tt l).2.length ≤ n by exact this _ l rfl
  intro n
  induction n with
  | zero => intro l hl; rw [List.length_eq_zero_iff.1 hl]; simp [gapsTo]
  | succ n ih =>
    intro l hl
    obtain ⟨l', f, rfl⟩ : ∃ l' f, l = l' ++ [f] := by
      rcases List.eq_nil_or_concat l with rfl | ⟨l', b, rfl⟩
      · simp at hl
      · exact ⟨l', b, by simp⟩
    simp at hl
    have h := ih l' hl
    rw [gapsTo_snoc, gapStep]
    split
    · have := addS_length (gapsTo fr tt l').1 (gapsTo fr tt l').2 f.st
      simp only; omega
    · omega

theorem recErr_zero {bs : List Chan} {l : List Frm} (h : recErr bs l = 0) : bookErr bs = 0 ∧ l.length ≤ 64 ∧ (∀ f ∈ l, frOK bs f.st f.xss = true) ∧ upTo l l.length = true := by
  unfold recErr at h
  split at h
  · contradiction
  · rename_i h1
    split at h
    · contradiction
    · rename_i h2
      split at h
      · contradiction
      · rename_i h3
        split at h
        · contradiction
        · rename_i h4
          refine ⟨by simpa using h1, by omega, fun f hf => ?_, by simpa using h4⟩
          have h3 := (Bool.not_eq_true _).mp h3
          have := List.any_eq_false.1 h3 f hf
          simpa using this
theorem btwErr_zero {bs : List Chan} {l : List Frm} {fr tt : Int} (h : btwErr bs l fr tt = 0) : recErr bs l = 0 ∧ 0 ≤ fr ∧ fr ≤ tt ∧ tt ≤ 1073741824 := by
  unfold btwErr at h
  split at h
  · contradiction
  · rename_i h1
    split at h
    · contradiction
    · exact ⟨by simpa using h1, by omega, by omega, by omega⟩

set_option maxRecDepth 100000 in
set_option maxHeartbeats 1000000 in
theorem gaps_any (ao : Option Addr) (bs : List Chan) (cap : Nat) (al : Option Addr) (l : List Frm) (cl : Nat) (fr tt : Int) (w : World) (hb : BookIn w ao bs cap) (hr : RecIn w al l) :
    Calls Tryz.prog 34 #[.slice ao bs.length cap, .slice al l.length cl, .int .i64 fr, .int .i64 tt] w fun e w' => (∃ a c, e = .returned (.tuple #[.slice a (gapsRes bs l fr tt).length c, .int .i64 (btwErr bs l fr tt)]) ∧ Cells w' a (prs (gapsRes bs l fr tt))) ∧ Below w.heap.size w w' := by
  have hck := between_any ao bs cap al l cl fr tt w hb hr
  have HCK := Lib.hid hck; have HR := Lib.hid hr
  clear hck hb hr
  by_cases h1 : btwErr bs l fr tt = 0
  · have he : gapsRes bs l fr tt = gapsOf fr tt l := by rw [gapsRes, if_pos h1]
    obtain ⟨z0, z1, z2, z3⟩ := btwErr_zero h1
    obtain ⟨_, z4, _, _⟩ := recErr_zero z0
    have HE := Lib.hid he; have H1 := Lib.hid h1
    clear he h1 z0
    go_enter Tryz.func34, Tryz.ntmps34
    go_wp2_with fail
    refine HCK.out.mono ?_
    rintro e w1 ⟨rfl, hb1⟩
    rw [H1.out]
    have hg0 : GapS w1.heap.size (w1.heap.size + 1) w1.heap.size fr [] (.slice none 0 0) ((w1.alloc (.cells #[.slice none 0 0] 54)).alloc (.cells #[.int .i64 fr] 3)) := by
      refine ⟨?_, (Blk.new w1 54 #[.slice none 0 0]).alloc _, World.ownsRow_nil _ _ _ _⟩
      have := Blk.new (w1.alloc (.cells #[.slice none 0 0] 54)) 3 #[.int .i64 fr]
      rwa [World.size_alloc] at this
    have hbw := (((Below.refl w1.heap.size w1).alloc (Nat.le_refl _) (.cells #[.slice none 0 0] 54)).alloc (by simp) (.cells #[.int .i64 fr] 3))
    have HG0 := Lib.hid hg0
    have HR1 := Lib.hid (HR.out.below hb1 (Nat.le_refl _))
    clear hg0
    go_wp2
    go_loopw [28] (fun i wr => ∃ k : Nat, k ≤ l.length ∧ i = .int .i64 k ∧ (∃ v, GapS w1.heap.size (w1.heap.size + 1) w1.heap.size (gapsTo fr tt (l.take k)).1 (gapsTo fr tt (l.take k)).2 v wr) ∧ Below w1.heap.size w1 wr) (fun i _ => l.length - (intOf i).toNat)
    case atStart => exact ⟨0, Nat.zero_le _, rfl, ⟨_, HG0.out⟩, hbw⟩
    case round =>
      clear hbw HG0
      obtain ⟨k, hk, rfl, ⟨v, hg⟩, hbr⟩ := hrel
      have HG := Lib.hid hg; clear hg
      have hgl := gapsTo_length fr tt (l.take k)
      rw [List.length_take, Nat.min_eq_left hk] at hgl
      by_cases hlt : k < l.length
      · obtain ⟨x, hx⟩ := get_of_lt hlt
        obtain ⟨bl, ol, rfl⟩ := HR1.out.cells.addr (frs_ne (by omega))
        have c0 := cell_keep (HR1.out.cells.at (frs_get hx).1) hbr (Nat.le_refl _)
        have c1 := cell_keep (HR1.out.cells.at (frs_get hx).2) hbr (Nat.le_refl _)
        rw [← Nat.add_assoc] at c1
        have hst : gapsTo fr tt (l.take (k + 1)) = gapStep fr tt (gapsTo fr tt (l.take k)) x := by rw [take_get hx, gapsTo_snoc]
        have HST := Lib.hid hst
        have hz := hbr.size
        clear hst hx
        by_cases hin : fr ≤ x.st ∧ x.st < tt
        · obtain ⟨hi1, hi2⟩ := hin
          have hgs : gapStep fr tt (gapsTo fr tt (l.take k)) x = (x.st + 1, addS (gapsTo fr tt (l.take k)).1 (gapsTo fr tt (l.take k)).2 x.st) := by rw [gapStep, if_pos ⟨hi1, hi2⟩]
          have HGS := Lib.hid hgs
          clear hgs
          have hb0 := (Below.refl wr.heap.size wr).alloc (Nat.le_refl _) (.cells #[.int .i64 x.st, .slice x.a x.xss.length x.c] 43)
          have hga : GapS w1.heap.size (w1.heap.size + 1) w1.heap.size (gapsTo fr tt (l.take k)).1 (gapsTo fr tt (l.take k)).2 v (wr.alloc (.cells #[.int .i64 x.st, .slice x.a x.xss.length x.c] 43)) := ⟨HG.out.a.alloc _, HG.out.o.alloc _, HG.out.own.alloc _⟩
          have hba := hbr.alloc hz (.cells #[.int .i64 x.st, .slice x.a x.xss.length x.c] 43)
          have hxb := Blk.new wr 43 #[.int .i64 x.st, .slice x.a x.xss.length x.c]
          have HXB := Lib.hid hxb
          have HGA := Lib.hid hga
          have hgA := HG.out.a.lt
          clear hga hxb hb0
          go_wp2_with fail
          refine (gaps1_any w1.heap.size (w1.heap.size + 1) w1.heap.size (by omega) (by omega) (by omega) (gapsTo fr tt (l.take k)).1 x.st (gapsTo fr tt (l.take k)).2 v _ HGA.out (by omega)).mono ?_
          rintro e w2 ⟨rfl, ⟨v', hg2⟩, hb2, hkp⟩
          have hx2 : Blk w2 wr.heap.size 43 #[.int .i64 x.st, .slice x.a x.xss.length x.c] :=
            (hkp wr.heap.size (by simp) (by omega) (fun e => by have := (HG.out.own.lt _ e).2; omega)).trans HXB.out
          have r0 := hx2.c0
          have hq : GapS w1.heap.size (w1.heap.size + 1) w1.heap.size (gapsTo fr tt (l.take (k + 1))).1 (gapsTo fr tt (l.take (k + 1))).2 v' (w2.setCell ⟨w1.heap.size + 1, 0, none⟩ (.int .i64 (x.st + 1))) := by
            rw [HST.out, HGS.out]
            exact ⟨hg2.a.set0 _, hg2.o.other (by omega) _ _, own_set_other hg2.own (blk_own_ne hg2.a hg2.own (by decide))⟩
          have hbq := (hba.trans hb2).setCell (p := ⟨w1.heap.size + 1, 0, none⟩) (by simp) (.int .i64 (x.st + 1))
          have s0 := hg2.a.c0
          have s1 := hg2.a.free 0
          have HQ := Lib.hid hq
          clear hq hg2 hx2 hkp hb2 hba
          go_wp2
          go_roundw
          case rel => exact ⟨k + 1, by omega, by go_num, ⟨v', HQ.out⟩, hbq⟩
          case measure => simp [intOf]; omega
        · have hgs : gapStep fr tt (gapsTo fr tt (l.take k)) x = gapsTo fr tt (l.take k) := by rw [gapStep, if_neg hin]
          have hga : GapS w1.heap.size (w1.heap.size + 1) w1.heap.size (gapsTo fr tt (l.take (k + 1))).1 (gapsTo fr tt (l.take (k + 1))).2 v (wr.alloc (.cells #[.int .i64 x.st, .slice x.a x.xss.length x.c] 43)) := by
            rw [HST.out, hgs]; exact ⟨HG.out.a.alloc _, HG.out.o.alloc _, HG.out.own.alloc _⟩
          have hba := hbr.alloc hz (.cells #[.int .i64 x.st, .slice x.a x.xss.length x.c] 43)
          have HGA := Lib.hid hga
          clear hga hgs
          have hjj : x.st < fr ∨ (fr ≤ x.st ∧ tt ≤ x.st) := by omega
          clear hin
          rcases hjj with h | ⟨h, h'⟩
          all_goals
            go_wp2
            go_roundw
            case rel => exact ⟨k + 1, by omega, by go_num, ⟨v, HGA.out⟩, hba⟩
            case measure => simp [intOf]; omega
      · obtain rfl : k = l.length := by omega
        rw [List.take_length] at HG hgl
        go_wp2_with fail
        refine (gaps1_any w1.heap.size (w1.heap.size + 1) w1.heap.size (by omega) (by omega) (by omega) (gapsTo fr tt l).1 tt (gapsTo fr tt l).2 v _ HG.out (by omega)).mono ?_
        rintro e w2 ⟨rfl, ⟨v', hg2⟩, hb2, _⟩
        have hbq := hb1.trans ((hbr.trans hb2).mono hb1.size)
        have r0 := hg2.o.c0
        obtain ⟨a, c, rfl, hcs⟩ := own_cells hg2.own
        have HCS := Lib.hid hcs
        clear hg2 hb2 hbr hcs
        go_wp2
        go_ret2
        exact ⟨⟨a, c, by rw [HE.out, H1.out]; rfl, by rw [HE.out]; exact HCS.out⟩, hbq⟩
  · have he : gapsRes bs l fr tt = [] := by rw [gapsRes, if_neg h1]
    have h3 : (btwErr bs l fr tt != 0) = true := by simpa using h1
    have h4 : (btwErr bs l fr tt == 0) = false := by simpa using h1
    have HE := Lib.hid he; clear he
    go_enter Tryz.func34, Tryz.ntmps34
    go_wp2_with fail
    refine HCK.out.mono ?_
    rintro e w1 ⟨rfl, hb1⟩
    go_wp2
    go_ret2
    exact ⟨⟨none, 0, by rw [HE.out]; rfl, by rw [HE.out]; exact Cells.nil _ _⟩, hb1⟩
end Go.Proofs.YtoochleabcjljaaGreatDoor
