/- Parts of a proof, in build order: A4, B1, R3, R4, S4. -/
import Derived.Test.YtoochleabcjljaaGreatDoorKs3

/- Strain, of the program. -/
namespace Go.Proofs.YtoochleabcjljaaGreatDoor
open Go.RowKit

/-- the sum of the lesser, of the greater products of the first n taps at t -/
def loS (ts : List (Int × Int)) (xs : List Int) (t : Nat) : Nat → Int
  | 0 => 0
  | n + 1 => loS ts xs t n + min ((ts.getD n (0, 0)).1 * xs.getD (t - n) 0) ((ts.getD n (0, 0)).2 * xs.getD (t - n) 0)
def hiS (ts : List (Int × Int)) (xs : List Int) (t : Nat) : Nat → Int
  | 0 => 0
  | n + 1 => hiS ts xs t n + max ((ts.getD n (0, 0)).1 * xs.getD (t - n) 0) ((ts.getD n (0, 0)).2 * xs.getD (t - n) 0)
def bandAt (ts : List (Int × Int)) (sh : Nat) (xs : List Int) (t : Nat) : Int × Int :=
  (loS ts xs t (min ts.length (t + 1)) / 2 ^ sh, -(-(hiS ts xs t (min ts.length (t + 1))) / 2 ^ sh))
def bands (ts : List (Int × Int)) (sh : Nat) (xs : List Int) (n : Nat) : List (Int × Int) := (List.range n).map (bandAt ts sh xs)
def strErr (ts : List (Int × Int)) (sh : Int) (xs : List Int) : Int := if modErr ts sh ≠ 0 then modErr ts sh else serErr xs
def strain (ts : List (Int × Int)) (sh : Int) (xs : List Int) : List (Int × Int) := if strErr ts sh xs = 0 then bands ts sh.toNat xs xs.length else []

theorem bands_length (ts : List (Int × Int)) (sh : Nat) (xs : List Int) (n : Nat) : (bands ts sh xs n).length = n := by simp [bands]
theorem bands_succ (ts : List (Int × Int)) (sh : Nat) (xs : List Int) (n : Nat) : bands ts sh xs (n + 1) = bands ts sh xs n ++ [bandAt ts sh xs n] := by simp [bands, List.range_succ]

/-- the bounds of products -/
theorem prod_bd {a x : Int} (h1 : -1048576 ≤ a) (h2 : a ≤ 1048576) (h3 : -8388608 ≤ x) (h4 : x ≤ 8388608) : -8796093022208 ≤ a * x ∧ a * x ≤ 8796093022208 := by
  have ha : a.natAbs ≤ 1048576 := by omega
  have hx : x.natAbs ≤ 8388608 := by omega
  have h := Nat.mul_le_mul ha hx
  rw [← Int.natAbs_mul] at h
  omega

theorem modErr_zero {ts : List (Int × Int)} {sh : Int} (h : modErr ts sh = 0) : 1 ≤ ts.length ∧ ts.length ≤ 16 ∧ 0 ≤ sh ∧ sh ≤ 20 ∧ ∀ t ∈ ts, t.1 ≤ t.2 ∧ -1048576 ≤ t.1 ∧ t.2 ≤ 1048576 := by
  have h1 : modOK ts sh = true := by
    cases e : modOK ts sh
    · simp [modErr, e] at h
    · rfl
  simp only [modOK, inB, Bool.and_eq_true, decide_eq_true_eq, Bool.not_eq_true', List.any_eq_false, tapBad] at h1
  refine ⟨by omega, by omega, by omega, by omega, fun t ht => ?_⟩
  have := h1.2.1 t ht
  omega

theorem serErr_zero {xs : List Int} (h : serErr xs = 0) : xs.length ≤ 4096 ∧ ∀ x ∈ xs, -8388608 ≤ x ∧ x ≤ 8388608 := by
  have h1 : serOK xs = true := by
    cases e : serOK xs
    · simp [serErr, e] at h
    · rfl
  simpa [serOK, inB] using h1

theorem lohi_bd {ts : List (Int × Int)} {xs : List Int} {sh : Int} (h : modErr ts sh = 0) (hx : serErr xs = 0) (t : Nat) (ht : t < xs.length) (n : Nat) (hn : n ≤ ts.length) (hnt : n ≤ t + 1) :
    -(8796093022208 * (n : Int)) ≤ loS ts xs t n ∧ loS ts xs t n ≤ 8796093022208 * (n : Int) ∧ -(8796093022208 * (n : Int)) ≤ hiS ts xs t n ∧ hiS ts xs t n ≤ 8796093022208 * (n : Int) := by
  induction n with
  | zero => simp [loS, hiS]
  | succ n ih =>
    have ih := ih (by omega) (by omega)
    have m1 := (modErr_zero h).2.2.2.2 (ts.getD n (0, 0)) (by
      rw [List.getD_eq_getElem?_getD, List.getElem?_eq_getElem (by omega)]; exact List.getElem_mem _)
    have m2 := (serErr_zero hx).2 (xs.getD (t - n) 0) (by
      rw [List.getD_eq_getElem?_getD, List.getElem?_eq_getElem (by omega)]; exact List.getElem_mem _)
    have p1 := prod_bd (a := (ts.getD n (0, 0)).1) (x := xs.getD (t - n) 0) (by omega) (by omega) (by omega) (by omega)
    have p2 := prod_bd (a := (ts.getD n (0, 0)).2) (x := xs.getD (t - n) 0) (by omega) (by omega) (by omega) (by omega)
    simp only [loS, hiS]
    push_cast
    omega

theorem Tryz.infoBand : (Tryz.prog.info? 104).map (fun i => (i.zero, i.size, i.bytes)) = some (some (.agg #[.int .i64 0, .int .i64 0]), 2, 16) := by kernel_rfl

set_option maxRecDepth 100000 in
theorem strain_any (ao : Option Addr) (ts : List (Int × Int)) (cap : Nat) (sh : Int) (ax : Option Addr) (xs : List Int) (cx : Nat) (w : World) (hc : Cells w ao (prs ts)) (hl : ts.length ≤ 9223372036854775807) (hx : Cells w ax (xs.map (Value.int .i64))) (hlx : xs.length ≤ 9223372036854775807) :
    Calls Tryz.prog 64 #[.agg #[.slice ao ts.length cap, .int .i64 sh], .slice ax xs.length cx] w fun e w' => (∃ a c, e = .returned (.tuple #[.slice a (strain ts sh xs).length c, .int .i64 (strErr ts sh xs)]) ∧ Cells w' a (prs (strain ts sh xs))) ∧ Below w.heap.size w w' := by
  have HC := Lib.hid hc; clear hc
  have HX := Lib.hid hx; clear hx
  by_cases h1 : modErr ts sh = 0
  · by_cases h2 : serErr xs = 0
    · go_enter Tryz.func64, Tryz.ntmps64
      go_wp2_with fail
      refine (checkModel_any ao ts cap sh _ (HC.out.below ((Below.refl _ _).alloc (Nat.le_refl _) _) (Nat.le_refl _)) hl).mono ?_
      rintro e w1 ⟨rfl, hb⟩
      rw [h1]
      go_wp2_with fail
      refine (checkSeries_any ax xs cx _ (HX.out.below (((Below.refl _ _).alloc (Nat.le_refl _) _).trans (hb.mono (by simp))) (Nat.le_refl _)) hlx).mono ?_
      rintro e w2 ⟨rfl, hb2⟩
      rw [h2]
      have hm := modErr_zero h1
      have hs := serErr_zero h2
      have hbd := fun t ht n hn hnt => lohi_bd h1 h2 t ht n hn hnt
      have H1 := Lib.hid h1; clear h1
      have H2 := Lib.hid h2; clear h2
      obtain ⟨hm1, hm2, hm3, hm4, hm5⟩ := hm
      obtain ⟨hs1, hs2⟩ := hs
      have HM5 := Lib.hid hm5; clear hm5
      have HS2 := Lib.hid hs2; clear hs2
      have HBD := Lib.hid hbd; clear hbd
      obtain ⟨shn, rfl⟩ := Int.eq_ofNat_of_zero_le hm3
      have hbe : Below (w.heap.size + 1) (w.alloc (.cells #[.slice ao ts.length cap, .int .i64 shn] 102)) w2 := (hb.mono (by simp)).trans (hb2.mono (by have := hb.size; simpa using this))
      clear hb hb2
      obtain ⟨i0, hi, hz0, hz1, hz2⟩ := info_parts Tryz.infoBand
      go_wp2
      go_loopw [8, 28] (fun v i wr => ∃ k : Nat, k ≤ xs.length ∧ i = .int .i64 k ∧ wr.ownsRow (w.heap.size + 1) 104 2 v k (prs (bands ts shn xs k)) ∧ Below (w.heap.size + 1) (w.alloc (.cells #[.slice ao ts.length cap, .int .i64 shn] 102)) wr) (fun _ i _ => xs.length - (intOf i).toNat)
      case atStart => exact ⟨0, Nat.zero_le _, rfl, World.ownsRow_nil _ _ _ _, hbe⟩
      case round =>
        obtain ⟨k, hk, rfl, hown, hb⟩ := hrel
        obtain ⟨wo, rfl⟩ : ∃ wo : World, wo = wr := ⟨_, rfl⟩
        have hc0 : wo.cell? ⟨w.heap.size, 0, none⟩ = some (.slice ao ts.length cap) := box_keep hb (by simp) 0
        have hc1 : wo.cell? ⟨w.heap.size, 1, none⟩ = some (.int .i64 shn) := box_keep hb (by simp) 1
        have hsz : w.heap.size + 1 ≤ wo.heap.size := by have := hb.size; simpa using this
        by_cases hlt : k < xs.length
        · have HO := Lib.hid hown; clear hown
          go_wp2
          go_loopw [10, 11, 34] (fun lo hi j wi => ∃ n : Nat, n ≤ ts.length ∧ n ≤ k + 1 ∧ j = .int .i64 n ∧ lo = .int .i64 (loS ts xs k n) ∧ hi = .int .i64 (hiS ts xs k n) ∧ wi.ownsRow (w.heap.size + 1) 104 2 u8 k (prs (bands ts shn xs k)) ∧ Below (w.heap.size + 1) (w.alloc (.cells #[.slice ao ts.length cap, .int .i64 shn] 102)) wi) (fun _ _ j _ => ts.length - (intOf j).toNat)
          case atStart => exact ⟨0, Nat.zero_le _, Nat.zero_le _, rfl, rfl, rfl, HO.out, hb⟩
          case round =>
            clear hb hc0 hc1 hsz
            obtain ⟨n, hn, hnk, rfl, rfl, rfl, hown, hb⟩ := hrel
            have HO := Lib.hid hown; clear hown
            have hc0 : wr.cell? ⟨w.heap.size, 0, none⟩ = some (.slice ao ts.length cap) := box_keep hb (by simp) 0
            have hc1 : wr.cell? ⟨w.heap.size, 1, none⟩ = some (.int .i64 shn) := box_keep hb (by simp) 1
            have hsz : w.heap.size + 1 ≤ wr.heap.size := by have := hb.size; simpa using this
            have hbw : Below w.heap.size w wr := ((Below.refl _ _).alloc (Nat.le_refl _) _).trans (hb.mono (by omega))
            obtain ⟨b1, b2, b3, b4⟩ := HBD.out k hlt n hn hnk
            by_cases hgo : n < ts.length ∧ n ≤ k
            · obtain ⟨hg1, hg2⟩ := hgo
              obtain ⟨⟨x1, x2⟩, hx⟩ := get_of_lt hg1
              obtain ⟨y, hy⟩ := get_of_lt (show k - n < xs.length by omega)
              obtain ⟨b, off, rfl⟩ := HC.out.addr (prs_ne (by omega))
              obtain ⟨bx, ox, rfl⟩ := HX.out.addr (by simpa using List.ne_nil_of_length_pos (by omega))
              have hcell1 := cell_keep (HC.out.at (prs_fst hx)) hbw (Nat.le_refl _)
              have hcell2 := cell_keep (HC.out.at (prs_snd hx)) hbw (Nat.le_refl _)
              rw [← Nat.add_assoc] at hcell2
              simp only at hcell1 hcell2
              have hcell3 := cell_keep (HX.out.int hy) hbw (Nat.le_refl _)
              have t1 := HM5.out _ (List.mem_of_getElem? hx)
              have t2 := HS2.out _ (List.mem_of_getElem? hy)
              simp only at t1
              have p1 := prod_bd (a := x1) (x := y) (by omega) (by omega) (by omega) (by omega)
              have p2 := prod_bd (a := x2) (x := y) (by omega) (by omega) (by omega) (by omega)
              have e1 : loS ts xs k (n + 1) = loS ts xs k n + min (x1 * y) (x2 * y) := by simp [loS, hx, hy]
              have e2 : hiS ts xs k (n + 1) = hiS ts xs k n + max (x1 * y) (x2 * y) := by simp [hiS, hx, hy]
              have E1 := Lib.hid e1; clear e1
              have E2 := Lib.hid e2; clear e2
              clear hx hy
              go_wp2
              have q1 : IntKind.i64.wrap ((k : Int) - n) = (k : Int) - n := IntWalk.i64_in _ (by omega)
              have q2 : 0 ≤ (k : Int) - n := by omega
              have q3 : (k : Int) - n < xs.length := by omega
              have q4 : ((k : Int) - n).toNat = k - n := by omega
              have q5 : IntKind.i64.wrap (x1 * y) = x1 * y := IntWalk.i64_in _ (by omega)
              have q6 : IntKind.i64.wrap (x2 * y) = x2 * y := IntWalk.i64_in _ (by omega)
              have q7 := cell_keep hcell3 ((Below.refl _ _).alloc (Nat.le_refl _) (.cells #[.int .i64 x1, .int .i64 x2] 99)) (Nat.le_refl _)
              go_quiet (fail)
              clear q1 q2 q3 q4 q5 q6 q7
              go_wp2
              go_roundw
              case rel => exact ⟨n + 1, by omega, by omega, by go_num, by first | rw [E1.out, min_if] | rw [E1.out], by first | rw [E2.out, max_if] | rw [E2.out], own_drewN (HO.out.alloc _) _, bel_drewN (hb.alloc hsz _) _⟩
              case measure => simp [intOf]; omega
            · have hn' : n = min ts.length (k + 1) := by omega
              have hfin : bandAt ts shn xs k = (loS ts xs k n / 2 ^ shn, -(-(hiS ts xs k n) / 2 ^ shn)) := by rw [bandAt, ← hn']
              have HF := Lib.hid hfin; clear hfin hn'
              by_cases hex : n < ts.length
              · have hkn : n = k + 1 := by omega
                obtain ⟨⟨x1, x2⟩, hx⟩ := get_of_lt hex
                obtain ⟨b, off, rfl⟩ := HC.out.addr (prs_ne (by omega))
                have hcell1 := cell_keep (HC.out.at (prs_fst hx)) hbw (Nat.le_refl _)
                have hcell2 := cell_keep (HC.out.at (prs_snd hx)) hbw (Nat.le_refl _)
                rw [← Nat.add_assoc] at hcell2
                simp only at hcell1 hcell2
                clear hx
                have hkn' : k < n := by omega
                have HKN := Lib.hid hkn; clear hkn
                go_wp2
                have hoq := HO.out.alloc (.cells #[.int .i64 x1, .int .i64 x2] 99)
                have hbq := hb.alloc hsz (.cells #[.int .i64 x1, .int .i64 x2] 99)
                generalize wr.alloc (.cells #[.int .i64 x1, .int .i64 x2] 99) = wq at *
                clear hb hc0 hc1 hsz hbw hcell1 hcell2
                have hne : ¬ some w.heap.size = u8.ownBlock := fun e => by have := (hoq.lt _ e.symm).1; omega
                have hob : ∀ j, u8.ownBlock = some j → w.heap.size + 1 ≤ j := fun j e => (hoq.lt j e).1
                have HOB := Lib.hid hob; clear hob
                have HOQ := Lib.hid hoq; clear hoq
                have hc1 : wq.cell? ⟨w.heap.size, 1, none⟩ = some (.int .i64 shn) := box_keep hbq (by simp) 1
                have hsz : w.heap.size + 1 ≤ wq.heap.size := by have := hbq.size; simpa using this
                have hd := div_pow_bd (x := -(hiS ts xs k n)) (M := 140737488355328) shn (by omega) (by omega) (by omega)
                have g1 : IntKind.i64.wrap (-(hiS ts xs k n)) = -(hiS ts xs k n) := IntWalk.i64_in _ (by omega)
                have g2 : IntKind.i64.wrap (-(-(hiS ts xs k n) / 2 ^ shn)) = -(-(hiS ts xs k n) / 2 ^ shn) := IntWalk.i64_in _ (by omega)
                have g3 : min shn 64 = shn := by omega
                go_region_held3 (fun w' => w'.cell? ⟨w.heap.size, 1, none⟩ = some (.int .i64 shn))
                  (first | go_keep | (rw [hgrow.cell_far _ (by simp; omega) hne]; assumption))
                  ((refine step_append_lies _ (by rfl) _ _ _ (by rfl) (w.heap.size + 1) 104 i0 _ 2 16 Tryz.underlying95 hi hz0 hz1 hz2 rfl (by omega) u8 k (prs (bands ts shn xs k)) (by rfl) ((HOQ.out.alloc _).drew) ⟨wq.heap.size, 0, none⟩ 1 1 [.int .i64 (loS ts xs k n / 2 ^ shn), .int .i64 (-(-(hiS ts xs k n) / 2 ^ shn))] (by rfl) (by rfl) (World.news_of_block (cs := #[.int .i64 (loS ts xs k n / 2 ^ shn), .int .i64 (-(-(hiS ts xs k n) / 2 ^ shn))]) (t := 104) (fr := (0, 0)) (heap_alloc_new wq _)) (by simp [Value.oneCell']) (by omega) (by unfold maxLen; omega) (by omega) (by simp; omega) (wq.heap.size + 1) (by simp) ?_; intro gg cp wz hown1 hgrow hat hlt1))
                have hfin := hown1
                rw [show prs (bands ts shn xs k) ++ [.int .i64 (loS ts xs k n / 2 ^ shn), .int .i64 (-(-(hiS ts xs k n) / 2 ^ shn))] = prs (bands ts shn xs (k + 1)) from by rw [bands_succ, prs_append, HF.out]; rfl] at hfin
                have hbz := (bel_drewN (hbq.alloc hsz (.cells #[.int .i64 (loS ts xs k n / 2 ^ shn), .int .i64 (-(-(hiS ts xs k n) / 2 ^ shn))] 104)) 1).grown hgrow (by simp; omega) HOB.out
                clear hown1 hgrow g1 g2 g3 hd
                have HFIN := Lib.hid hfin; clear hfin
                go_wp2
                go_roundw
                case rel => exact ⟨k + 1, by omega, by go_num, HFIN.out, hbz⟩
                case measure => simp [intOf]; omega
              · go_wp2
                have hoq := HO.out
                have hbq := hb
                obtain ⟨wq, rfl⟩ : ∃ wq : World, wq = wr := ⟨_, rfl⟩
                clear hb hc0 hc1 hsz hbw
                have hne : ¬ some w.heap.size = u8.ownBlock := fun e => by have := (hoq.lt _ e.symm).1; omega
                have hob : ∀ j, u8.ownBlock = some j → w.heap.size + 1 ≤ j := fun j e => (hoq.lt j e).1
                have HOB := Lib.hid hob; clear hob
                have HOQ := Lib.hid hoq; clear hoq
                have hc1 : wq.cell? ⟨w.heap.size, 1, none⟩ = some (.int .i64 shn) := box_keep hbq (by simp) 1
                have hsz : w.heap.size + 1 ≤ wq.heap.size := by have := hbq.size; simpa using this
                have hd := div_pow_bd (x := -(hiS ts xs k n)) (M := 140737488355328) shn (by omega) (by omega) (by omega)
                have g1 : IntKind.i64.wrap (-(hiS ts xs k n)) = -(hiS ts xs k n) := IntWalk.i64_in _ (by omega)
                have g2 : IntKind.i64.wrap (-(-(hiS ts xs k n) / 2 ^ shn)) = -(-(hiS ts xs k n) / 2 ^ shn) := IntWalk.i64_in _ (by omega)
                have g3 : min shn 64 = shn := by omega
                go_region_held3 (fun w' => w'.cell? ⟨w.heap.size, 1, none⟩ = some (.int .i64 shn))
                  (first | go_keep | (rw [hgrow.cell_far _ (by simp; omega) hne]; assumption))
                  ((refine step_append_lies _ (by rfl) _ _ _ (by rfl) (w.heap.size + 1) 104 i0 _ 2 16 Tryz.underlying95 hi hz0 hz1 hz2 rfl (by omega) u8 k (prs (bands ts shn xs k)) (by rfl) ((HOQ.out.alloc _).drew) ⟨wq.heap.size, 0, none⟩ 1 1 [.int .i64 (loS ts xs k n / 2 ^ shn), .int .i64 (-(-(hiS ts xs k n) / 2 ^ shn))] (by rfl) (by rfl) (World.news_of_block (cs := #[.int .i64 (loS ts xs k n / 2 ^ shn), .int .i64 (-(-(hiS ts xs k n) / 2 ^ shn))]) (t := 104) (fr := (0, 0)) (heap_alloc_new wq _)) (by simp [Value.oneCell']) (by omega) (by unfold maxLen; omega) (by omega) (by simp; omega) (wq.heap.size + 1) (by simp) ?_; intro gg cp wz hown1 hgrow hat hlt1))
                have hfin := hown1
                rw [show prs (bands ts shn xs k) ++ [.int .i64 (loS ts xs k n / 2 ^ shn), .int .i64 (-(-(hiS ts xs k n) / 2 ^ shn))] = prs (bands ts shn xs (k + 1)) from by rw [bands_succ, prs_append, HF.out]; rfl] at hfin
                have hbz := (bel_drewN (hbq.alloc hsz (.cells #[.int .i64 (loS ts xs k n / 2 ^ shn), .int .i64 (-(-(hiS ts xs k n) / 2 ^ shn))] 104)) 1).grown hgrow (by simp; omega) HOB.out
                clear hown1 hgrow g1 g2 g3 hd
                have HFIN := Lib.hid hfin; clear hfin
                go_wp2
                go_roundw
                case rel => exact ⟨k + 1, by omega, by go_num, HFIN.out, hbz⟩
                case measure => simp [intOf]; omega
        · obtain rfl : k = xs.length := by omega
          obtain ⟨a, c, rfl, hcs⟩ := own_cells hown
          have hst : strain ts shn xs = bands ts shn xs xs.length := by simp [strain, strErr, H1.out, H2.out]
          have hse : strErr ts shn xs = 0 := by simp [strErr, H1.out, H2.out]
          have HST := Lib.hid hst; clear hst
          have HSE := Lib.hid hse; clear hse
          have HCS := Lib.hid hcs; clear hcs
          have HO := Lib.hid hown; clear hown
          go_wp2
          go_ret2
          refine ⟨⟨a, c, ?_, ?_⟩, ((Below.refl _ _).alloc (Nat.le_refl _) _).trans (hb.mono (by omega))⟩
          · rw [HST.out, HSE.out, bands_length]; rfl
          · rw [HST.out]; exact HCS.out
    · have hst : strain ts sh xs = [] := by simp [strain, strErr, h1, h2]
      have hse : strErr ts sh xs = serErr xs := by simp [strErr, h1]
      have HST := Lib.hid hst; clear hst
      have HSE := Lib.hid hse; clear hse
      have h3 : (serErr xs != 0) = true := by simpa using h2
      have h4 : (serErr xs == 0) = false := by simpa using h2
      go_enter Tryz.func64, Tryz.ntmps64
      go_wp2_with fail
      refine (checkModel_any ao ts cap sh _ (HC.out.below ((Below.refl _ _).alloc (Nat.le_refl _) _) (Nat.le_refl _)) hl).mono ?_
      rintro e w1 ⟨rfl, hb⟩
      rw [h1]
      go_wp2_with fail
      refine (checkSeries_any ax xs cx _ (HX.out.below (((Below.refl _ _).alloc (Nat.le_refl _) _).trans (hb.mono (by simp))) (Nat.le_refl _)) hlx).mono ?_
      rintro e w2 ⟨rfl, hb2⟩
      go_wp2
      go_ret2
      refine ⟨⟨none, 0, ?_, ?_⟩, (((Below.refl _ _).alloc (Nat.le_refl _) _).trans (hb.mono (by simp))).trans (hb2.mono (by have := hb.size; simp at this; omega))⟩
      · rw [HST.out, HSE.out]; rfl
      · rw [HST.out]; exact Cells.nil _ _
  · have hst : strain ts sh xs = [] := by simp [strain, strErr, h1]
    have hse : strErr ts sh xs = modErr ts sh := by simp [strErr, h1]
    have HST := Lib.hid hst; clear hst
    have HSE := Lib.hid hse; clear hse
    have h3 : (modErr ts sh != 0) = true := by simpa using h1
    have h4 : (modErr ts sh == 0) = false := by simpa using h1
    go_enter Tryz.func64, Tryz.ntmps64
    go_wp2_with fail
    refine (checkModel_any ao ts cap sh _ (HC.out.below ((Below.refl _ _).alloc (Nat.le_refl _) _) (Nat.le_refl _)) hl).mono ?_
    rintro e w1 ⟨rfl, hb⟩
    go_wp2
    go_ret2
    refine ⟨⟨none, 0, ?_, ?_⟩, ((Below.refl _ _).alloc (Nat.le_refl _) _).trans (hb.mono (by simp))⟩
    · rw [HST.out, HSE.out]; rfl
    · rw [HST.out]; exact Cells.nil _ _
end Go.Proofs.YtoochleabcjljaaGreatDoor

/- Lines: lined, Inject, amplitude. -/
namespace Go.Proofs.YtoochleabcjljaaGreatDoor
open Go.RowKit

def linedErr (sh xs : List Int) : Int := if lineErr sh ≠ 0 then lineErr sh else serErr xs

theorem lined_any (ao : Option Addr) (sh : List Int) (cap : Nat) (ax : Option Addr) (xs : List Int) (cx : Nat) (w : World) (hc : Cells w ao (sh.map (Value.int .i64))) (hl : sh.length ≤ 17592186044416) (hx : Cells w ax (xs.map (Value.int .i64))) (hlx : xs.length ≤ 9223372036854775807) :
    Calls Tryz.prog 56 #[.slice ao sh.length cap, .slice ax xs.length cx] w fun e w' => e = .returned (.int .i64 (linedErr sh xs)) ∧ Below w.heap.size w w' := by
  have HC := Lib.hid hc; clear hc
  have HX := Lib.hid hx; clear hx
  by_cases h1 : lineErr sh = 0
  · have he : linedErr sh xs = serErr xs := by simp [linedErr, h1]
    have HE := Lib.hid he; clear he
    have H1 := Lib.hid h1; clear h1
    go_enter Tryz.func56, Tryz.ntmps56
    go_wp2_with fail
    refine (checkLine_any ao sh cap _ HC.out hl).mono ?_
    rintro e w1 ⟨rfl, rfl⟩
    rw [H1.out]
    go_wp2_with fail
    refine (checkSeries_any ax xs cx _ HX.out hlx).mono ?_
    rintro e w2 ⟨rfl, hb2⟩
    go_wp2
    go_ret
    exact ⟨ret_int HE.out.symm, hb2⟩
  · have he : linedErr sh xs = lineErr sh := by simp [linedErr, h1]
    have HE := Lib.hid he; clear he
    have h3 : (lineErr sh != 0) = true := by simpa using h1
    have h4 : (lineErr sh == 0) = false := by simpa using h1
    go_enter Tryz.func56, Tryz.ntmps56
    go_wp2_with fail
    refine (checkLine_any ao sh cap _ HC.out hl).mono ?_
    rintro e w1 ⟨rfl, rfl⟩
    go_wp2
    go_ret
    exact ⟨ret_int HE.out.symm, Below.refl _ _⟩

theorem lineErr_zero {xs : List Int} (h : lineErr xs = 0) : 2 ≤ xs.length ∧ xs.length ≤ 32 ∧ sumL xs = 0 ∧ ∀ x ∈ xs, -1000 ≤ x ∧ x ≤ 1000 := by
  have h1 : lineOK xs = true := by
    cases e : lineOK xs
    · simp [lineErr, e] at h
    · rfl
  simp only [lineOK, inB, Bool.and_eq_true, decide_eq_true_eq, List.all_eq_true] at h1
  exact ⟨by omega, by omega, h1.2.2.1, h1.1⟩

theorem linedErr_zero {sh xs : List Int} (h : linedErr sh xs = 0) : lineErr sh = 0 ∧ serErr xs = 0 := by
  by_cases h1 : lineErr sh = 0
  · exact ⟨h1, by simpa [linedErr, h1] using h⟩
  · simp [linedErr, h1] at h

def injAt (sh : List Int) (a : Int) (xs : List Int) (t : Nat) : Int := xs.getD t 0 + a * sh.getD (t % sh.length) 0
def inj (sh : List Int) (a : Int) (xs : List Int) (n : Nat) : List Int := (List.range n).map (injAt sh a xs)
theorem inj_length (sh : List Int) (a : Int) (xs : List Int) (n : Nat) : (inj sh a xs n).length = n := by simp [inj]
theorem inj_succ (sh : List Int) (a : Int) (xs : List Int) (n : Nat) : inj sh a xs (n + 1) = inj sh a xs n ++ [injAt sh a xs n] := by simp [inj, List.range_succ]
def injErr (sh : List Int) (a : Int) (xs : List Int) : Int :=
  if linedErr sh xs ≠ 0 then linedErr sh xs else if inB (-1000) a 1000 = false then 8 else if serOK (inj sh a xs xs.length) = false then 8 else 0
def injRes (sh : List Int) (a : Int) (xs : List Int) : List Int := if injErr sh a xs = 0 then inj sh a xs xs.length else []

theorem mul_bd {a x A X : Int} (h1 : -A ≤ a) (h2 : a ≤ A) (h3 : -X ≤ x) (h4 : x ≤ X) : -(A * X) ≤ a * x ∧ a * x ≤ A * X := by
  have ha : a.natAbs ≤ A.natAbs := by omega
  have hx : x.natAbs ≤ X.natAbs := by omega
  have h := Nat.mul_le_mul ha hx
  rw [← Int.natAbs_mul, ← Int.natAbs_mul] at h
  have : 0 ≤ A * X := Int.mul_nonneg (by omega) (by omega)
  omega

theorem Tryz.infoInt : (Tryz.prog.info? 3).map (fun i => (i.zero, i.size, i.bytes)) = some (some (.int .i64 0), 1, 8) := by kernel_rfl

set_option maxRecDepth 100000 in
set_option maxHeartbeats 1000000 in
theorem inject_any (ao : Option Addr) (sh : List Int) (cap : Nat) (a : Int) (ax : Option Addr) (xs : List Int) (cx : Nat) (w : World) (hc : Cells w ao (sh.map (Value.int .i64))) (hl : sh.length ≤ 17592186044416) (hx : Cells w ax (xs.map (Value.int .i64))) (hlx : xs.length ≤ 9223372036854775807) :
    Calls Tryz.prog 15 #[.slice ao sh.length cap, .int .i64 a, .slice ax xs.length cx] w fun e w' => (∃ b c, e = .returned (.tuple #[.slice b (injRes sh a xs).length c, .int .i64 (injErr sh a xs)]) ∧ Cells w' b ((injRes sh a xs).map (Value.int .i64))) ∧ Below w.heap.size w w' := by
  have HC := Lib.hid hc; clear hc
  have HX := Lib.hid hx; clear hx
  by_cases h1 : linedErr sh xs = 0
  · cases h2 : inB (-1000) a 1000
    · have he : injErr sh a xs = 8 := by simp [injErr, h1, h2]
      have hr : injRes sh a xs = [] := by simp [injRes, he]
      have HE := Lib.hid he; clear he
      have HR := Lib.hid hr; clear hr
      have H1 := Lib.hid h1; clear h1
      go_enter Tryz.func15, Tryz.ntmps15
      go_wp2_with fail
      refine (lined_any ao sh cap ax xs cx _ HC.out hl HX.out hlx).mono ?_
      rintro e w1 ⟨rfl, hb⟩
      rw [H1.out]
      go_wp2_with fail
      refine (within_any _ _ _ _).mono ?_
      rintro e w2 ⟨rfl, rfl⟩
      go_wp2
      go_ret2
      exact ⟨⟨none, 0, by rw [HE.out, HR.out]; rfl, by rw [HR.out]; exact Cells.nil _ _⟩, hb⟩
    · obtain ⟨hl1, hl2⟩ := linedErr_zero h1
      have l1 := lineErr_zero hl1
      have l2 := serErr_zero hl2
      obtain ⟨l11, l12, _, l13⟩ := l1
      obtain ⟨l21, l22⟩ := l2
      have ha : -1000 ≤ a ∧ a ≤ 1000 := by simpa [inB] using h2
      obtain ⟨ha1, ha2⟩ := ha
      have he : injErr sh a xs = if serOK (inj sh a xs xs.length) = false then 8 else 0 := by simp [injErr, h1, h2]
      have HE := Lib.hid he; clear he
      have H1 := Lib.hid h1; clear h1
      have L13 := Lib.hid l13; clear l13
      have L22 := Lib.hid l22; clear l22
      have H2 := Lib.hid h2; clear h2
      clear hl1 hl2
      obtain ⟨i0, hi, hz0, hz1, hz2⟩ := info_parts Tryz.infoInt
      go_enter Tryz.func15, Tryz.ntmps15
      go_wp2_with fail
      refine (lined_any ao sh cap ax xs cx _ HC.out hl HX.out hlx).mono ?_
      rintro e w1 ⟨rfl, hb⟩
      rw [H1.out]
      go_wp2_with fail
      refine (within_any _ _ _ _).mono ?_
      rintro e w2 ⟨rfl, rfl⟩
      rw [H2.out]
      go_wp2
      go_loopw [9, 23] (fun v i wr => ∃ k : Nat, k ≤ xs.length ∧ i = .int .i64 k ∧ wr.ownsRow w.heap.size 3 1 v k ((inj sh a xs k).map (Value.int .i64)) ∧ Below w.heap.size w wr) (fun _ i _ => xs.length - (intOf i).toNat)
      case atStart => exact ⟨0, Nat.zero_le _, rfl, World.ownsRow_nil _ _ _ _, hb⟩
      case round =>
        clear hb
        obtain ⟨k, hk, rfl, hown, hb⟩ := hrel
        by_cases hlt : k < xs.length
        · obtain ⟨x, hx⟩ := get_of_lt hlt
          have hm0 : k % sh.length < sh.length := Nat.mod_lt _ (by omega)
          obtain ⟨y, hy⟩ := get_of_lt hm0
          obtain ⟨b, off, rfl⟩ := HC.out.addr (by simpa using List.ne_nil_of_length_pos (by omega))
          obtain ⟨bx, ox, rfl⟩ := HX.out.addr (by simpa using List.ne_nil_of_length_pos (by omega))
          have c1 := cell_keep (HX.out.int hx) hb (Nat.le_refl _)
          have c2 := cell_keep (HC.out.int hy) hb (Nat.le_refl _)
          have t1 := L22.out _ (List.mem_of_getElem? hx)
          have t2 := L13.out _ (List.mem_of_getElem? hy)
          have p1 := mul_bd ha1 ha2 t2.1 t2.2
          obtain ⟨t11, t12⟩ := t1
          obtain ⟨p11, p12⟩ := p1
          have hat : injAt sh a xs k = x + a * y := by simp [injAt, hx, hy]
          have HAT := Lib.hid hat; clear hat hx hy
          have hsz := hb.size
          have HOB : Hid (∀ j, u9.ownBlock = some j → w.heap.size ≤ j) := fun j e => (hown.lt j e).1
          go_wp2_with (at_builtin; refine wpList_append_own _ rfl _ _ 22 rfl w.heap.size 3 i0 (.int .i64 0) 1 8 Tryz.underlying22 hi hz0 hz1 hz2 rfl (by decide) _ _ _ rfl (hown.alloc _) ⟨wr.heap.size, 0, none⟩ 1 1 [.int .i64 (x + a * y)] rfl rfl (news1 _ _ _) (by simp [Value.oneCell']) (by unfold maxLen; omega) (by omega) (by simp; omega) ?_; intro v1 wz hown1 hgrow _)
          all_goals
            have hfin := hown1
            rw [show (inj sh a xs k).map (Value.int .i64) ++ [.int .i64 (x + a * y)] = (inj sh a xs (k + 1)).map (Value.int .i64) from by rw [inj_succ, List.map_append, HAT.out]; rfl] at hfin
            have hbz := (hb.alloc hsz (.cells #[.int .i64 (x + a * y)] 3)).grown hgrow (by simp; omega) HOB.out
            clear hown1 hgrow hown
            have HFIN := Lib.hid hfin; clear hfin
            go_wp2
            go_roundw
            case rel => exact ⟨k + 1, by omega, by go_num, HFIN.out, hbz⟩
            case measure => simp [intOf]; omega
        · obtain rfl : k = xs.length := by omega
          obtain ⟨g, c, rfl, hcs⟩ := own_cells hown
          have hli : (inj sh a xs xs.length).length = xs.length := inj_length _ _ _ _
          have HCS := Lib.hid hcs; clear hcs hown
          have hser := fun (wx : World) (h : Cells wx g ((inj sh a xs xs.length).map (Value.int .i64))) => seriesOK_any g (inj sh a xs xs.length) c wx h (by rw [hli]; omega)
          rw [hli] at hser
          have HL := Lib.hid hli; clear hli
          have HSER := Lib.hid hser; clear hser
          cases hok : serOK (inj sh a xs xs.length)
          · have he : injErr sh a xs = 8 := by rw [HE.out, hok]; rfl
            have hr : injRes sh a xs = [] := by simp [injRes, he]
            have HE2 := Lib.hid he; clear he
            have HR2 := Lib.hid hr; clear hr
            have HOK := Lib.hid hok; clear hok
            go_wp2_with fail
            refine (HSER.out _ HCS.out).mono ?_
            rintro e w2 ⟨rfl, hb2⟩
            rw [HOK.out]
            go_wp2
            go_ret2
            exact ⟨⟨none, 0, by rw [HE2.out, HR2.out]; rfl, by rw [HR2.out]; exact Cells.nil _ _⟩, hb.trans (hb2.mono hb.size)⟩
          · have he : injErr sh a xs = 0 := by rw [HE.out, hok]; rfl
            have hr : injRes sh a xs = inj sh a xs xs.length := by simp [injRes, he]
            have HE2 := Lib.hid he; clear he
            have HR2 := Lib.hid hr; clear hr
            have HOK := Lib.hid hok; clear hok
            go_wp2_with fail
            refine (HSER.out _ HCS.out).mono ?_
            rintro e w2 ⟨rfl, hb2⟩
            rw [HOK.out]
            go_wp2
            go_ret2
            exact ⟨⟨g, c, by rw [HE2.out, HR2.out, HL.out]; rfl, by rw [HR2.out]; exact HCS.out.below hb2 (Nat.le_refl _)⟩, hb.trans (hb2.mono hb.size)⟩
  · have he : injErr sh a xs = linedErr sh xs := by simp [injErr, h1]
    have hr : injRes sh a xs = [] := by simp [injRes, he, h1]
    have HE := Lib.hid he; clear he
    have HR := Lib.hid hr; clear hr
    have h3 : (linedErr sh xs != 0) = true := by simpa using h1
    have h4 : (linedErr sh xs == 0) = false := by simpa using h1
    go_enter Tryz.func15, Tryz.ntmps15
    go_wp2_with fail
    refine (lined_any ao sh cap ax xs cx _ HC.out hl HX.out hlx).mono ?_
    rintro e w1 ⟨rfl, hb⟩
    go_wp2
    go_ret2
    exact ⟨⟨none, 0, by rw [HE.out, HR.out]; rfl, by rw [HR.out]; exact Cells.nil _ _⟩, hb⟩
end Go.Proofs.YtoochleabcjljaaGreatDoor

/- Records: Series. -/
namespace Go.Proofs.YtoochleabcjljaaGreatDoor
open Go.RowKit

theorem series1_any (x : Chan) (bc : Nat) (t : ByteArray) (w : World) (hc : w.cell? ⟨bc, 0, none⟩ = some (.string t)) :
    Calls Tryz.prog 81 #[.agg #[.string x.name, .int .i64 x.rate, .int .i64 x.bits], .pointer (some ⟨bc, 0, none⟩)] w fun e w' => e = .returned (.bool (sameName x.name t)) ∧ Below w.heap.size w w' := by
  have hc1 := cell_keep hc ((Below.refl _ _).alloc (Nat.le_refl _) (.cells #[.string x.name, .int .i64 x.rate, .int .i64 x.bits] 106)) (Nat.le_refl _)
  go_enter Tryz.func81, Tryz.ntmps81
  go_wp2
  go_ret
  exact ⟨rfl, (Below.refl _ _).alloc (Nat.le_refl _) _⟩

/-- is a frame within? -/
def inF (fr tt : Int) (f : Frm) : Bool := decide (fr ≤ f.st) && decide (f.st < tt)
def serOf (k : Nat) (fr tt : Int) (l : List Frm) : List Int := l.flatMap fun f => if inF fr tt f then f.xss.getD k [] else []
def cntOf (fr tt : Int) (l : List Frm) : Nat := (l.filter (inF fr tt)).length
theorem serOf_snoc (k : Nat) (fr tt : Int) (l : List Frm) (f : Frm) : serOf k fr tt (l ++ [f]) = serOf k fr tt l ++ if inF fr tt f then f.xss.getD k [] else [] := by simp [serOf]
theorem cntOf_snoc (fr tt : Int) (l : List Frm) (f : Frm) : cntOf fr tt (l ++ [f]) = cntOf fr tt l + if inF fr tt f then 1 else 0 := by
  rw [cntOf, List.filter_append, List.length_append, cntOf]
  cases h : inF fr tt f <;> simp [List.filter, h]
def chI (bs : List Chan) (name : ByteArray) : Nat := bs.findIdx fun c => sameName c.name name
def serE (bs : List Chan) (l : List Frm) (name : ByteArray) (fr tt : Int) : Int :=
  if btwErr bs l fr tt ≠ 0 then btwErr bs l fr tt else if (bs.any fun c => sameName c.name name) = false then 2 else if (cntOf fr tt l : Int) ≠ tt - fr then 4 else 0
def serR (bs : List Chan) (l : List Frm) (name : ByteArray) (fr tt : Int) : List Int := if serE bs l name fr tt = 0 then serOf (chI bs name) fr tt l else []

theorem findIdx_of {α : Type} {l : List α} {p : α → Bool} {i : Nat} {x : α} (h : l[i]? = some x) (hp : p x = true) (ht : (l.take i).any p = false) : l.findIdx p = i := by
  induction l generalizing i with
  | nil => simp at h
  | cons a l ih =>
    cases i with
    | zero => simp at h; subst h; simp [List.findIdx_cons, hp]
    | succ i =>
      simp only [List.take_succ_cons, List.any_cons, Bool.or_eq_false_iff] at ht
      rw [List.findIdx_cons, ht.1, ih (by simpa using h) ht.2]
      rfl

theorem frTo_row {bs : List Chan} {st : Int} {xss : List (List Int)} (h : frOK bs st xss = true) (hb : bookOK bs = true) {k : Nat} (hk : k < bs.length) : ∃ xs, xss[k]? = some xs ∧ 1 ≤ xs.length ∧ xs.length ≤ 64 := by
  simp only [frOK, Bool.and_eq_true, decide_eq_true_eq] at h
  obtain ⟨h1, h2, h3⟩ := h
  obtain ⟨xs, hx⟩ := get_of_lt (show k < xss.length by omega)
  obtain ⟨c, hc⟩ := get_of_lt hk
  have := book_get hb hc
  have hs := frTo_get h3 hk hc hx
  simp only [smpOK, Bool.and_eq_true, decide_eq_true_eq] at hs
  exact ⟨xs, hx, by omega, by omega⟩
theorem serOf_length (k : Nat) (fr tt : Int) (l : List Frm) (h : ∀ f ∈ l, (f.xss.getD k []).length ≤ 64) : (serOf k fr tt l).length ≤ 64 * l.length := by
  induction l with
  | nil => simp [serOf]
  | cons f l ih =>
    have := ih fun g hg => h g (by simp [hg])
    have h2 := h f (by simp)
    have e : serOf k fr tt (f :: l) = (if inF fr tt f then f.xss.getD k [] else []) ++ serOf k fr tt l := rfl
    have h3 : (if inF fr tt f then f.xss.getD k [] else []).length ≤ 64 := by
      split
      · exact h2
      · simp
    rw [e, List.length_append, List.length_cons]
    omega
theorem chI_spec {bs : List Chan} {name : ByteArray} (hany : (bs.any fun c => sameName c.name name) = true) : ∃ c, bs[chI bs name]? = some c ∧ sameName c.name name = true ∧ (bs.take (chI bs name)).any (fun c => sameName c.name name) = false := by
  have hlt : bs.findIdx (fun c : Chan => sameName c.name name) < bs.length := List.findIdx_lt_length.2 (by obtain ⟨x, hx, hp⟩ := List.any_eq_true.1 hany; exact ⟨x, hx, hp⟩)
  unfold chI
  refine ⟨bs[bs.findIdx (fun c : Chan => sameName c.name name)], by simp [hlt], List.findIdx_getElem (xs := bs) (p := fun c : Chan => sameName c.name name) (w := hlt), ?_⟩
  rw [List.any_eq_false]
  intro x hx
  obtain ⟨i, hi, rfl⟩ := List.mem_iff_getElem.1 hx
  rw [List.length_take] at hi
  rw [List.getElem_take]
  have := List.not_of_lt_findIdx (p := fun c : Chan => sameName c.name name) (xs := bs) (i := i) (by omega)
  simpa using this
theorem chI_uniq {bs : List Chan} {name : ByteArray} {i : Nat} {x : Chan} (h : bs[i]? = some x) (hp : sameName x.name name = true) (ht : (bs.take i).any (fun c => sameName c.name name) = false) : i = chI bs name := by
  unfold chI
  exact (findIdx_of (p := fun c : Chan => sameName c.name name) h hp ht).symm
theorem book_len {bs : List Chan} (h : bookOK bs = true) : bs.length ≤ 16 := by
  simp only [bookOK, inB, Bool.and_eq_true, decide_eq_true_eq] at h; omega
theorem Cells.at' {w : World} {ao : Option Addr} {b off : Nat} {cs : List Value} (h : Cells w ao cs) (ha : ao = some ⟨b, off, none⟩) {j : Nat} {u : Value} (hu : cs[j]? = some u) : w.cell? ⟨b, off + j, none⟩ = some u := by
  subst ha; exact h.at hu
theorem cntOf_le (fr tt : Int) (l : List Frm) : cntOf fr tt l ≤ l.length := List.length_filter_le _ _

set_option maxRecDepth 100000 in
set_option maxHeartbeats 1000000 in
theorem series_any (ao : Option Addr) (bs : List Chan) (cap : Nat) (al : Option Addr) (l : List Frm) (cl : Nat) (name : ByteArray) (fr tt : Int) (w : World) (hb : BookIn w ao bs cap) (hr : RecIn w al l) :
    Calls Tryz.prog 37 #[.slice ao bs.length cap, .slice al l.length cl, .string name, .int .i64 fr, .int .i64 tt] w fun e w' => (∃ v, e = .returned (.tuple #[v, .int .i64 (serE bs l name fr tt)]) ∧ w'.ownsRow w.heap.size 3 1 v (serR bs l name fr tt).length ((serR bs l name fr tt).map (Value.int .i64))) ∧ Below w.heap.size w w' := by
  have hb0 := (Below.refl w.heap.size w).alloc (Nat.le_refl _) (.cells #[.string name] 9)
  have hck := between_any ao bs cap al l cl fr tt _ (hb.below hb0 (Nat.le_refl _)) (hr.below hb0 (Nat.le_refl _))
  have HCK := Lib.hid hck; have HR := Lib.hid hr; have HB := Lib.hid hb
  have hbl := hb.len
  clear hck hb hr
  by_cases h1 : btwErr bs l fr tt = 0
  · obtain ⟨z0, z1, z2, z3⟩ := btwErr_zero h1
    obtain ⟨z5, z4, z6, _⟩ := recErr_zero z0
    have hok := bookErr_zero z5
    have H1 := Lib.hid h1; have Z6 := Lib.hid z6; have HOK := Lib.hid hok
    obtain ⟨i0, hi, hz0, hz1, hz2⟩ := info_parts Tryz.infoInt
    cases hany : bs.any fun c => sameName c.name name
    · have he : serE bs l name fr tt = 2 := by rw [serE, if_neg (by simpa using h1), hany]; rfl
      have hres : serR bs l name fr tt = [] := by rw [serR, he]; rfl
      have HE := Lib.hid he; have HS := Lib.hid hres; have HA := Lib.hid hany
      clear h1 z0 z5 z6 hok he hres hany
      go_enter Tryz.func37, Tryz.ntmps37
      go_wp2_with fail
      refine HCK.out.mono ?_
      rintro e w1 ⟨rfl, hb1⟩
      rw [H1.out]
      have hf := hb0.trans (hb1.mono hb0.size)
      have q0 : w1.cell? ⟨w.heap.size, 0, none⟩ = some (.string name) := box_keep hb1 (by simp) 0
      have HB1 := Lib.hid (HB.out.below hf (Nat.le_refl _))
      clear hb1
      go_wp2_with fail
      refine (indexFunc_chans 81 #[.pointer (some ⟨w.heap.size, 0, none⟩)] (fun c => sameName c.name name) ao bs cap w1 HB1.out.cells (by omega) (fun _ _ => by kernel_rfl) (fun x wx hx hbx => series1_any x w.heap.size name wx (cell_keep q0 hbx (Nat.le_refl _)))).mono ?_
      rintro e w2 ⟨⟨r, rfl, hr1, _⟩, hb2⟩
      have hr0 : r < 0 := by
        rw [HA.out] at hr1
        have := hr1.1
        rcases Int.lt_or_le r 0 with h | h
        · exact h
        · simp at hr1; omega
      have hf2 := hf.trans (hb2.mono hf.size)
      clear hr1 hf hb2 q0
      go_wp2
      go_ret2
      exact ⟨⟨_, by rw [HE.out]; rfl, by rw [HS.out]; exact World.ownsRow_nil _ _ _ _⟩, hf2⟩
    · obtain ⟨c0, hc0, hp0, ht0⟩ := chI_spec hany
      have hk := (List.getElem?_eq_some_iff.1 hc0).1
      have hrow : ∀ f ∈ l, ∃ xs, f.xss[chI bs name]? = some xs ∧ 1 ≤ xs.length ∧ xs.length ≤ 64 := fun f hf => frTo_row (z6 f hf) hok hk
      have hser : ∀ n, n ≤ l.length → (serOf (chI bs name) fr tt (l.take n)).length ≤ 64 * n := fun n hn => by
        have := serOf_length (chI bs name) fr tt (l.take n) (fun f hf => by
          obtain ⟨xs, h1, _, h2⟩ := hrow f (List.mem_of_mem_take hf)
          rw [List.getD_eq_getElem?_getD, h1]; exact h2)
        rw [List.length_take, Nat.min_eq_left hn] at this; exact this
      have HA := Lib.hid hany; have HROW := Lib.hid hrow; have HSER := Lib.hid hser
      have he : serE bs l name fr tt = if (cntOf fr tt l : Int) ≠ tt - fr then 4 else 0 := by rw [serE, if_neg (by simpa using h1), hany]; rfl
      have hrr : serR bs l name fr tt = if serE bs l name fr tt = 0 then serOf (chI bs name) fr tt l else [] := rfl
      have HE := Lib.hid he; have HRR := Lib.hid hrr
      have HF0 := Lib.hid (show ∀ i : Nat, (∃ x, bs[i]? = some x ∧ sameName x.name name = true ∧ (bs.take i).any (fun c => sameName c.name name) = false) → i = chI bs name from fun i ⟨x, a, b, c⟩ => chI_uniq a b c)
      have hk16 : chI bs name < 16 := by
        have := (book_len hok); omega
      clear h1 z0 z5 z6 hok he hrr hany hrow hser hc0 hp0 ht0
      generalize serE bs l name fr tt = ee at *
      generalize serR bs l name fr tt = rr at *
      generalize chI bs name = ck at *
      go_enter Tryz.func37, Tryz.ntmps37
      go_wp2_with fail
      refine HCK.out.mono ?_
      rintro e w1 ⟨rfl, hb1⟩
      rw [H1.out]
      have hf := hb0.trans (hb1.mono hb0.size)
      have q0 : w1.cell? ⟨w.heap.size, 0, none⟩ = some (.string name) := box_keep hb1 (by simp) 0
      have HB1 := Lib.hid (HB.out.below hf (Nat.le_refl _))
      clear hb1
      go_wp2_with fail
      refine (indexFunc_chans 81 #[.pointer (some ⟨w.heap.size, 0, none⟩)] (fun c => sameName c.name name) ao bs cap w1 HB1.out.cells (by omega) (fun _ _ => by kernel_rfl) (fun x wx hx hbx => series1_any x w.heap.size name wx (cell_keep q0 hbx (Nat.le_refl _)))).mono ?_
      rintro e w2 ⟨⟨r, rfl, hr1, hr2⟩, hb2⟩
      have hr0 : 0 ≤ r := hr1.2 HA.out
      obtain ⟨rn, rfl⟩ := Int.eq_ofNat_of_zero_le hr0
      obtain rfl : rn = ck := HF0.out rn (hr2 rn rfl)
      have hf2 := hf.trans (hb2.mono hf.size)
      have HR2 := Lib.hid (HR.out.below hf2 (Nat.le_refl _))
      clear hr1 hr2 hf hb2 q0 hr0
      have hrf := Below.refl w2.heap.size w2
      go_wp2
      go_loopw [14, 15, 33] (fun v s i wr => ∃ k : Nat, k ≤ l.length ∧ i = .int .i64 k ∧ s = .int .i64 (cntOf fr tt (l.take k) : Nat) ∧ wr.ownsRow w2.heap.size 3 1 v (serOf rn fr tt (l.take k)).length ((serOf rn fr tt (l.take k)).map (Value.int .i64)) ∧ Below w2.heap.size w2 wr) (fun _ _ i _ => l.length - (intOf i).toNat)
      case atStart => exact ⟨0, Nat.zero_le _, rfl, rfl, World.ownsRow_nil _ _ _ _, hrf⟩
      case round =>
        clear hrf
        obtain ⟨k, hk1, rfl, rfl, hown, hbr⟩ := hrel
        have hcl := cntOf_le fr tt (l.take k)
        rw [List.length_take, Nat.min_eq_left hk1] at hcl
        by_cases hlt : k < l.length
        · obtain ⟨⟨xst, xa, xc, xss⟩, hx⟩ := get_of_lt hlt
          obtain ⟨xs, hxs, hx1, hx2⟩ := HROW.out _ (List.mem_of_getElem? hx)
          obtain ⟨bl, ol, rfl⟩ := HR2.out.cells.addr (frs_ne (by omega))
          have d0 := cell_keep (HR2.out.cells.at (frs_get hx).1) hbr (Nat.le_refl _)
          have d1 := cell_keep (HR2.out.cells.at (frs_get hx).2) hbr (Nat.le_refl _)
          rw [← Nat.add_assoc] at d1
          obtain ⟨_, vs, hvs, hrv⟩ := HR2.out.rows _ (List.mem_of_getElem? hx)
          simp only at hxs hvs hrv d0 d1
          obtain ⟨v, hv⟩ := get_of_lt (show rn < vs.length by have := (List.getElem?_eq_some_iff.1 hxs).1; have := hrv.1; omega)
          obtain ⟨ax, cx, rfl, hax, _⟩ := hrv.2 rn v xs hv hxs
          obtain ⟨bv, ov, rfl⟩ := hvs.addr (List.ne_nil_of_length_pos (by have := (List.getElem?_eq_some_iff.1 hv).1; omega))
          obtain ⟨bx, ox, rfl⟩ := hax.addr (by simpa using List.ne_nil_of_length_pos (by omega))
          have hst : serOf rn fr tt (l.take (k + 1)) = serOf rn fr tt (l.take k) ++ if inF fr tt ⟨xst, some ⟨bv, ov, none⟩, xc, xss⟩ then xs else [] := by
            rw [take_get hx, serOf_snoc, List.getD_eq_getElem?_getD, hxs]; rfl
          have hct : cntOf fr tt (l.take (k + 1)) = cntOf fr tt (l.take k) + if inF fr tt ⟨xst, some ⟨bv, ov, none⟩, xc, xss⟩ then 1 else 0 := by rw [take_get hx, cntOf_snoc]
          have hsl := HSER.out k hk1
          have HST := Lib.hid hst; have HCT := Lib.hid hct; have HO := Lib.hid hown
          have hz := hbr.size
          have hba := hbr.alloc hz (.cells #[.int .i64 xst, .slice (some ⟨bv, ov, none⟩) xss.length xc] 43)
          by_cases hin : fr ≤ xst ∧ xst < tt
          · have hi0 : inF fr tt ⟨xst, some ⟨bv, ov, none⟩, xc, xss⟩ = true := by simp [inF, hin.1, hin.2]
            obtain ⟨hi1, hi2⟩ := hin
            rw [hi0] at HST HCT
            have e1 := cell_keep (hvs.at hv) hba (Nat.le_refl _)
            have HAX := Lib.hid (hax.below hba (Nat.le_refl _))
            have hkx : rn < xss.length := (List.getElem?_eq_some_iff.1 hxs).1
            have hbx := Blk.new wr 43 #[.int .i64 xst, .slice (some ⟨bv, ov, none⟩) xss.length xc]
            clear hst hct hown hxs hx hv hvs hrv hax hi0
            have hcts : Below w2.heap.size w2 wr := hbr
            clear hbx
            go_wp2_with (at_builtin; refine wpList_append_lies _ rfl _ _ _ rfl w2.heap.size 3 i0 (.int .i64 0) 1 8 Tryz.underlying22 hi hz0 hz1 hz2 rfl (by decide) _ _ _ rfl (HO.out.alloc _) ⟨bx, ox, none⟩ xs.length cx (xs.map (Value.int .i64)) rfl (by simp) (fun j u hu => by rw [Addr.add_lit]; exact HAX.out.at hu) (by intro u hu; obtain ⟨d, _, rfl⟩ := List.mem_map.1 hu; rfl) (by omega) (by unfold maxLen; omega) (by omega) (by simp; omega) (wr.heap.size + 1) (by simp) ?_)
            intro gg cp wz hown1 hgrow hat hlt1
            have hfin : wz.ownsRow w2.heap.size 3 1 (.slice (some ⟨gg, 0, none⟩) ((serOf rn fr tt (l.take k)).length + xs.length) cp) (serOf rn fr tt (l.take (k + 1))).length ((serOf rn fr tt (l.take (k + 1))).map (Value.int .i64)) := by
              rw [HST.out, if_pos trivial, List.length_append, List.map_append]; exact hown1
            have hbz := hba.grown hgrow (by simp; omega) (fun j e => (HO.out.lt j e).1)
            have HFIN := Lib.hid hfin
            clear hown1 hgrow hat hlt1 hfin
            go_wp2
            go_roundw
            case rel => exact ⟨k + 1, by omega, by go_num, by rw [HCT.out, if_pos trivial]; go_num, HFIN.out, hbz⟩
            case measure => simp [intOf]; omega
          · have hi0 : inF fr tt ⟨xst, some ⟨bv, ov, none⟩, xc, xss⟩ = false := by
              simp only [inF, Bool.and_eq_false_iff, decide_eq_false_iff_not]; omega
            rw [hi0] at HST HCT
            have hfin : (wr.alloc (.cells #[.int .i64 xst, .slice (some ⟨bv, ov, none⟩) xss.length xc] 43)).ownsRow w2.heap.size 3 1 u14 (serOf rn fr tt (l.take (k + 1))).length ((serOf rn fr tt (l.take (k + 1))).map (Value.int .i64)) := by
              rw [HST.out, if_neg (by simp), List.append_nil]; exact HO.out.alloc _
            have HFIN := Lib.hid hfin
            have hct2 : cntOf fr tt (l.take (k + 1)) = cntOf fr tt (l.take k) := by rw [HCT.out]; simp
            have HCT2 := Lib.hid hct2
            clear hst hct hown hxs hx hv hvs hrv hax hi0 hfin hct2
            have hjj : xst < fr ∨ (fr ≤ xst ∧ tt ≤ xst) := by omega
            clear hin
            rcases hjj with h | ⟨h, h'⟩
            all_goals
              go_wp2
              go_roundw
              case rel => exact ⟨k + 1, by omega, by go_num, by rw [HCT2.out], HFIN.out, hba⟩
              case measure => simp [intOf]; omega
        · obtain rfl : k = l.length := by omega
          rw [List.take_length] at hown hcl ⊢
          have HO := Lib.hid hown
          have hbf := hf2.trans (hbr.mono hf2.size)
          have hsz2 := hf2.size
          by_cases hcc : (cntOf fr tt l : Int) = tt - fr
          · have he0 : ee = 0 := by rw [HE.out, if_neg (by omega)]
            have hr0 : rr = serOf rn fr tt l := by rw [HRR.out, if_pos he0]
            have HE0 := Lib.hid he0; have HR0 := Lib.hid hr0
            have hneq : ((cntOf fr tt l : Int) != tt - fr) = false := by simpa using hcc
            clear hown he0 hr0 hcc
            go_wp2
            go_ret2
            exact ⟨⟨_, by rw [HE0.out]; rfl, by rw [HR0.out]; exact own_base HO.out hsz2⟩, hbf⟩
          · have he0 : ee = 4 := by rw [HE.out, if_pos hcc]
            have hr0 : rr = [] := by rw [HRR.out, if_neg (by rw [he0]; decide)]
            have HE0 := Lib.hid he0; have HR0 := Lib.hid hr0
            have hneq : ((cntOf fr tt l : Int) != tt - fr) = true := by simpa using hcc
            clear hown he0 hr0
            go_wp2
            go_ret2
            exact ⟨⟨_, by rw [HE0.out]; rfl, by rw [HR0.out]; exact World.ownsRow_nil _ _ _ _⟩, hbf⟩
  · have he : serE bs l name fr tt = btwErr bs l fr tt := by rw [serE, if_pos h1]
    have hres : serR bs l name fr tt = [] := by rw [serR, he, if_neg h1]
    have h3 : (btwErr bs l fr tt != 0) = true := by simpa using h1
    have h4 : (btwErr bs l fr tt == 0) = false := by simpa using h1
    have HE := Lib.hid he; have HS := Lib.hid hres
    clear he hres
    go_enter Tryz.func37, Tryz.ntmps37
    go_wp2_with fail
    refine HCK.out.mono ?_
    rintro e w1 ⟨rfl, hb1⟩
    have hf := hb0.trans (hb1.mono hb0.size)
    go_wp2
    go_ret2
    exact ⟨⟨_, by rw [HE.out]; rfl, by rw [HS.out]; exact World.ownsRow_nil _ _ _ _⟩, hf⟩
end Go.Proofs.YtoochleabcjljaaGreatDoor

/- RecordSeconds: the plain law: gaps and frames make up all seconds. -/
namespace Go.Proofs.YtoochleabcjljaaGreatDoor
open Go.RowKit

/-- is a second in one of the spans? is it that of a frame? -/
def mis (ss : List (Int × Int)) (s : Int) : Bool := ss.any fun p => decide (p.1 ≤ s) && decide (s < p.2)
def occ (l : List Frm) (s : Int) : Bool := l.any fun f => decide (f.st = s)
theorem mis_snoc (ss : List (Int × Int)) (a b s : Int) : mis (ss ++ [(a, b)]) s = (mis ss s || (decide (a ≤ s) && decide (s < b))) := by simp [mis]
theorem occ_snoc (l : List Frm) (f : Frm) (s : Int) : occ (l ++ [f]) s = (occ l s || decide (f.st = s)) := by simp [occ]
def Inc (l : List Frm) : Prop := l.Pairwise fun a b => a.st < b.st
/-- where the last span ends -/
def lastOf (fr : Int) (ss : List (Int × Int)) (i : Nat) : Int := if i = 0 then fr - 1 else (ss.getD (i - 1) (0, 0)).2

structure GapI (fr tt at_ : Int) (ss : List (Int × Int)) (l : List Frm) : Prop where
  lo : fr ≤ at_
  hi : at_ ≤ tt
  from_ : at_ = fr ∨ ∃ g ∈ l, at_ = g.st + 1
  below : ∀ f ∈ l, fr ≤ f.st → f.st < tt → f.st < at_
  mis : ∀ s, mis ss s = true ↔ fr ≤ s ∧ s < at_ ∧ occ l s = false
  chain : ∀ i p, ss[i]? = some p → lastOf fr ss i < p.1 ∧ p.1 < p.2 ∧ p.2 < at_

theorem occ_true {l : List Frm} {s : Int} (h : occ l s = true) : ∃ f ∈ l, f.st = s := by
  obtain ⟨f, hf, h⟩ := List.any_eq_true.1 h
  exact ⟨f, hf, by simpa using h⟩
theorem occ_false {l : List Frm} {s : Int} (h : ∀ f ∈ l, f.st ≠ s) : occ l s = false := by
  rw [occ, List.any_eq_false]
  intro f hf; simpa using h f hf

theorem lastOf_lt {fr at_ : Int} {ss : List (Int × Int)} (h1 : fr ≤ at_) (h : ∀ i p, ss[i]? = some p → lastOf fr ss i < p.1 ∧ p.1 < p.2 ∧ p.2 < at_) : lastOf fr ss ss.length < at_ := by
  unfold lastOf
  split
  · omega
  · rename_i h0
    obtain ⟨p, hp⟩ := get_of_lt (show ss.length - 1 < ss.length by omega)
    rw [List.getD_eq_getElem?_getD, hp]
    exact (h _ p hp).2.2
theorem lastOf_snoc {fr : Int} {ss : List (Int × Int)} {q : Int × Int} {i : Nat} (hi : i ≤ ss.length) : lastOf fr (ss ++ [q]) i = lastOf fr ss i := by
  unfold lastOf
  split
  · rfl
  · rw [List.getD_eq_getElem?_getD, List.getD_eq_getElem?_getD, List.getElem?_append_left (by omega)]

/-- the chain and the spans after one more end -/
theorem chain_add {fr at_ e : Int} {ss : List (Int × Int)} (h1 : fr ≤ at_) (h : ∀ i p, ss[i]? = some p → lastOf fr ss i < p.1 ∧ p.1 < p.2 ∧ p.2 < at_) (he : at_ ≤ e) (hb : Int) (hbe : e < hb) :
    ∀ i p, (addS at_ ss e)[i]? = some p → lastOf fr (addS at_ ss e) i < p.1 ∧ p.1 < p.2 ∧ p.2 < hb := by
  intro i p hp
  unfold addS at hp ⊢
  split at hp
  · rename_i hlt
    rw [if_pos hlt]
    rcases Nat.lt_trichotomy i ss.length with hi | hi | hi
    · rw [List.getElem?_append_left hi] at hp
      have := h i p hp
      rw [lastOf_snoc (by omega)]
      omega
    · subst hi
      rw [List.getElem?_append_right (Nat.le_refl _), Nat.sub_self] at hp
      simp at hp
      subst hp
      have := lastOf_lt h1 h
      rw [lastOf_snoc (Nat.le_refl _)]
      simp only
      omega
    · rw [List.getElem?_eq_none (by simp; omega)] at hp
      simp at hp
  · rename_i hlt
    rw [if_neg hlt]
    have := h i p hp
    omega
theorem mis_add {at_ e : Int} {ss : List (Int × Int)} {s : Int} : mis (addS at_ ss e) s = true ↔ mis ss s = true ∨ (at_ ≤ s ∧ s < e) := by
  unfold addS
  split
  · rw [mis_snoc]; simp
  · constructor
    · exact .inl
    · rintro (h | h)
      · exact h
      · omega

theorem gapI {fr tt : Int} (hft : fr ≤ tt) (l : List Frm) (hl : Inc l) : GapI fr tt (gapsTo fr tt l).1 (gapsTo fr tt l).2 l := by
  suffices ∀ n (l : List Frm), l.length = n → Inc l → GapI fr tt (gapsTo fr tt l).1 (gapsTo fr tt l).2 l from this _ l rfl hl
  intro n
  induction n with
  | zero =>
    intro l h _
    rw [List.length_eq_zero_iff.1 h]
    refine ⟨Int.le_refl _, hft, .inl rfl, by simp, fun s => ?_, by simp [gapsTo]⟩
    simp [gapsTo, mis]; omega
  | succ n ih =>
    intro l hl hi
    obtain ⟨l', f, rfl⟩ : ∃ l' f, l = l' ++ [f] := by
      rcases List.eq_nil_or_concat l with rfl | ⟨l', b, rfl⟩
      · simp at hl
      · exact ⟨l', b, by simp⟩
    simp at hl
    obtain ⟨hi1, _, hi2⟩ := List.pairwise_append.1 hi
    have h := ih l' hl hi1
    have hlt : ∀ g ∈ l', g.st < f.st := fun g hg => hi2 g hg f (by simp)
    rw [gapsTo_snoc]
    generalize hat : (gapsTo fr tt l').1 = at_ at *
    generalize hss : (gapsTo fr tt l').2 = ss at *
    have hgs : gapStep fr tt (gapsTo fr tt l') f = if fr ≤ f.st ∧ f.st < tt then (f.st + 1, addS at_ ss f.st) else (at_, ss) := by
      rw [gapStep, hat, hss]
      split
      · rfl
      · rw [← hat, ← hss]
    rw [hgs]
    split
    · rename_i hin
      have hge : at_ ≤ f.st := by
        rcases h.from_ with h0 | ⟨g, hg, h0⟩
        · omega
        · have := hlt g hg; omega
      refine ⟨by simp only; omega, by simp only; omega, .inr ⟨f, by simp, rfl⟩, fun g hg h1 h2 => ?_, fun s => ?_, ?_⟩
      · rcases List.mem_append.1 hg with hg | hg
        · have := hlt g hg; simp only; omega
        · simp at hg; subst hg; simp only; omega
      · simp only
        rw [mis_add, h.mis, occ_snoc, Bool.or_eq_false_iff, decide_eq_false_iff_not]
        constructor
        · rintro (⟨a1, a2, a3⟩ | ⟨a1, a2⟩)
          · exact ⟨a1, by omega, a3, by omega⟩
          · refine ⟨by have := h.lo; omega, by omega, occ_false fun g hg hgs => ?_, by omega⟩
            have := h.below g hg (by have := h.lo; omega) (by omega)
            omega
        · rintro ⟨a1, a2, a3, a4⟩
          by_cases hs : s < at_
          · exact .inl ⟨a1, hs, a3⟩
          · exact .inr ⟨by omega, by omega⟩
      · exact chain_add h.lo h.chain hge (f.st + 1) (by omega)
    · rename_i hin
      refine ⟨h.lo, h.hi, ?_, fun g hg h1 h2 => ?_, fun s => ?_, h.chain⟩
      · rcases h.from_ with h0 | ⟨g, hg, h0⟩
        · exact .inl h0
        · exact .inr ⟨g, by simp [hg], h0⟩
      · rcases List.mem_append.1 hg with hg | hg
        · exact h.below g hg h1 h2
        · simp at hg; subst hg; omega
      · simp only
        rw [h.mis, occ_snoc, Bool.or_eq_false_iff, decide_eq_false_iff_not]
        constructor
        · rintro ⟨a1, a2, a3⟩; exact ⟨a1, a2, a3, by have := h.hi; omega⟩
        · rintro ⟨a1, a2, a3, _⟩; exact ⟨a1, a2, a3⟩

theorem upTo_inc {l : List Frm} (h : upTo l l.length = true) : Inc l := by
  have key : ∀ n, n ≤ l.length → upTo l n = true → Inc (l.take n) ∧ ∀ f ∈ l.take n, n = 0 ∨ f.st ≤ (l.getD (n - 1) ⟨0, none, 0, []⟩).st := by
    intro n
    induction n with
    | zero => intro _ _; exact ⟨by simp [Inc], by simp⟩
    | succ n ih =>
      intro hn hu
      simp only [upTo, Bool.and_eq_true, Bool.or_eq_true, decide_eq_true_eq] at hu
      obtain ⟨h1, h2⟩ := ih (by omega) hu.1
      obtain ⟨x, hx⟩ := get_of_lt (show n < l.length by omega)
      have hxd : l.getD n ⟨0, none, 0, []⟩ = x := by rw [List.getD_eq_getElem?_getD, hx]; rfl
      rw [take_get hx, Nat.add_sub_cancel, hxd]
      have hlt : ∀ g ∈ l.take n, g.st < x.st := by
        intro g hg
        rcases h2 g hg with h0 | h0
        · subst h0; simp at hg
        · rcases hu.2 with h3 | h3
          · subst h3; simp at hg
          · rw [hxd] at h3; omega
      refine ⟨List.pairwise_append.2 ⟨h1, by simp, fun a ha b hb => by simp at hb; subst hb; exact hlt a ha⟩, fun f hf => .inr ?_⟩
      rcases List.mem_append.1 hf with hf | hf
      · have := hlt f hf; omega
      · simp at hf; subst hf; exact Int.le_refl _
  have := (key l.length (Nat.le_refl _) h).1
  rwa [List.take_length] at this

/-- all gaps: what is missing, and their order -/
theorem gaps_all {fr tt : Int} (hft : fr ≤ tt) {l : List Frm} (hl : Inc l) :
    (∀ s, mis (gapsOf fr tt l) s = true ↔ fr ≤ s ∧ s < tt ∧ occ l s = false) ∧ ∀ i p, (gapsOf fr tt l)[i]? = some p → lastOf fr (gapsOf fr tt l) i < p.1 ∧ p.1 < p.2 ∧ p.2 ≤ tt ∧ fr ≤ p.1 := by
  have h := gapI hft l hl
  have hm : ∀ s, mis (gapsOf fr tt l) s = true ↔ fr ≤ s ∧ s < tt ∧ occ l s = false := by
    intro s
    rw [gapsOf, mis_add, h.mis]
    constructor
    · rintro (⟨a1, a2, a3⟩ | ⟨a1, a2⟩)
      · exact ⟨a1, by have := h.hi; omega, a3⟩
      · refine ⟨by have := h.lo; omega, a2, occ_false fun g hg hgs => ?_⟩
        have := h.below g hg (by have := h.lo; omega) (by omega)
        omega
    · rintro ⟨a1, a2, a3⟩
      by_cases hs : s < (gapsTo fr tt l).1
      · exact .inl ⟨a1, hs, a3⟩
      · exact .inr ⟨by omega, a2⟩
  refine ⟨hm, fun i p hp => ?_⟩
  have hc := chain_add h.lo h.chain h.hi (tt + 1) (by omega) i p hp
  refine ⟨hc.1, hc.2.1, by omega, ?_⟩
  have : mis (gapsOf fr tt l) p.1 = true := by
    rw [mis, List.any_eq_true]
    exact ⟨p, List.mem_of_getElem? hp, by simp; omega⟩
  exact ((hm p.1).1 this).1

/-- how many of the first n -/
def cntB (p : Nat → Bool) : Nat → Nat
  | 0 => 0
  | n + 1 => cntB p n + if p n then 1 else 0
theorem cntB_le (p : Nat → Bool) (n : Nat) : cntB p n ≤ n := by
  induction n with
  | zero => simp [cntB]
  | succ n ih => rw [cntB]; split <;> omega
theorem cntB_congr {p q : Nat → Bool} {n : Nat} (h : ∀ j, j < n → p j = q j) : cntB p n = cntB q n := by
  induction n with
  | zero => rfl
  | succ n ih => rw [cntB, cntB, ih fun j hj => h j (by omega), h n (by omega)]
theorem cntB_not (p : Nat → Bool) (n : Nat) : cntB p n + cntB (fun j => !p j) n = n := by
  induction n with
  | zero => rfl
  | succ n ih => rw [cntB, cntB]; cases p n <;> simp <;> omega
theorem cntB_or {p q : Nat → Bool} {n : Nat} (h : ∀ j, j < n → ¬ (p j = true ∧ q j = true)) : cntB (fun j => p j || q j) n = cntB p n + cntB q n := by
  induction n with
  | zero => rfl
  | succ n ih =>
    rw [cntB, cntB, cntB, ih fun j hj => h j (by omega)]
    have := h n (by omega)
    cases hp : p n <;> cases hq : q n <;> simp_all <;> omega
theorem cntB_one (fr st : Int) (n : Nat) : cntB (fun j => decide (st = fr + (j : Int))) n = if fr ≤ st ∧ st < fr + n then 1 else 0 := by
  induction n with
  | zero => rw [cntB, if_neg (by omega)]
  | succ n ih =>
    rw [cntB, ih]
    by_cases h1 : st = fr + n
    · rw [if_neg (by omega), if_pos (by simpa using h1), if_pos (by omega)]
    · by_cases h2 : fr ≤ st ∧ st < fr + n
      · rw [if_pos h2, if_neg (by simpa using h1), if_pos (by omega)]
      · rw [if_neg h2, if_neg (by simpa using h1), if_neg (by omega)]
theorem cntB_zero {p : Nat → Bool} {n : Nat} (h : cntB p n = 0) : ∀ j, j < n → p j = false := by
  induction n with
  | zero => intro j hj; omega
  | succ n ih =>
    intro j hj
    rw [cntB] at h
    by_cases hjn : j = n
    · subst hjn; cases hp : p j
      · rfl
      · rw [hp] at h; simp at h
    · exact ih (by omega) j (by omega)

theorem occ_count (fr : Int) (n : Nat) (l : List Frm) (hl : Inc l) : cntB (fun j => occ l (fr + (j : Int))) n = cntOf fr (fr + n) l := by
  suffices ∀ m (l : List Frm), l.length = m → Inc l → cntB (fun j => occ l (fr + (j : Int))) n = cntOf fr (fr + n) l from this _ l rfl hl
  intro m
  induction m with
  | zero =>
    intro l h _
    rw [List.length_eq_zero_iff.1 h]
    have : ∀ n, cntB (fun j => occ [] (fr + (j : Int))) n = 0 := by
      intro n; induction n with
      | zero => rfl
      | succ n ih => rw [cntB, ih]; simp [occ]
    rw [this]; simp [cntOf]
  | succ m ih =>
    intro l hl hi
    obtain ⟨l', f, rfl⟩ : ∃ l' f, l = l' ++ [f] := by
      rcases List.eq_nil_or_concat l with rfl | ⟨l', b, rfl⟩
      · simp at hl
      · exact ⟨l', b, by simp⟩
    simp at hl
    obtain ⟨hi1, _, hi2⟩ := List.pairwise_append.1 hi
    rw [cntOf_snoc, ← ih l' hl hi1]
    simp only [occ_snoc]
    rw [cntB_or fun j _ ⟨h1, h2⟩ => by
      obtain ⟨g, hg, hgs⟩ := occ_true h1
      have := hi2 g hg f (by simp)
      simp at h2; omega, cntB_one]
    simp [inF]

/-- gaps and frames make up all seconds -/
theorem seconds_count {fr tt : Int} (hft : fr ≤ tt) {l : List Frm} (hl : Inc l) : cntOf fr tt l + cntB (fun j => mis (gapsOf fr tt l) (fr + (j : Int))) (tt - fr).toNat = (tt - fr).toNat := by
  have h1 := occ_count fr (tt - fr).toNat l hl
  have e : fr + ((tt - fr).toNat : Int) = tt := by omega
  rw [e] at h1
  rw [← h1]
  have h2 := cntB_not (fun j => occ l (fr + (j : Int))) (tt - fr).toNat
  have h3 : cntB (fun j => mis (gapsOf fr tt l) (fr + (j : Int))) (tt - fr).toNat = cntB (fun j => !occ l (fr + (j : Int))) (tt - fr).toNat := by
    refine cntB_congr fun j hj => ?_
    rw [Bool.eq_iff_iff, (gaps_all hft hl).1]
    simp only [Bool.not_eq_true']
    exact ⟨fun h => h.2.2, fun h => ⟨by omega, by omega, h⟩⟩
  rw [h3]; exact h2
/-- nothing is missing just where there is no gap -/
theorem no_gap {fr tt : Int} (hft : fr ≤ tt) {l : List Frm} (hl : Inc l) : ((cntOf fr tt l : Int) = tt - fr) ↔ (gapsOf fr tt l).length = 0 := by
  have hs := seconds_count hft hl
  constructor
  · intro h
    have h0 : cntB (fun j => mis (gapsOf fr tt l) (fr + (j : Int))) (tt - fr).toNat = 0 := by omega
    rcases Nat.eq_zero_or_pos (gapsOf fr tt l).length with h1 | h1
    · exact h1
    · obtain ⟨p, hp⟩ := get_of_lt h1
      obtain ⟨_, c2, c3, c4⟩ := (gaps_all hft hl).2 0 p hp
      have := cntB_zero h0 (p.1 - fr).toNat (by omega)
      rw [show fr + ((p.1 - fr).toNat : Int) = p.1 by omega] at this
      rw [mis, List.any_eq_false] at this
      have := this p (List.mem_of_getElem? hp)
      simp at this; omega
  · intro h
    have h1 : gapsOf fr tt l = [] := List.length_eq_zero_iff.1 h
    rw [h1] at hs
    have : ∀ n, cntB (fun j => mis [] (fr + (j : Int))) n = 0 := by
      intro n; induction n with
      | zero => rfl
      | succ n ih => rw [cntB, ih]; simp [mis]
    rw [this] at hs
    omega
end Go.Proofs.YtoochleabcjljaaGreatDoor

/- The chapter's own span, Gaps. -/
namespace Go.Proofs.YtoochleabcjljaaGreatDoor
open Go.RowKit

set_option maxRecDepth 100000 in
theorem refSpan_any (ao : Option Addr) (bs : List Chan) (cap : Nat) (al : Option Addr) (l : List Frm) (cl : Nat) (fr tt : Int) (w : World) (hb : BookIn w ao bs cap) (hr : RecIn w al l) :
    Calls Tryz.prog 79 #[.slice ao bs.length cap, .slice al l.length cl, .int .i64 fr, .int .i64 tt] w fun e w' => e = .returned (.int .i64 (btwErr bs l fr tt)) ∧ Below w.heap.size w w' := by
  have hck := refCheckRecord_any ao bs cap al l cl w hb hr
  have HCK := Lib.hid hck
  clear hck hb hr
  by_cases h1 : recErr bs l = 0
  · have H1 := Lib.hid h1
    have he : btwErr bs l fr tt = if fr < 0 ∨ tt < fr ∨ 1073741824 < tt then 8 else 0 := by rw [btwErr, if_neg (by simpa using h1)]
    have HE := Lib.hid he
    clear h1 he
    have hj : fr < 0 ∨ (¬ fr < 0 ∧ tt < fr) ∨ (¬ fr < 0 ∧ ¬ tt < fr ∧ 1073741824 < tt) ∨ (¬ fr < 0 ∧ ¬ tt < fr ∧ ¬ 1073741824 < tt) := by omega
    rcases hj with h2 | ⟨h2, h3⟩ | ⟨h2, h3, h4⟩ | ⟨h2, h3, h4⟩
    all_goals
      go_enter Tryz.func79, Tryz.ntmps79
      go_wp2_with fail
      refine HCK.out.mono ?_
      rintro e w1 ⟨rfl, hb1⟩
      rw [H1.out]
      go_wp2
      go_ret
      exact ⟨ret_int (by rw [HE.out]; first | rw [if_pos (by omega)] | rw [if_neg (by omega)]), hb1⟩
  · have he : btwErr bs l fr tt = recErr bs l := by simp [btwErr, h1]
    have h3 : (recErr bs l != 0) = true := by simpa using h1
    have h4 : (recErr bs l == 0) = false := by simpa using h1
    have HE := Lib.hid he; clear he
    go_enter Tryz.func79, Tryz.ntmps79
    go_wp2_with fail
    refine HCK.out.mono ?_
    rintro e w1 ⟨rfl, hb1⟩
    go_wp2
    go_ret
    exact ⟨ret_int HE.out.symm, hb1⟩

/-- of seconds that go up, whether one is within, asked of where the next gap begins -/
theorem gap_in {fr tt : Int} (hft : fr ≤ tt) {l : List Frm} (hl : Inc l) {k : Nat} {x : Frm} (hx : l[k]? = some x) : (fr ≤ x.st ∧ x.st < tt) ↔ ((gapsTo fr tt (l.take k)).1 ≤ x.st ∧ x.st < tt) := by
  have hi : Inc (l.take k) := List.Pairwise.sublist (List.take_sublist k l) hl
  have h := gapI hft (l.take k) hi
  have hlt : ∀ g ∈ l.take k, g.st < x.st := by
    intro g hg
    obtain ⟨i, hi2, rfl⟩ := List.mem_iff_getElem.1 hg
    rw [List.length_take] at hi2
    rw [List.getElem_take]
    have hk := List.getElem?_eq_some_iff.1 hx
    obtain ⟨hk1, hk2⟩ := hk
    rw [← hk2]
    exact List.pairwise_iff_getElem.1 hl i k (by omega) hk1 (by omega)
  constructor
  · rintro ⟨h1, h2⟩
    refine ⟨?_, h2⟩
    rcases h.from_ with h0 | ⟨g, hg, h0⟩
    · omega
    · have := hlt g hg; omega
  · rintro ⟨h1, h2⟩
    exact ⟨by have := h.lo; omega, h2⟩

set_option maxRecDepth 100000 in
set_option maxHeartbeats 2000000 in
theorem refGaps_any (ao : Option Addr) (bs : List Chan) (cap : Nat) (al : Option Addr) (l : List Frm) (cl : Nat) (fr tt : Int) (w : World) (hb : BookIn w ao bs cap) (hr : RecIn w al l) :
    Calls Tryz.prog 35 #[.slice ao bs.length cap, .slice al l.length cl, .int .i64 fr, .int .i64 tt] w fun e w' => (∃ a c, e = .returned (.tuple #[.slice a (gapsRes bs l fr tt).length c, .int .i64 (btwErr bs l fr tt)]) ∧ Cells w' a (prs (gapsRes bs l fr tt))) ∧ Below w.heap.size w w' := by
  have hck := refSpan_any ao bs cap al l cl fr tt w hb hr
  have HCK := Lib.hid hck; have HR := Lib.hid hr
  clear hck hb hr
  by_cases h1 : btwErr bs l fr tt = 0
  · have he : gapsRes bs l fr tt = gapsOf fr tt l := by rw [gapsRes, if_pos h1]
    obtain ⟨z0, z1, z2, z3⟩ := btwErr_zero h1
    obtain ⟨_, z4, _, z7⟩ := recErr_zero z0
    have HINC := Lib.hid (upTo_inc z7)
    have HE := Lib.hid he; have H1 := Lib.hid h1
    obtain ⟨i0, hi, hz0, hz1, hz2⟩ := info_parts Tryz.infoSpan
    clear he h1 z0 z7
    go_enter Tryz.func35, Tryz.ntmps35
    go_wp2_with fail
    refine HCK.out.mono ?_
    rintro e w1 ⟨rfl, hb1⟩
    rw [H1.out]
    have HR1 := Lib.hid (HR.out.below hb1 (Nat.le_refl _))
    have hrf := Below.refl w1.heap.size w1
    go_wp2_with fail
    go_loopw [2, 11, 12] (fun f v i wr => ∃ k : Nat, k ≤ l.length ∧ i = .int .i64 k ∧ f = .int .i64 (gapsTo fr tt (l.take k)).1 ∧ wr.ownsRow w1.heap.size 71 2 v (gapsTo fr tt (l.take k)).2.length (prs (gapsTo fr tt (l.take k)).2) ∧ Below w1.heap.size w1 wr) (fun _ _ i _ => l.length - (intOf i).toNat)
    case atStart => exact ⟨0, Nat.zero_le _, rfl, rfl, World.ownsRow_nil _ _ _ _, hrf⟩
    case round =>
      clear hrf
      obtain ⟨k, hk, rfl, rfl, hown, hbr⟩ := hrel
      have HO := Lib.hid hown; clear hown
      have hgl := gapsTo_length fr tt (l.take k)
      rw [List.length_take, Nat.min_eq_left hk] at hgl
      have hz := hbr.size
      by_cases hlt : k < l.length
      · obtain ⟨x, hx⟩ := get_of_lt hlt
        obtain ⟨bl, ol, rfl⟩ := HR1.out.cells.addr (frs_ne (by omega))
        have c0 := cell_keep (HR1.out.cells.at (frs_get hx).1) hbr (Nat.le_refl _)
        have hst : gapsTo fr tt (l.take (k + 1)) = gapStep fr tt (gapsTo fr tt (l.take k)) x := by rw [take_get hx, gapsTo_snoc]
        have hgi := gap_in z2 HINC.out hx
        have hlo := (gapI z2 (l.take k) (List.Pairwise.sublist (List.take_sublist k l) HINC.out)).lo
        have hhi := (gapI z2 (l.take k) (List.Pairwise.sublist (List.take_sublist k l) HINC.out)).hi
        have HST := Lib.hid hst
        clear hst hx
        by_cases hin : fr ≤ x.st ∧ x.st < tt
        · have hgs : gapStep fr tt (gapsTo fr tt (l.take k)) x = (x.st + 1, addS (gapsTo fr tt (l.take k)).1 (gapsTo fr tt (l.take k)).2 x.st) := by rw [gapStep, if_pos hin]
          have HGS := Lib.hid (HST.out.trans hgs)
          obtain ⟨hi1, hi2⟩ := hgi.1 hin
          clear hgs hgi hin HST
          generalize gapsTo fr tt (l.take k) = g at *
          obtain ⟨ga, gs⟩ := g
          simp only at hi1 hgl hlo hhi HGS HO ⊢
          by_cases hlg : ga < x.st
          · have hs : addS ga gs x.st = gs ++ [(ga, x.st)] := by rw [addS, if_pos hlg]
            have HS := Lib.hid hs; clear hs
            go_wp2_with (at_builtin; refine wpList_append_lies _ rfl _ _ _ rfl w1.heap.size 71 i0 (.agg #[.int .i64 0, .int .i64 0]) 2 16 Tryz.underlying54 hi hz0 hz1 hz2 rfl (by decide) u11 gs.length (prs gs) rfl (HO.out.alloc _) ⟨wr.heap.size, 0, none⟩ 1 1 [.int .i64 ga, .int .i64 x.st] rfl rfl (World.news_of_block (cs := #[.int .i64 ga, .int .i64 x.st]) (t := 71) (fr := (0, 0)) (heap_alloc_new wr _)) (by simp [Value.oneCell']) (by omega) (by unfold maxLen; omega) (by omega) (by simp; omega) (wr.heap.size + 1) (by simp) ?_)
            intro gg cp wz hown1 hgrow hat hlt1
            have hfin : wz.ownsRow w1.heap.size 71 2 (.slice (some ⟨gg, 0, none⟩) (gs.length + 1) cp) (gapsTo fr tt (l.take (k + 1))).2.length (prs (gapsTo fr tt (l.take (k + 1))).2) := by
              rw [HGS.out]; simp only; rw [HS.out, List.length_append, prs_append]; exact hown1
            have hbz := (hbr.alloc hz (.cells #[.int .i64 ga, .int .i64 x.st] 71)).grown hgrow (by simp; omega) (fun j e => (HO.out.lt j e).1)
            have HFIN := Lib.hid hfin
            clear hown1 hgrow hat hlt1 hfin
            go_wp2
            go_roundw
            case rel => exact ⟨k + 1, by omega, by go_num, by rw [HGS.out], HFIN.out, hbz⟩
            case measure => simp [intOf]; omega
          · have hs : addS ga gs x.st = gs := by rw [addS, if_neg hlg]
            have hfin : wr.ownsRow w1.heap.size 71 2 u11 (gapsTo fr tt (l.take (k + 1))).2.length (prs (gapsTo fr tt (l.take (k + 1))).2) := by
              rw [HGS.out]; simp only; rw [hs]; exact HO.out
            have HFIN := Lib.hid hfin
            clear hs hfin
            go_wp2
            go_roundw
            case rel => exact ⟨k + 1, by omega, by go_num, by rw [HGS.out], HFIN.out, hbr⟩
            case measure => simp [intOf]; omega
        · have hgs : gapStep fr tt (gapsTo fr tt (l.take k)) x = gapsTo fr tt (l.take k) := by rw [gapStep, if_neg hin]
          have HGS := Lib.hid (HST.out.trans hgs)
          have hjj : x.st < (gapsTo fr tt (l.take k)).1 ∨ ((gapsTo fr tt (l.take k)).1 ≤ x.st ∧ tt ≤ x.st) := by
            have := fun h => hin (hgi.2 h)
            omega
          have hfin : wr.ownsRow w1.heap.size 71 2 u11 (gapsTo fr tt (l.take (k + 1))).2.length (prs (gapsTo fr tt (l.take (k + 1))).2) := by
            rw [HGS.out]; exact HO.out
          have HFIN := Lib.hid hfin
          clear hgs hgi hin HST hfin
          generalize gapsTo fr tt (l.take k) = g at *
          rcases hjj with h | ⟨h, h'⟩
          all_goals
            go_wp2
            go_roundw
            case rel => exact ⟨k + 1, by omega, by go_num, by rw [HGS.out], HFIN.out, hbr⟩
            case measure => simp [intOf]; omega
      · obtain rfl : k = l.length := by omega
        rw [List.take_length] at HO hgl ⊢
        have hge : gapsOf fr tt l = addS (gapsTo fr tt l).1 (gapsTo fr tt l).2 tt := rfl
        have HGE := Lib.hid (HE.out.trans hge)
        have hbw := hb1.trans (hbr.mono hb1.size)
        clear hge
        generalize gapsTo fr tt l = g at *
        obtain ⟨ga, gs⟩ := g
        simp only at hgl HGE HO ⊢
        by_cases hlg : ga < tt
        · have hs : addS ga gs tt = gs ++ [(ga, tt)] := by rw [addS, if_pos hlg]
          have HS := Lib.hid (HGE.out.trans hs); clear hs
          go_wp2_with (at_builtin; refine wpList_append_lies _ rfl _ _ _ rfl w1.heap.size 71 i0 (.agg #[.int .i64 0, .int .i64 0]) 2 16 Tryz.underlying54 hi hz0 hz1 hz2 rfl (by decide) u11 gs.length (prs gs) rfl (HO.out.alloc _) ⟨wr.heap.size, 0, none⟩ 1 1 [.int .i64 ga, .int .i64 tt] rfl rfl (World.news_of_block (cs := #[.int .i64 ga, .int .i64 tt]) (t := 71) (fr := (0, 0)) (heap_alloc_new wr _)) (by simp [Value.oneCell']) (by omega) (by unfold maxLen; omega) (by omega) (by simp; omega) (wr.heap.size + 1) (by simp) ?_)
          intro gg cp wz hown1 hgrow hat hlt1
          obtain ⟨a, c, hv, hcs⟩ := own_cells hown1
          simp only [Value.slice.injEq, true_and] at hv
          obtain ⟨hv1, hv2⟩ := hv
          have hbz := hbw.trans (((Below.refl wr.heap.size wr).alloc (Nat.le_refl _) (.cells #[.int .i64 ga, .int .i64 tt] 71)).mono hbw.size)
          have hbz2 := (hbr.alloc hz (.cells #[.int .i64 ga, .int .i64 tt] 71)).grown hgrow (by simp; omega) (fun j e => (HO.out.lt j e).1)
          have hbf := hb1.trans (hbz2.mono hb1.size)
          have HCS := Lib.hid hcs
          subst hv1 hv2
          clear hown1 hgrow hat hlt1 hcs hbz hbz2
          go_wp2
          go_ret2
          exact ⟨⟨_, _, by rw [HS.out, H1.out, List.length_append]; rfl, by rw [HS.out, prs_append]; exact HCS.out⟩, hbf⟩
        · have hs : addS ga gs tt = gs := by rw [addS, if_neg hlg]
          have HS := Lib.hid (HGE.out.trans hs); clear hs
          obtain ⟨a, c, rfl, hcs⟩ := own_cells HO.out
          have HCS := Lib.hid hcs; clear hcs
          go_wp2
          go_ret2
          first
            | exact ⟨⟨a, c, by rw [HS.out, H1.out]; rfl, by rw [HS.out]; exact HCS.out⟩, hbw⟩
            | exact ⟨⟨a, ⟨c, by rw [HS.out, H1.out]; rfl⟩, by rw [HS.out]; exact HCS.out⟩, hbw⟩
  · have he : gapsRes bs l fr tt = [] := by rw [gapsRes, if_neg h1]
    have h3 : (btwErr bs l fr tt != 0) = true := by simpa using h1
    have h4 : (btwErr bs l fr tt == 0) = false := by simpa using h1
    have HE := Lib.hid he; clear he
    go_enter Tryz.func35, Tryz.ntmps35
    go_wp2_with fail
    refine HCK.out.mono ?_
    rintro e w1 ⟨rfl, hb1⟩
    go_wp2
    go_ret2
    exact ⟨⟨none, 0, by rw [HE.out]; rfl, by rw [HE.out]; exact Cells.nil _ _⟩, hb1⟩
end Go.Proofs.YtoochleabcjljaaGreatDoor
