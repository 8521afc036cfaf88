/- Parts of a proof, in build order: A4, B1, L0, L2, B2, L3, J0, Me. -/
import Derived.Test.YtmafjfhnejeogaaGreatDoorKi5

/- Strain, of the program. -/
namespace Go.Proofs.YtmafjfhnejeogaaGreatDoor
open Go.RowKit

/-- the sum of the lesser, of the greater products of the first n taps at t -/
def loS (ts : List (Int × Int)) (xs : List Int) (t : Nat) : Nat → Int
  | 0 => 0
  | n + 1 => loS ts xs t n + min ((ts.getD n (0, 0)).1 * xs.getD (t - n) 0) ((ts.getD n (0, 0)).2 * xs.getD (t - n) 0)
def hiS (ts : List (Int × Int)) (xs : List Int) (t : Nat) : Nat → Int
  | 0 => 0
  | n + 1 => hiS ts xs t n + max ((ts.getD n (0, 0)).1 * xs.getD (t - n) 0) ((ts.getD n (0, 0)).2 * xs.getD (t - n) 0)
def bandAt (ts : List (Int × Int)) (sh : Nat) (xs : List Int) (t : Nat) : Int × Int :=
  (loS ts xs t (min ts.length (t + 1)) / 2 ^ sh, -(-(hiS ts xs t (min ts.length (t + 1))) / 2 ^ sh))
def bands (ts : List (Int × Int)) (sh : Nat) (xs : List Int) (n : Nat) : List (Int × Int) := (List.range n).map (bandAt ts sh xs)
def strErr (ts : List (Int × Int)) (sh : Int) (xs : List Int) : Int := if modErr ts sh ≠ 0 then modErr ts sh else serErr xs
def strain (ts : List (Int × Int)) (sh : Int) (xs : List Int) : List (Int × Int) := if strErr ts sh xs = 0 then bands ts sh.toNat xs xs.length else []

theorem bands_length (ts : List (Int × Int)) (sh : Nat) (xs : List Int) (n : Nat) : (bands ts sh xs n).length = n := by simp [bands]
theorem bands_succ (ts : List (Int × Int)) (sh : Nat) (xs : List Int) (n : Nat) : bands ts sh xs (n + 1) = bands ts sh xs n ++ [bandAt ts sh xs n] := by simp [bands, List.range_succ]

/-- the bounds of products -/
theorem prod_bd {a x : Int} (h1 : -1048576 ≤ a) (h2 : a ≤ 1048576) (h3 : -8388608 ≤ x) (h4 : x ≤ 8388608) : -8796093022208 ≤ a * x ∧ a * x ≤ 8796093022208 := by
  have ha : a.natAbs ≤ 1048576 := by omega
  have hx : x.natAbs ≤ 8388608 := by omega
  have h := Nat.mul_le_mul ha hx
  rw [← Int.natAbs_mul] at h
  omega

theorem modErr_zero {ts : List (Int × Int)} {sh : Int} (h : modErr ts sh = 0) : 1 ≤ ts.length ∧ ts.length ≤ 16 ∧ 0 ≤ sh ∧ sh ≤ 20 ∧ ∀ t ∈ ts, t.1 ≤ t.2 ∧ -1048576 ≤ t.1 ∧ t.2 ≤ 1048576 := by
  have h1 : modOK ts sh = true := by
    cases e : modOK ts sh
    · simp [modErr, e] at h
    · rfl
  simp only [modOK, inB, Bool.and_eq_true, decide_eq_true_eq, Bool.not_eq_true', List.any_eq_false, tapBad] at h1
  refine ⟨by omega, by omega, by omega, by omega, fun t ht => ?_⟩
  have := h1.2.1 t ht
  omega

theorem serErr_zero {xs : List Int} (h : serErr xs = 0) : xs.length ≤ 4096 ∧ ∀ x ∈ xs, -8388608 ≤ x ∧ x ≤ 8388608 := by
  have h1 : serOK xs = true := by
    cases e : serOK xs
    · simp [serErr, e] at h
    · rfl
  simpa [serOK, inB] using h1

theorem lohi_bd {ts : List (Int × Int)} {xs : List Int} {sh : Int} (h : modErr ts sh = 0) (hx : serErr xs = 0) (t : Nat) (ht : t < xs.length) (n : Nat) (hn : n ≤ ts.length) (hnt : n ≤ t + 1) :
    -(8796093022208 * (n : Int)) ≤ loS ts xs t n ∧ loS ts xs t n ≤ 8796093022208 * (n : Int) ∧ -(8796093022208 * (n : Int)) ≤ hiS ts xs t n ∧ hiS ts xs t n ≤ 8796093022208 * (n : Int) := by
  induction n with
  | zero => simp [loS, hiS]
  | succ n ih =>
    have ih := ih (by omega) (by omega)
    have m1 := (modErr_zero h).2.2.2.2 (ts.getD n (0, 0)) (by
      rw [List.getD_eq_getElem?_getD, List.getElem?_eq_getElem (by omega)]; exact List.getElem_mem _)
    have m2 := (serErr_zero hx).2 (xs.getD (t - n) 0) (by
      rw [List.getD_eq_getElem?_getD, List.getElem?_eq_getElem (by omega)]; exact List.getElem_mem _)
    have p1 := prod_bd (a := (ts.getD n (0, 0)).1) (x := xs.getD (t - n) 0) (by omega) (by omega) (by omega) (by omega)
    have p2 := prod_bd (a := (ts.getD n (0, 0)).2) (x := xs.getD (t - n) 0) (by omega) (by omega) (by omega) (by omega)
    simp only [loS, hiS]
    push_cast
    omega

theorem Tryz.infoBand : (Tryz.prog.info? 98).map (fun i => (i.zero, i.size, i.bytes)) = some (some (.agg #[.int .i64 0, .int .i64 0]), 2, 16) := by kernel_rfl

set_option maxRecDepth 100000 in
theorem strain_any (ao : Option Addr) (ts : List (Int × Int)) (cap : Nat) (sh : Int) (ax : Option Addr) (xs : List Int) (cx : Nat) (w : World) (hc : Cells w ao (prs ts)) (hl : ts.length ≤ 9223372036854775807) (hx : Cells w ax (xs.map (Value.int .i64))) (hlx : xs.length ≤ 9223372036854775807) :
    Calls Tryz.prog 57 #[.agg #[.slice ao ts.length cap, .int .i64 sh], .slice ax xs.length cx] w fun e w' => (∃ a c, e = .returned (.tuple #[.slice a (strain ts sh xs).length c, .int .i64 (strErr ts sh xs)]) ∧ Cells w' a (prs (strain ts sh xs))) ∧ Below w.heap.size w w' := by
  have HC := Lib.hid hc; clear hc
  have HX := Lib.hid hx; clear hx
  by_cases h1 : modErr ts sh = 0
  · by_cases h2 : serErr xs = 0
    · go_enter Tryz.func57, Tryz.ntmps57
      go_wp2_with fail
      refine (checkModel_any ao ts cap sh _ (HC.out.below ((Below.refl _ _).alloc (Nat.le_refl _) _) (Nat.le_refl _)) hl).mono ?_
      rintro e w1 ⟨rfl, hb⟩
      rw [h1]
      go_wp2_with fail
      refine (checkSeries_any ax xs cx _ (HX.out.below (((Below.refl _ _).alloc (Nat.le_refl _) _).trans (hb.mono (by simp))) (Nat.le_refl _)) hlx).mono ?_
      rintro e w2 ⟨rfl, hb2⟩
      rw [h2]
      have hm := modErr_zero h1
      have hs := serErr_zero h2
      have hbd := fun t ht n hn hnt => lohi_bd h1 h2 t ht n hn hnt
      have H1 := Lib.hid h1; clear h1
      have H2 := Lib.hid h2; clear h2
      obtain ⟨hm1, hm2, hm3, hm4, hm5⟩ := hm
      obtain ⟨hs1, hs2⟩ := hs
      have HM5 := Lib.hid hm5; clear hm5
      have HS2 := Lib.hid hs2; clear hs2
      have HBD := Lib.hid hbd; clear hbd
      obtain ⟨shn, rfl⟩ := Int.eq_ofNat_of_zero_le hm3
      have hbe : Below (w.heap.size + 1) (w.alloc (.cells #[.slice ao ts.length cap, .int .i64 shn] 96)) w2 := (hb.mono (by simp)).trans (hb2.mono (by have := hb.size; simpa using this))
      clear hb hb2
      obtain ⟨i0, hi, hz0, hz1, hz2⟩ := info_parts Tryz.infoBand
      go_wp2
      go_loopw [8, 28] (fun v i wr => ∃ k : Nat, k ≤ xs.length ∧ i = .int .i64 k ∧ wr.ownsRow (w.heap.size + 1) 98 2 v k (prs (bands ts shn xs k)) ∧ Below (w.heap.size + 1) (w.alloc (.cells #[.slice ao ts.length cap, .int .i64 shn] 96)) wr) (fun _ i _ => xs.length - (intOf i).toNat)
      case atStart => exact ⟨0, Nat.zero_le _, rfl, World.ownsRow_nil _ _ _ _, hbe⟩
      case round =>
        obtain ⟨k, hk, rfl, hown, hb⟩ := hrel
        obtain ⟨wo, rfl⟩ : ∃ wo : World, wo = wr := ⟨_, rfl⟩
        have hc0 : wo.cell? ⟨w.heap.size, 0, none⟩ = some (.slice ao ts.length cap) := box_keep hb (by simp) 0
        have hc1 : wo.cell? ⟨w.heap.size, 1, none⟩ = some (.int .i64 shn) := box_keep hb (by simp) 1
        have hsz : w.heap.size + 1 ≤ wo.heap.size := by have := hb.size; simpa using this
        by_cases hlt : k < xs.length
        · have HO := Lib.hid hown; clear hown
          go_wp2
          go_loopw [10, 11, 34] (fun lo hi j wi => ∃ n : Nat, n ≤ ts.length ∧ n ≤ k + 1 ∧ j = .int .i64 n ∧ lo = .int .i64 (loS ts xs k n) ∧ hi = .int .i64 (hiS ts xs k n) ∧ wi.ownsRow (w.heap.size + 1) 98 2 u8 k (prs (bands ts shn xs k)) ∧ Below (w.heap.size + 1) (w.alloc (.cells #[.slice ao ts.length cap, .int .i64 shn] 96)) wi) (fun _ _ j _ => ts.length - (intOf j).toNat)
          case atStart => exact ⟨0, Nat.zero_le _, Nat.zero_le _, rfl, rfl, rfl, HO.out, hb⟩
          case round =>
            clear hb hc0 hc1 hsz
            obtain ⟨n, hn, hnk, rfl, rfl, rfl, hown, hb⟩ := hrel
            have HO := Lib.hid hown; clear hown
            have hc0 : wr.cell? ⟨w.heap.size, 0, none⟩ = some (.slice ao ts.length cap) := box_keep hb (by simp) 0
            have hc1 : wr.cell? ⟨w.heap.size, 1, none⟩ = some (.int .i64 shn) := box_keep hb (by simp) 1
            have hsz : w.heap.size + 1 ≤ wr.heap.size := by have := hb.size; simpa using this
            have hbw : Below w.heap.size w wr := ((Below.refl _ _).alloc (Nat.le_refl _) _).trans (hb.mono (by omega))
            obtain ⟨b1, b2, b3, b4⟩ := HBD.out k hlt n hn hnk
            by_cases hgo : n < ts.length ∧ n ≤ k
            · obtain ⟨hg1, hg2⟩ := hgo
              obtain ⟨⟨x1, x2⟩, hx⟩ := get_of_lt hg1
              obtain ⟨y, hy⟩ := get_of_lt (show k - n < xs.length by omega)
              obtain ⟨b, off, rfl⟩ := HC.out.addr (prs_ne (by omega))
              obtain ⟨bx, ox, rfl⟩ := HX.out.addr (by simpa using List.ne_nil_of_length_pos (by omega))
              have hcell1 := cell_keep (HC.out.at (prs_fst hx)) hbw (Nat.le_refl _)
              have hcell2 := cell_keep (HC.out.at (prs_snd hx)) hbw (Nat.le_refl _)
              rw [← Nat.add_assoc] at hcell2
              simp only at hcell1 hcell2
              have hcell3 := cell_keep (HX.out.int hy) hbw (Nat.le_refl _)
              have t1 := HM5.out _ (List.mem_of_getElem? hx)
              have t2 := HS2.out _ (List.mem_of_getElem? hy)
              simp only at t1
              have p1 := prod_bd (a := x1) (x := y) (by omega) (by omega) (by omega) (by omega)
              have p2 := prod_bd (a := x2) (x := y) (by omega) (by omega) (by omega) (by omega)
              have e1 : loS ts xs k (n + 1) = loS ts xs k n + min (x1 * y) (x2 * y) := by simp [loS, hx, hy]
              have e2 : hiS ts xs k (n + 1) = hiS ts xs k n + max (x1 * y) (x2 * y) := by simp [hiS, hx, hy]
              have E1 := Lib.hid e1; clear e1
              have E2 := Lib.hid e2; clear e2
              clear hx hy
              go_wp2
              have q1 : IntKind.i64.wrap ((k : Int) - n) = (k : Int) - n := IntWalk.i64_in _ (by omega)
              have q2 : 0 ≤ (k : Int) - n := by omega
              have q3 : (k : Int) - n < xs.length := by omega
              have q4 : ((k : Int) - n).toNat = k - n := by omega
              have q5 : IntKind.i64.wrap (x1 * y) = x1 * y := IntWalk.i64_in _ (by omega)
              have q6 : IntKind.i64.wrap (x2 * y) = x2 * y := IntWalk.i64_in _ (by omega)
              have q7 := cell_keep hcell3 ((Below.refl _ _).alloc (Nat.le_refl _) (.cells #[.int .i64 x1, .int .i64 x2] 93)) (Nat.le_refl _)
              go_quiet (fail)
              clear q1 q2 q3 q4 q5 q6 q7
              go_wp2
              go_roundw
              case rel => exact ⟨n + 1, by omega, by omega, by go_num, by first | rw [E1.out, min_if] | rw [E1.out], by first | rw [E2.out, max_if] | rw [E2.out], own_drewN (HO.out.alloc _) _, bel_drewN (hb.alloc hsz _) _⟩
              case measure => simp [intOf]; omega
            · have hn' : n = min ts.length (k + 1) := by omega
              have hfin : bandAt ts shn xs k = (loS ts xs k n / 2 ^ shn, -(-(hiS ts xs k n) / 2 ^ shn)) := by rw [bandAt, ← hn']
              have HF := Lib.hid hfin; clear hfin hn'
              by_cases hex : n < ts.length
              · have hkn : n = k + 1 := by omega
                obtain ⟨⟨x1, x2⟩, hx⟩ := get_of_lt hex
                obtain ⟨b, off, rfl⟩ := HC.out.addr (prs_ne (by omega))
                have hcell1 := cell_keep (HC.out.at (prs_fst hx)) hbw (Nat.le_refl _)
                have hcell2 := cell_keep (HC.out.at (prs_snd hx)) hbw (Nat.le_refl _)
                rw [← Nat.add_assoc] at hcell2
                simp only at hcell1 hcell2
                clear hx
                have hkn' : k < n := by omega
                have HKN := Lib.hid hkn; clear hkn
                go_wp2
                have hoq := HO.out.alloc (.cells #[.int .i64 x1, .int .i64 x2] 93)
                have hbq := hb.alloc hsz (.cells #[.int .i64 x1, .int .i64 x2] 93)
                generalize wr.alloc (.cells #[.int .i64 x1, .int .i64 x2] 93) = wq at *
                clear hb hc0 hc1 hsz hbw hcell1 hcell2
                have hne : ¬ some w.heap.size = u8.ownBlock := fun e => by have := (hoq.lt _ e.symm).1; omega
                have hob : ∀ j, u8.ownBlock = some j → w.heap.size + 1 ≤ j := fun j e => (hoq.lt j e).1
                have HOB := Lib.hid hob; clear hob
                have HOQ := Lib.hid hoq; clear hoq
                have hc1 : wq.cell? ⟨w.heap.size, 1, none⟩ = some (.int .i64 shn) := box_keep hbq (by simp) 1
                have hsz : w.heap.size + 1 ≤ wq.heap.size := by have := hbq.size; simpa using this
                have hd := div_pow_bd (x := -(hiS ts xs k n)) (M := 140737488355328) shn (by omega) (by omega) (by omega)
                have g1 : IntKind.i64.wrap (-(hiS ts xs k n)) = -(hiS ts xs k n) := IntWalk.i64_in _ (by omega)
                have g2 : IntKind.i64.wrap (-(-(hiS ts xs k n) / 2 ^ shn)) = -(-(hiS ts xs k n) / 2 ^ shn) := IntWalk.i64_in _ (by omega)
                have g3 : min shn 64 = shn := by omega
                go_region_held3 (fun w' => w'.cell? ⟨w.heap.size, 1, none⟩ = some (.int .i64 shn))
                  (first | go_keep | (rw [hgrow.cell_far _ (by simp; omega) hne]; assumption))
                  ((refine step_append_lies _ (by rfl) _ _ _ (by rfl) (w.heap.size + 1) 98 i0 _ 2 16 Tryz.underlying89 hi hz0 hz1 hz2 rfl (by omega) u8 k (prs (bands ts shn xs k)) (by rfl) ((HOQ.out.alloc _).drew) ⟨wq.heap.size, 0, none⟩ 1 1 [.int .i64 (loS ts xs k n / 2 ^ shn), .int .i64 (-(-(hiS ts xs k n) / 2 ^ shn))] (by rfl) (by rfl) (World.news_of_block (cs := #[.int .i64 (loS ts xs k n / 2 ^ shn), .int .i64 (-(-(hiS ts xs k n) / 2 ^ shn))]) (t := 98) (fr := (0, 0)) (heap_alloc_new wq _)) (by simp [Value.oneCell']) (by omega) (by unfold maxLen; omega) (by omega) (by simp; omega) (wq.heap.size + 1) (by simp) ?_; intro gg cp wz hown1 hgrow hat hlt1))
                have hfin := hown1
                rw [show prs (bands ts shn xs k) ++ [.int .i64 (loS ts xs k n / 2 ^ shn), .int .i64 (-(-(hiS ts xs k n) / 2 ^ shn))] = prs (bands ts shn xs (k + 1)) from by rw [bands_succ, prs_append, HF.out]; rfl] at hfin
                have hbz := (bel_drewN (hbq.alloc hsz (.cells #[.int .i64 (loS ts xs k n / 2 ^ shn), .int .i64 (-(-(hiS ts xs k n) / 2 ^ shn))] 98)) 1).grown hgrow (by simp; omega) HOB.out
                clear hown1 hgrow g1 g2 g3 hd
                have HFIN := Lib.hid hfin; clear hfin
                go_wp2
                go_roundw
                case rel => exact ⟨k + 1, by omega, by go_num, HFIN.out, hbz⟩
                case measure => simp [intOf]; omega
              · go_wp2
                have hoq := HO.out
                have hbq := hb
                obtain ⟨wq, rfl⟩ : ∃ wq : World, wq = wr := ⟨_, rfl⟩
                clear hb hc0 hc1 hsz hbw
                have hne : ¬ some w.heap.size = u8.ownBlock := fun e => by have := (hoq.lt _ e.symm).1; omega
                have hob : ∀ j, u8.ownBlock = some j → w.heap.size + 1 ≤ j := fun j e => (hoq.lt j e).1
                have HOB := Lib.hid hob; clear hob
                have HOQ := Lib.hid hoq; clear hoq
                have hc1 : wq.cell? ⟨w.heap.size, 1, none⟩ = some (.int .i64 shn) := box_keep hbq (by simp) 1
                have hsz : w.heap.size + 1 ≤ wq.heap.size := by have := hbq.size; simpa using this
                have hd := div_pow_bd (x := -(hiS ts xs k n)) (M := 140737488355328) shn (by omega) (by omega) (by omega)
                have g1 : IntKind.i64.wrap (-(hiS ts xs k n)) = -(hiS ts xs k n) := IntWalk.i64_in _ (by omega)
                have g2 : IntKind.i64.wrap (-(-(hiS ts xs k n) / 2 ^ shn)) = -(-(hiS ts xs k n) / 2 ^ shn) := IntWalk.i64_in _ (by omega)
                have g3 : min shn 64 = shn := by omega
                go_region_held3 (fun w' => w'.cell? ⟨w.heap.size, 1, none⟩ = some (.int .i64 shn))
                  (first | go_keep | (rw [hgrow.cell_far _ (by simp; omega) hne]; assumption))
                  ((refine step_append_lies _ (by rfl) _ _ _ (by rfl) (w.heap.size + 1) 98 i0 _ 2 16 Tryz.underlying89 hi hz0 hz1 hz2 rfl (by omega) u8 k (prs (bands ts shn xs k)) (by rfl) ((HOQ.out.alloc _).drew) ⟨wq.heap.size, 0, none⟩ 1 1 [.int .i64 (loS ts xs k n / 2 ^ shn), .int .i64 (-(-(hiS ts xs k n) / 2 ^ shn))] (by rfl) (by rfl) (World.news_of_block (cs := #[.int .i64 (loS ts xs k n / 2 ^ shn), .int .i64 (-(-(hiS ts xs k n) / 2 ^ shn))]) (t := 98) (fr := (0, 0)) (heap_alloc_new wq _)) (by simp [Value.oneCell']) (by omega) (by unfold maxLen; omega) (by omega) (by simp; omega) (wq.heap.size + 1) (by simp) ?_; intro gg cp wz hown1 hgrow hat hlt1))
                have hfin := hown1
                rw [show prs (bands ts shn xs k) ++ [.int .i64 (loS ts xs k n / 2 ^ shn), .int .i64 (-(-(hiS ts xs k n) / 2 ^ shn))] = prs (bands ts shn xs (k + 1)) from by rw [bands_succ, prs_append, HF.out]; rfl] at hfin
                have hbz := (bel_drewN (hbq.alloc hsz (.cells #[.int .i64 (loS ts xs k n / 2 ^ shn), .int .i64 (-(-(hiS ts xs k n) / 2 ^ shn))] 98)) 1).grown hgrow (by simp; omega) HOB.out
                clear hown1 hgrow g1 g2 g3 hd
                have HFIN := Lib.hid hfin; clear hfin
                go_wp2
                go_roundw
                case rel => exact ⟨k + 1, by omega, by go_num, HFIN.out, hbz⟩
                case measure => simp [intOf]; omega
        · obtain rfl : k = xs.length := by omega
          obtain ⟨a, c, rfl, hcs⟩ := own_cells hown
          have hst : strain ts shn xs = bands ts shn xs xs.length := by simp [strain, strErr, H1.out, H2.out]
          have hse : strErr ts shn xs = 0 := by simp [strErr, H1.out, H2.out]
          have HST := Lib.hid hst; clear hst
          have HSE := Lib.hid hse; clear hse
          have HCS := Lib.hid hcs; clear hcs
          have HO := Lib.hid hown; clear hown
          go_wp2
          go_ret2
          refine ⟨⟨a, c, ?_, ?_⟩, ((Below.refl _ _).alloc (Nat.le_refl _) _).trans (hb.mono (by omega))⟩
          · rw [HST.out, HSE.out, bands_length]; rfl
          · rw [HST.out]; exact HCS.out
    · have hst : strain ts sh xs = [] := by simp [strain, strErr, h1, h2]
      have hse : strErr ts sh xs = serErr xs := by simp [strErr, h1]
      have HST := Lib.hid hst; clear hst
      have HSE := Lib.hid hse; clear hse
      have h3 : (serErr xs != 0) = true := by simpa using h2
      have h4 : (serErr xs == 0) = false := by simpa using h2
      go_enter Tryz.func57, Tryz.ntmps57
      go_wp2_with fail
      refine (checkModel_any ao ts cap sh _ (HC.out.below ((Below.refl _ _).alloc (Nat.le_refl _) _) (Nat.le_refl _)) hl).mono ?_
      rintro e w1 ⟨rfl, hb⟩
      rw [h1]
      go_wp2_with fail
      refine (checkSeries_any ax xs cx _ (HX.out.below (((Below.refl _ _).alloc (Nat.le_refl _) _).trans (hb.mono (by simp))) (Nat.le_refl _)) hlx).mono ?_
      rintro e w2 ⟨rfl, hb2⟩
      go_wp2
      go_ret2
      refine ⟨⟨none, 0, ?_, ?_⟩, (((Below.refl _ _).alloc (Nat.le_refl _) _).trans (hb.mono (by simp))).trans (hb2.mono (by have := hb.size; simp at this; omega))⟩
      · rw [HST.out, HSE.out]; rfl
      · rw [HST.out]; exact Cells.nil _ _
  · have hst : strain ts sh xs = [] := by simp [strain, strErr, h1]
    have hse : strErr ts sh xs = modErr ts sh := by simp [strErr, h1]
    have HST := Lib.hid hst; clear hst
    have HSE := Lib.hid hse; clear hse
    have h3 : (modErr ts sh != 0) = true := by simpa using h1
    have h4 : (modErr ts sh == 0) = false := by simpa using h1
    go_enter Tryz.func57, Tryz.ntmps57
    go_wp2_with fail
    refine (checkModel_any ao ts cap sh _ (HC.out.below ((Below.refl _ _).alloc (Nat.le_refl _) _) (Nat.le_refl _)) hl).mono ?_
    rintro e w1 ⟨rfl, hb⟩
    go_wp2
    go_ret2
    refine ⟨⟨none, 0, ?_, ?_⟩, ((Below.refl _ _).alloc (Nat.le_refl _) _).trans (hb.mono (by simp))⟩
    · rw [HST.out, HSE.out]; rfl
    · rw [HST.out]; exact Cells.nil _ _
end Go.Proofs.YtmafjfhnejeogaaGreatDoor

/- Lines: lined, Inject, amplitude. -/
namespace Go.Proofs.YtmafjfhnejeogaaGreatDoor
open Go.RowKit

def linedErr (sh xs : List Int) : Int := if lineErr sh ≠ 0 then lineErr sh else serErr xs

theorem lined_any (ao : Option Addr) (sh : List Int) (cap : Nat) (ax : Option Addr) (xs : List Int) (cx : Nat) (w : World) (hc : Cells w ao (sh.map (Value.int .i64))) (hl : sh.length ≤ 17592186044416) (hx : Cells w ax (xs.map (Value.int .i64))) (hlx : xs.length ≤ 9223372036854775807) :
    Calls Tryz.prog 47 #[.slice ao sh.length cap, .slice ax xs.length cx] w fun e w' => e = .returned (.int .i64 (linedErr sh xs)) ∧ Below w.heap.size w w' := by
  have HC := Lib.hid hc; clear hc
  have HX := Lib.hid hx; clear hx
  by_cases h1 : lineErr sh = 0
  · have he : linedErr sh xs = serErr xs := by simp [linedErr, h1]
    have HE := Lib.hid he; clear he
    have H1 := Lib.hid h1; clear h1
    go_enter Tryz.func47, Tryz.ntmps47
    go_wp2_with fail
    refine (checkLine_any ao sh cap _ HC.out hl).mono ?_
    rintro e w1 ⟨rfl, rfl⟩
    rw [H1.out]
    go_wp2_with fail
    refine (checkSeries_any ax xs cx _ HX.out hlx).mono ?_
    rintro e w2 ⟨rfl, hb2⟩
    go_wp2
    go_ret
    exact ⟨ret_int HE.out.symm, hb2⟩
  · have he : linedErr sh xs = lineErr sh := by simp [linedErr, h1]
    have HE := Lib.hid he; clear he
    have h3 : (lineErr sh != 0) = true := by simpa using h1
    have h4 : (lineErr sh == 0) = false := by simpa using h1
    go_enter Tryz.func47, Tryz.ntmps47
    go_wp2_with fail
    refine (checkLine_any ao sh cap _ HC.out hl).mono ?_
    rintro e w1 ⟨rfl, rfl⟩
    go_wp2
    go_ret
    exact ⟨ret_int HE.out.symm, Below.refl _ _⟩

theorem lineErr_zero {xs : List Int} (h : lineErr xs = 0) : 2 ≤ xs.length ∧ xs.length ≤ 32 ∧ sumL xs = 0 ∧ ∀ x ∈ xs, -1000 ≤ x ∧ x ≤ 1000 := by
  have h1 : lineOK xs = true := by
    cases e : lineOK xs
    · simp [lineErr, e] at h
    · rfl
  simp only [lineOK, inB, Bool.and_eq_true, decide_eq_true_eq, List.all_eq_true] at h1
  exact ⟨by omega, by omega, h1.2.2.1, h1.1⟩

theorem linedErr_zero {sh xs : List Int} (h : linedErr sh xs = 0) : lineErr sh = 0 ∧ serErr xs = 0 := by
  by_cases h1 : lineErr sh = 0
  · exact ⟨h1, by simpa [linedErr, h1] using h⟩
  · simp [linedErr, h1] at h

def injAt (sh : List Int) (a : Int) (xs : List Int) (t : Nat) : Int := xs.getD t 0 + a * sh.getD (t % sh.length) 0
def inj (sh : List Int) (a : Int) (xs : List Int) (n : Nat) : List Int := (List.range n).map (injAt sh a xs)
theorem inj_length (sh : List Int) (a : Int) (xs : List Int) (n : Nat) : (inj sh a xs n).length = n := by simp [inj]
theorem inj_succ (sh : List Int) (a : Int) (xs : List Int) (n : Nat) : inj sh a xs (n + 1) = inj sh a xs n ++ [injAt sh a xs n] := by simp [inj, List.range_succ]
def injErr (sh : List Int) (a : Int) (xs : List Int) : Int :=
  if linedErr sh xs ≠ 0 then linedErr sh xs else if inB (-1000) a 1000 = false then 8 else if serOK (inj sh a xs xs.length) = false then 8 else 0
def injRes (sh : List Int) (a : Int) (xs : List Int) : List Int := if injErr sh a xs = 0 then inj sh a xs xs.length else []

theorem mul_bd {a x A X : Int} (h1 : -A ≤ a) (h2 : a ≤ A) (h3 : -X ≤ x) (h4 : x ≤ X) : -(A * X) ≤ a * x ∧ a * x ≤ A * X := by
  have ha : a.natAbs ≤ A.natAbs := by omega
  have hx : x.natAbs ≤ X.natAbs := by omega
  have h := Nat.mul_le_mul ha hx
  rw [← Int.natAbs_mul, ← Int.natAbs_mul] at h
  have : 0 ≤ A * X := Int.mul_nonneg (by omega) (by omega)
  omega

theorem Tryz.infoInt : (Tryz.prog.info? 3).map (fun i => (i.zero, i.size, i.bytes)) = some (some (.int .i64 0), 1, 8) := by kernel_rfl

set_option maxRecDepth 100000 in
set_option maxHeartbeats 1000000 in
theorem inject_any (ao : Option Addr) (sh : List Int) (cap : Nat) (a : Int) (ax : Option Addr) (xs : List Int) (cx : Nat) (w : World) (hc : Cells w ao (sh.map (Value.int .i64))) (hl : sh.length ≤ 17592186044416) (hx : Cells w ax (xs.map (Value.int .i64))) (hlx : xs.length ≤ 9223372036854775807) :
    Calls Tryz.prog 14 #[.slice ao sh.length cap, .int .i64 a, .slice ax xs.length cx] w fun e w' => (∃ b c, e = .returned (.tuple #[.slice b (injRes sh a xs).length c, .int .i64 (injErr sh a xs)]) ∧ Cells w' b ((injRes sh a xs).map (Value.int .i64))) ∧ Below w.heap.size w w' := by
  have HC := Lib.hid hc; clear hc
  have HX := Lib.hid hx; clear hx
  by_cases h1 : linedErr sh xs = 0
  · cases h2 : inB (-1000) a 1000
    · have he : injErr sh a xs = 8 := by simp [injErr, h1, h2]
      have hr : injRes sh a xs = [] := by simp [injRes, he]
      have HE := Lib.hid he; clear he
      have HR := Lib.hid hr; clear hr
      have H1 := Lib.hid h1; clear h1
      go_enter Tryz.func14, Tryz.ntmps14
      go_wp2_with fail
      refine (lined_any ao sh cap ax xs cx _ HC.out hl HX.out hlx).mono ?_
      rintro e w1 ⟨rfl, hb⟩
      rw [H1.out]
      go_wp2_with fail
      refine (within_any _ _ _ _).mono ?_
      rintro e w2 ⟨rfl, rfl⟩
      go_wp2
      go_ret2
      exact ⟨⟨none, 0, by rw [HE.out, HR.out]; rfl, by rw [HR.out]; exact Cells.nil _ _⟩, hb⟩
    · obtain ⟨hl1, hl2⟩ := linedErr_zero h1
      have l1 := lineErr_zero hl1
      have l2 := serErr_zero hl2
      obtain ⟨l11, l12, _, l13⟩ := l1
      obtain ⟨l21, l22⟩ := l2
      have ha : -1000 ≤ a ∧ a ≤ 1000 := by simpa [inB] using h2
      obtain ⟨ha1, ha2⟩ := ha
      have he : injErr sh a xs = if serOK (inj sh a xs xs.length) = false then 8 else 0 := by simp [injErr, h1, h2]
      have HE := Lib.hid he; clear he
      have H1 := Lib.hid h1; clear h1
      have L13 := Lib.hid l13; clear l13
      have L22 := Lib.hid l22; clear l22
      have H2 := Lib.hid h2; clear h2
      clear hl1 hl2
      obtain ⟨i0, hi, hz0, hz1, hz2⟩ := info_parts Tryz.infoInt
      go_enter Tryz.func14, Tryz.ntmps14
      go_wp2_with fail
      refine (lined_any ao sh cap ax xs cx _ HC.out hl HX.out hlx).mono ?_
      rintro e w1 ⟨rfl, hb⟩
      rw [H1.out]
      go_wp2_with fail
      refine (within_any _ _ _ _).mono ?_
      rintro e w2 ⟨rfl, rfl⟩
      rw [H2.out]
      go_wp2
      go_loopw [9, 23] (fun v i wr => ∃ k : Nat, k ≤ xs.length ∧ i = .int .i64 k ∧ wr.ownsRow w.heap.size 3 1 v k ((inj sh a xs k).map (Value.int .i64)) ∧ Below w.heap.size w wr) (fun _ i _ => xs.length - (intOf i).toNat)
      case atStart => exact ⟨0, Nat.zero_le _, rfl, World.ownsRow_nil _ _ _ _, hb⟩
      case round =>
        clear hb
        obtain ⟨k, hk, rfl, hown, hb⟩ := hrel
        by_cases hlt : k < xs.length
        · obtain ⟨x, hx⟩ := get_of_lt hlt
          have hm0 : k % sh.length < sh.length := Nat.mod_lt _ (by omega)
          obtain ⟨y, hy⟩ := get_of_lt hm0
          obtain ⟨b, off, rfl⟩ := HC.out.addr (by simpa using List.ne_nil_of_length_pos (by omega))
          obtain ⟨bx, ox, rfl⟩ := HX.out.addr (by simpa using List.ne_nil_of_length_pos (by omega))
          have c1 := cell_keep (HX.out.int hx) hb (Nat.le_refl _)
          have c2 := cell_keep (HC.out.int hy) hb (Nat.le_refl _)
          have t1 := L22.out _ (List.mem_of_getElem? hx)
          have t2 := L13.out _ (List.mem_of_getElem? hy)
          have p1 := mul_bd ha1 ha2 t2.1 t2.2
          obtain ⟨t11, t12⟩ := t1
          obtain ⟨p11, p12⟩ := p1
          have hat : injAt sh a xs k = x + a * y := by simp [injAt, hx, hy]
          have HAT := Lib.hid hat; clear hat hx hy
          have hsz := hb.size
          have HOB : Hid (∀ j, u9.ownBlock = some j → w.heap.size ≤ j) := fun j e => (hown.lt j e).1
          go_wp2_with (at_builtin; refine wpList_append_own _ rfl _ _ 22 rfl w.heap.size 3 i0 (.int .i64 0) 1 8 Tryz.underlying22 hi hz0 hz1 hz2 rfl (by decide) _ _ _ rfl (hown.alloc _) ⟨wr.heap.size, 0, none⟩ 1 1 [.int .i64 (x + a * y)] rfl rfl (news1 _ _ _) (by simp [Value.oneCell']) (by unfold maxLen; omega) (by omega) (by simp; omega) ?_; intro v1 wz hown1 hgrow _)
          all_goals
            have hfin := hown1
            rw [show (inj sh a xs k).map (Value.int .i64) ++ [.int .i64 (x + a * y)] = (inj sh a xs (k + 1)).map (Value.int .i64) from by rw [inj_succ, List.map_append, HAT.out]; rfl] at hfin
            have hbz := (hb.alloc hsz (.cells #[.int .i64 (x + a * y)] 3)).grown hgrow (by simp; omega) HOB.out
            clear hown1 hgrow hown
            have HFIN := Lib.hid hfin; clear hfin
            go_wp2
            go_roundw
            case rel => exact ⟨k + 1, by omega, by go_num, HFIN.out, hbz⟩
            case measure => simp [intOf]; omega
        · obtain rfl : k = xs.length := by omega
          obtain ⟨g, c, rfl, hcs⟩ := own_cells hown
          have hli : (inj sh a xs xs.length).length = xs.length := inj_length _ _ _ _
          have HCS := Lib.hid hcs; clear hcs hown
          have hser := fun (wx : World) (h : Cells wx g ((inj sh a xs xs.length).map (Value.int .i64))) => seriesOK_any g (inj sh a xs xs.length) c wx h (by rw [hli]; omega)
          rw [hli] at hser
          have HL := Lib.hid hli; clear hli
          have HSER := Lib.hid hser; clear hser
          cases hok : serOK (inj sh a xs xs.length)
          · have he : injErr sh a xs = 8 := by rw [HE.out, hok]; rfl
            have hr : injRes sh a xs = [] := by simp [injRes, he]
            have HE2 := Lib.hid he; clear he
            have HR2 := Lib.hid hr; clear hr
            have HOK := Lib.hid hok; clear hok
            go_wp2_with fail
            refine (HSER.out _ HCS.out).mono ?_
            rintro e w2 ⟨rfl, hb2⟩
            rw [HOK.out]
            go_wp2
            go_ret2
            exact ⟨⟨none, 0, by rw [HE2.out, HR2.out]; rfl, by rw [HR2.out]; exact Cells.nil _ _⟩, hb.trans (hb2.mono hb.size)⟩
          · have he : injErr sh a xs = 0 := by rw [HE.out, hok]; rfl
            have hr : injRes sh a xs = inj sh a xs xs.length := by simp [injRes, he]
            have HE2 := Lib.hid he; clear he
            have HR2 := Lib.hid hr; clear hr
            have HOK := Lib.hid hok; clear hok
            go_wp2_with fail
            refine (HSER.out _ HCS.out).mono ?_
            rintro e w2 ⟨rfl, hb2⟩
            rw [HOK.out]
            go_wp2
            go_ret2
            exact ⟨⟨g, c, by rw [HE2.out, HR2.out, HL.out]; rfl, by rw [HR2.out]; exact HCS.out.below hb2 (Nat.le_refl _)⟩, hb.trans (hb2.mono hb.size)⟩
  · have he : injErr sh a xs = linedErr sh xs := by simp [injErr, h1]
    have hr : injRes sh a xs = [] := by simp [injRes, he, h1]
    have HE := Lib.hid he; clear he
    have HR := Lib.hid hr; clear hr
    have h3 : (linedErr sh xs != 0) = true := by simpa using h1
    have h4 : (linedErr sh xs == 0) = false := by simpa using h1
    go_enter Tryz.func14, Tryz.ntmps14
    go_wp2_with fail
    refine (lined_any ao sh cap ax xs cx _ HC.out hl HX.out hlx).mono ?_
    rintro e w1 ⟨rfl, hb⟩
    go_wp2
    go_ret2
    exact ⟨⟨none, 0, by rw [HE.out, HR.out]; rfl, by rw [HR.out]; exact Cells.nil _ _⟩, hb⟩
end Go.Proofs.YtmafjfhnejeogaaGreatDoor

/- Lines as the reference checks them: Clamp, CheckLine, lined. -/
namespace Go.Proofs.YtmafjfhnejeogaaGreatDoor
open Go.RowKit

theorem clamp_any (n lo hi : Int) (w : World) :
    Calls Tryz.prog 46 #[.int .i64 n, .int .i64 lo, .int .i64 hi] w fun e w' => e = .returned (.int .i64 (max lo (min n hi))) ∧ w = w' := by
  go_enter Tryz.func46, Tryz.ntmps46
  go_wp2
  all_goals
    go_ret
    refine ⟨ret_int ?_, rfl⟩
    first
      | omega
      | (split at * <;> omega)
      | (simp only [Int.max_def, Int.min_def] at *; (repeat' split at *) <;> omega)

def clN (n : Int) : Int := max (-1001) (min n 1001)
theorem clN_bd (n : Int) : -1001 ≤ clN n ∧ clN n ≤ 1001 := by unfold clN; omega
theorem clN_in {n : Int} (h1 : -1000 ≤ n) (h2 : n ≤ 1000) : clN n = n := by unfold clN; omega
def clS (xs : List Int) : Int := sumL (xs.map clN)
theorem clS_snoc (xs : List Int) (x : Int) : clS (xs ++ [x]) = clS xs + clN x := by unfold clS; rw [List.map_append]; exact sumL_snoc _ _
theorem clS_bd (xs : List Int) : -(1001 * (xs.length : Int)) ≤ clS xs ∧ clS xs ≤ 1001 * (xs.length : Int) := by
  suffices ∀ (xs : List Int) (a : Int), a - 1001 * (xs.length : Int) ≤ (xs.map clN).foldl (· + ·) a ∧ (xs.map clN).foldl (· + ·) a ≤ a + 1001 * (xs.length : Int) by
    have := this xs 0; simp only [clS, sumL]; omega
  intro xs
  induction xs with
  | nil => intro a; simp
  | cons x xs ih =>
    intro a
    have h1 := clN_bd x
    have h2 := ih (a + clN x)
    simp only [List.map_cons, List.foldl_cons, List.length_cons]
    push_cast
    omega
theorem clS_in {xs : List Int} (h : xs.all (fun n => inB (-1000) n 1000) = true) : clS xs = sumL xs := by
  unfold clS
  congr 1
  conv => rhs; rw [← List.map_id xs]
  refine List.map_congr_left fun x hx => ?_
  have := List.all_eq_true.1 h x hx
  simp only [inB, decide_eq_true_eq] at this
  exact clN_in this.1 this.2
theorem lineErr_ref (xs : List Int) (okb sob : Bool) (sm : Int) (h1 : okb = (inB 2 xs.length 32 && xs.all (fun n => inB (-1000) n 1000))) (h2 : sm = clS xs) (h3 : sob = xs.any (fun n => n != 0)) :
    lineErr xs = if okb = true ∧ sob = true ∧ sm = 0 then 0 else 54 := by
  subst h1 h2 h3
  unfold lineErr lineOK
  by_cases ha : xs.all (fun n => inB (-1000) n 1000) = true
  · rw [clS_in ha, ha]
    by_cases hs : sumL xs = 0
    · simp [hs, Bool.and_comm]
    · simp [hs]
  · simp [ha]

set_option maxHeartbeats 1000000 in
theorem refCheckLine_any (ao : Option Addr) (xs : List Int) (cap : Nat) (w : World) (hc : Cells w ao (xs.map (Value.int .i64))) (hl : xs.length ≤ 17592186044416) :
    Calls Tryz.prog 12 #[.slice ao xs.length cap] w fun e w' => e = .returned (.int .i64 (lineErr xs)) ∧ w = w' := by
  have HC := Lib.hid hc; clear hc
  go_enter Tryz.func12, Tryz.ntmps12
  go_wp2_with fail
  refine (in_any _ _ _ _).mono ?_
  rintro e w1 ⟨rfl, rfl⟩
  go_wp2
  go_loop [3, 4, 5, 6] (fun ov sm so i => ∃ k : Nat, k ≤ xs.length ∧ i = .int .i64 k ∧ ov = .bool (inB 2 xs.length 32 && (xs.take k).all (fun n => inB (-1000) n 1000)) ∧ sm = .int .i64 (clS (xs.take k)) ∧ so = .bool ((xs.take k).any (fun n => n != 0))) (fun _ _ _ i => xs.length - (intOf i).toNat)
  case atStart => exact ⟨0, Nat.zero_le _, rfl, by simp, rfl, rfl⟩
  case round =>
    obtain ⟨k, hk, rfl, rfl, rfl, rfl⟩ := hrel
    have hbd := clS_bd (xs.take k)
    rw [List.length_take, Nat.min_eq_left hk] at hbd
    obtain ⟨hb1, hb2⟩ := hbd
    by_cases hlt : k < xs.length
    · obtain ⟨x, hx⟩ := get_of_lt hlt
      obtain ⟨b, off, rfl⟩ := HC.out.addr (by simpa using List.ne_nil_of_length_pos (by omega))
      have hcell := HC.out.int hx
      have ht := take_get hx
      have hs : clS (xs.take (k + 1)) = clS (xs.take k) + clN x := by rw [ht, clS_snoc]
      have ha : (inB 2 xs.length 32 && (xs.take (k + 1)).all (fun n => inB (-1000) n 1000)) = ((inB 2 xs.length 32 && (xs.take k).all (fun n => inB (-1000) n 1000)) && inB (-1000) x 1000) := by rw [ht, List.all_append]; simp [Bool.and_assoc]
      have hn : (xs.take (k + 1)).any (fun n => n != 0) = ((xs.take k).any (fun n => n != 0) || x != 0) := by rw [ht, List.any_append]; simp
      have hcl : max (-1001) (min x 1001) = clN x := rfl
      have hcb := clN_bd x
      obtain ⟨hcb1, hcb2⟩ := hcb
      have hcp := fun wx => clamp_any x (-1001) 1001 wx
      rw [hcl] at hcp
      have HCP := Lib.hid hcp
      have HS := Lib.hid hs; have HA := Lib.hid ha; have HN := Lib.hid hn
      clear hs ha hn ht hx hcl hcp
      generalize (inB 2 xs.length 32 && (xs.take k).all (fun n => inB (-1000) n 1000)) = ob at *
      generalize (xs.take k).any (fun n => n != 0) = so at *
      generalize clS (xs.take k) = sm at *
      generalize clN x = cx at *
      cases ob <;> cases so
      all_goals
        go_wp2_with (first | (go_at_call 45; refine (in_any _ _ _ _).mono ?_; rintro e w' ⟨rfl, rfl⟩) | (go_at_call 46; refine (HCP.out _).mono ?_; rintro e w' ⟨rfl, rfl⟩))
        go_round
        case rel => exact ⟨k + 1, by omega, by go_num, by rw [HA.out]; simp, by rw [HS.out], by rw [HN.out]; simp⟩
        case measure => simp [intOf]; omega
    · obtain rfl : k = xs.length := by omega
      have hle := lineErr_ref xs (inB 2 xs.length 32 && (xs.take xs.length).all (fun n => inB (-1000) n 1000)) ((xs.take xs.length).any (fun n => n != 0)) (clS (xs.take xs.length)) (by rw [List.take_length]) (by rw [List.take_length]) (by rw [List.take_length])
      have HLE := Lib.hid hle; clear hle
      generalize (inB 2 xs.length 32 && (xs.take xs.length).all (fun n => inB (-1000) n 1000)) = ob at *
      generalize (xs.take xs.length).any (fun n => n != 0) = so at *
      generalize clS (xs.take xs.length) = sm at *
      cases ob <;> cases so
      all_goals
        go_wp2
        all_goals
          go_ret
          exact ⟨ret_int (by rw [HLE.out]; simp_all), rfl⟩

theorem refLined_any (ao : Option Addr) (sh : List Int) (cap : Nat) (ax : Option Addr) (xs : List Int) (cx : Nat) (w : World) (hc : Cells w ao (sh.map (Value.int .i64))) (hl : sh.length ≤ 17592186044416) (hx : Cells w ax (xs.map (Value.int .i64))) (hlx : xs.length ≤ 9223372036854775807) :
    Calls Tryz.prog 49 #[.slice ao sh.length cap, .slice ax xs.length cx] w fun e w' => e = .returned (.int .i64 (linedErr sh xs)) ∧ Below w.heap.size w w' := by
  have HC := Lib.hid hc; clear hc
  have HX := Lib.hid hx; clear hx
  by_cases h1 : lineErr sh = 0
  · have he : linedErr sh xs = serErr xs := by simp [linedErr, h1]
    have HE := Lib.hid he; clear he
    have H1 := Lib.hid h1; clear h1
    go_enter Tryz.func49, Tryz.ntmps49
    go_wp2_with fail
    refine (refCheckLine_any ao sh cap _ HC.out hl).mono ?_
    rintro e w1 ⟨rfl, rfl⟩
    rw [H1.out]
    go_wp2_with fail
    refine (refCheckSeries_any ax xs cx _ HX.out hlx).mono ?_
    rintro e w2 ⟨rfl, hb2⟩
    go_wp2
    go_ret
    exact ⟨ret_int HE.out.symm, hb2⟩
  · have he : linedErr sh xs = lineErr sh := by simp [linedErr, h1]
    have HE := Lib.hid he; clear he
    have h3 : (lineErr sh != 0) = true := by simpa using h1
    have h4 : (lineErr sh == 0) = false := by simpa using h1
    go_enter Tryz.func49, Tryz.ntmps49
    go_wp2_with fail
    refine (refCheckLine_any ao sh cap _ HC.out hl).mono ?_
    rintro e w1 ⟨rfl, rfl⟩
    go_wp2
    go_ret
    exact ⟨ret_int HE.out.symm, Below.refl _ _⟩
end Go.Proofs.YtmafjfhnejeogaaGreatDoor

/- Apart, of the program and of the reference. -/
namespace Go.Proofs.YtmafjfhnejeogaaGreatDoor
open Go.RowKit

/-- the sum over the product of the periods -/
def apS (sa sb : List Int) : Nat → Int
  | 0 => 0
  | t + 1 => apS sa sb t + sa.getD (t % sa.length) 0 * sb.getD (t % sb.length) 0
def apErr (sa sb : List Int) : Int := if lineErr sa ≠ 0 then lineErr sa else lineErr sb
def apRes (sa sb : List Int) : Bool := if apErr sa sb = 0 then decide (apS sa sb (sa.length * sb.length) = 0) else false
theorem apS_bd {sa sb : List Int} (h1 : ∀ x ∈ sa, -1000 ≤ x ∧ x ≤ 1000) (h2 : ∀ x ∈ sb, -1000 ≤ x ∧ x ≤ 1000) (t : Nat) : -(1000000 * (t : Int)) ≤ apS sa sb t ∧ apS sa sb t ≤ 1000000 * (t : Int) := by
  have hg : ∀ {l : List Int}, (∀ x ∈ l, -1000 ≤ x ∧ x ≤ 1000) → ∀ i, -1000 ≤ l.getD i 0 ∧ l.getD i 0 ≤ 1000 := by
    intro l h i
    rcases Nat.lt_or_ge i l.length with h3 | h3
    · obtain ⟨x, hx⟩ := get_of_lt h3
      have := h x (List.mem_of_getElem? hx)
      simpa [List.getD, hx] using this
    · simp [List.getD, List.getElem?_eq_none h3]
  induction t with
  | zero => simp [apS]
  | succ t ih =>
    have a := hg h1 (t % sa.length)
    have b := hg h2 (t % sb.length)
    have p := mul_bd a.1 a.2 b.1 b.2
    simp only [apS]
    push_cast
    omega

set_option maxRecDepth 100000 in
set_option maxHeartbeats 1000000 in
theorem apart_any (aa : Option Addr) (sa : List Int) (ca : Nat) (ab : Option Addr) (sb : List Int) (cb : Nat) (w : World) (ha : Cells w aa (sa.map (Value.int .i64))) (hla : sa.length ≤ 17592186044416) (hb : Cells w ab (sb.map (Value.int .i64))) (hlb : sb.length ≤ 17592186044416) :
    Calls Tryz.prog 19 #[.slice aa sa.length ca, .slice ab sb.length cb] w fun e w' => e = .returned (.tuple #[.bool (apRes sa sb), .int .i64 (apErr sa sb)]) ∧ Below w.heap.size w w' := by
  have HA := Lib.hid ha; clear ha
  have HB := Lib.hid hb; clear hb
  by_cases h1 : lineErr sa = 0
  · by_cases h2 : lineErr sb = 0
    · obtain ⟨l1, l2, _, l4⟩ := lineErr_zero h1
      obtain ⟨m1, m2, _, m4⟩ := lineErr_zero h2
      have hbd := apS_bd l4 m4
      have he : apErr sa sb = 0 := by simp [apErr, h1, h2]
      have hr : apRes sa sb = decide (apS sa sb (sa.length * sb.length) = 0) := by simp [apRes, he]
      have hmul : sa.length * sb.length ≤ 1024 := Nat.mul_le_mul l2 m2
      have hpr : ((sa.length : Int) * (sb.length : Int)) = ((sa.length * sb.length : Nat) : Int) := by simp
      obtain ⟨N, hN⟩ : ∃ N, N = sa.length * sb.length := ⟨_, rfl⟩
      rw [← hN] at hmul hpr hr
      have HE := Lib.hid he; have HR := Lib.hid hr; have H1 := Lib.hid h1; have H2 := Lib.hid h2; have L4 := Lib.hid l4; have M4 := Lib.hid m4; have HBD := Lib.hid hbd; have HPR := Lib.hid hpr; have HN := Lib.hid hN
      clear he hr h1 h2 l4 m4 hbd hN
      go_enter Tryz.func19, Tryz.ntmps19
      go_wp2_with fail
      refine (checkLine_any aa sa ca _ HA.out (by omega)).mono ?_
      rintro e w1 ⟨rfl, rfl⟩
      rw [H1.out]
      go_wp2_with fail
      refine (checkLine_any ab sb cb _ HB.out (by omega)).mono ?_
      rintro e w1 ⟨rfl, rfl⟩
      rw [H2.out]
      go_wp2
      go_loopw [8, 25] (fun s i wr => ∃ k : Nat, k ≤ N ∧ i = .int .i64 k ∧ s = .int .i64 (apS sa sb k) ∧ Below w.heap.size w wr) (fun _ i _ => N - (intOf i).toNat)
      case atStart => exact ⟨0, Nat.zero_le _, rfl, rfl, Below.refl _ _⟩
      case round =>
        obtain ⟨k, hk, rfl, rfl, hbw⟩ := hrel
        obtain ⟨d1, d2⟩ := HBD.out k
        by_cases hlt : k < N
        · have hm0 : k % sa.length < sa.length := Nat.mod_lt _ (by omega)
          have hm1 : k % sb.length < sb.length := Nat.mod_lt _ (by omega)
          obtain ⟨x, hx⟩ := get_of_lt hm0
          obtain ⟨y, hy⟩ := get_of_lt hm1
          obtain ⟨b, off, rfl⟩ := HA.out.addr (by simpa using List.ne_nil_of_length_pos (by omega))
          obtain ⟨bx, ox, rfl⟩ := HB.out.addr (by simpa using List.ne_nil_of_length_pos (by omega))
          have c1 := cell_keep (HA.out.int hx) hbw (Nat.le_refl _)
          have c2 := cell_keep (HB.out.int hy) hbw (Nat.le_refl _)
          have t1 := L4.out _ (List.mem_of_getElem? hx)
          have t2 := M4.out _ (List.mem_of_getElem? hy)
          have p1 := mul_bd t1.1 t1.2 t2.1 t2.2
          obtain ⟨p11, p12⟩ := p1
          have hs : apS sa sb (k + 1) = apS sa sb k + x * y := by simp [apS, hx, hy]
          have HS := Lib.hid hs
          clear hs hx hy
          have g1 : IntKind.i64.wrap (x * y) = x * y := IntWalk.i64_in _ (by omega)
          have g2 : IntKind.i64.wrap (apS sa sb k + x * y) = apS sa sb k + x * y := IntWalk.i64_in _ (by omega)
          have g3 : ((k : Int).tmod sa.length) = ((k % sa.length : Nat) : Int) := by rw [Int.tmod_eq_emod_of_nonneg (by omega)]; rfl
          have g4 : (0 : Int) ≤ ((k % sa.length : Nat) : Int) := by omega
          have g5 : ((k % sa.length : Nat) : Int) < sa.length := by omega
          have g6 : (((k % sa.length : Nat) : Int)).toNat = k % sa.length := by omega
          have j3 : ((k : Int).tmod sb.length) = ((k % sb.length : Nat) : Int) := by rw [Int.tmod_eq_emod_of_nonneg (by omega)]; rfl
          have j4 : (0 : Int) ≤ ((k % sb.length : Nat) : Int) := by omega
          have j5 : ((k % sb.length : Nat) : Int) < sb.length := by omega
          have j6 : (((k % sb.length : Nat) : Int)).toNat = k % sb.length := by omega
          have ein : IntKind.i64.wrap ((k : Int) + 1) = (k : Int) + 1 := IntWalk.i64_in _ (by omega)
          go_wp2_with fail
          go_quiet (fail)
          all_goals
            have hbn := bel_drewN hbw 1
            clear g1 g2 g3 g4 g5 g6 j3 j4 j5 j6
            go_wp2
            go_roundw
            case rel => exact ⟨k + 1, by omega, rfl, by rw [HS.out], bel_drewN hbw _⟩
            case measure => simp [intOf]; omega
        · obtain rfl : k = N := by omega
          go_wp2
          go_ret2
          rw [HE.out, HR.out]
          exact ⟨by rfl, hbw⟩
    · have he : apErr sa sb = lineErr sb := by simp [apErr, h1]
      have hr : apRes sa sb = false := by simp [apRes, he, h2]
      have h3 : (lineErr sb != 0) = true := by simpa using h2
      have h4 : (lineErr sb == 0) = false := by simpa using h2
      have HE := Lib.hid he; have HR := Lib.hid hr; have H1 := Lib.hid h1
      clear he hr h1 h2
      go_enter Tryz.func19, Tryz.ntmps19
      go_wp2_with fail
      refine (checkLine_any aa sa ca _ HA.out hla).mono ?_
      rintro e w1 ⟨rfl, rfl⟩
      rw [H1.out]
      go_wp2_with fail
      refine (checkLine_any ab sb cb _ HB.out hlb).mono ?_
      rintro e w1 ⟨rfl, rfl⟩
      go_wp2
      go_ret2
      rw [HE.out, HR.out]
      exact ⟨rfl, Below.refl _ _⟩
  · have he : apErr sa sb = lineErr sa := by simp [apErr, h1]
    have hr : apRes sa sb = false := by simp [apRes, he, h1]
    have h3 : (lineErr sa != 0) = true := by simpa using h1
    have h4 : (lineErr sa == 0) = false := by simpa using h1
    have HE := Lib.hid he; have HR := Lib.hid hr
    clear he hr h1
    go_enter Tryz.func19, Tryz.ntmps19
    go_wp2_with fail
    refine (checkLine_any aa sa ca _ HA.out hla).mono ?_
    rintro e w1 ⟨rfl, rfl⟩
    go_wp2
    go_ret2
    rw [HE.out, HR.out]
    exact ⟨rfl, Below.refl _ _⟩

set_option maxRecDepth 100000 in
set_option maxHeartbeats 1000000 in
theorem refApart_any (aa : Option Addr) (sa : List Int) (ca : Nat) (ab : Option Addr) (sb : List Int) (cb : Nat) (w : World) (ha : Cells w aa (sa.map (Value.int .i64))) (hla : sa.length ≤ 17592186044416) (hb : Cells w ab (sb.map (Value.int .i64))) (hlb : sb.length ≤ 17592186044416) :
    Calls Tryz.prog 20 #[.slice aa sa.length ca, .slice ab sb.length cb] w fun e w' => e = .returned (.tuple #[.bool (apRes sa sb), .int .i64 (apErr sa sb)]) ∧ Below w.heap.size w w' := by
  have HA := Lib.hid ha; clear ha
  have HB := Lib.hid hb; clear hb
  by_cases h1 : lineErr sa = 0
  · by_cases h2 : lineErr sb = 0
    · obtain ⟨l1, l2, _, l4⟩ := lineErr_zero h1
      obtain ⟨m1, m2, _, m4⟩ := lineErr_zero h2
      have hbd := apS_bd l4 m4
      have he : apErr sa sb = 0 := by simp [apErr, h1, h2]
      have hr : apRes sa sb = decide (apS sa sb (sa.length * sb.length) = 0) := by simp [apRes, he]
      have hmul : sa.length * sb.length ≤ 1024 := Nat.mul_le_mul l2 m2
      have hpr : ((sa.length : Int) * (sb.length : Int)) = ((sa.length * sb.length : Nat) : Int) := by simp
      obtain ⟨N, hN⟩ : ∃ N, N = sa.length * sb.length := ⟨_, rfl⟩
      rw [← hN] at hmul hpr hr
      have HE := Lib.hid he; have HR := Lib.hid hr; have H1 := Lib.hid h1; have H2 := Lib.hid h2; have L4 := Lib.hid l4; have M4 := Lib.hid m4; have HBD := Lib.hid hbd; have HPR := Lib.hid hpr; have HN := Lib.hid hN
      clear he hr h1 h2 l4 m4 hbd hN
      go_enter Tryz.func20, Tryz.ntmps20
      go_wp2_with fail
      refine (refCheckLine_any aa sa ca _ HA.out (by omega)).mono ?_
      rintro e w1 ⟨rfl, rfl⟩
      rw [H1.out]
      go_wp2_with fail
      refine (refCheckLine_any ab sb cb _ HB.out (by omega)).mono ?_
      rintro e w1 ⟨rfl, rfl⟩
      rw [H2.out]
      go_wp2
      go_loopw [8, 9] (fun s i wr => ∃ k : Nat, k ≤ N ∧ i = .int .i64 k ∧ s = .int .i64 (apS sa sb k) ∧ Below w.heap.size w wr) (fun _ i _ => N - (intOf i).toNat)
      case atStart => exact ⟨0, Nat.zero_le _, rfl, rfl, Below.refl _ _⟩
      case round =>
        obtain ⟨k, hk, rfl, rfl, hbw⟩ := hrel
        obtain ⟨d1, d2⟩ := HBD.out k
        by_cases hlt : k < N
        · have hm0 : k % sa.length < sa.length := Nat.mod_lt _ (by omega)
          have hm1 : k % sb.length < sb.length := Nat.mod_lt _ (by omega)
          obtain ⟨x, hx⟩ := get_of_lt hm0
          obtain ⟨y, hy⟩ := get_of_lt hm1
          obtain ⟨b, off, rfl⟩ := HA.out.addr (by simpa using List.ne_nil_of_length_pos (by omega))
          obtain ⟨bx, ox, rfl⟩ := HB.out.addr (by simpa using List.ne_nil_of_length_pos (by omega))
          have c1 := cell_keep (HA.out.int hx) hbw (Nat.le_refl _)
          have c2 := cell_keep (HB.out.int hy) hbw (Nat.le_refl _)
          have t1 := L4.out _ (List.mem_of_getElem? hx)
          have t2 := M4.out _ (List.mem_of_getElem? hy)
          have p1 := mul_bd t1.1 t1.2 t2.1 t2.2
          obtain ⟨p11, p12⟩ := p1
          have hs : apS sa sb (k + 1) = apS sa sb k + x * y := by simp [apS, hx, hy]
          have HS := Lib.hid hs
          clear hs hx hy
          have g1 : IntKind.i64.wrap (x * y) = x * y := IntWalk.i64_in _ (by omega)
          have g2 : IntKind.i64.wrap (apS sa sb k + x * y) = apS sa sb k + x * y := IntWalk.i64_in _ (by omega)
          have g3 : ((k : Int).tmod sa.length) = ((k % sa.length : Nat) : Int) := by rw [Int.tmod_eq_emod_of_nonneg (by omega)]; rfl
          have g4 : (0 : Int) ≤ ((k % sa.length : Nat) : Int) := by omega
          have g5 : ((k % sa.length : Nat) : Int) < sa.length := by omega
          have g6 : (((k % sa.length : Nat) : Int)).toNat = k % sa.length := by omega
          have j3 : ((k : Int).tmod sb.length) = ((k % sb.length : Nat) : Int) := by rw [Int.tmod_eq_emod_of_nonneg (by omega)]; rfl
          have j4 : (0 : Int) ≤ ((k % sb.length : Nat) : Int) := by omega
          have j5 : ((k % sb.length : Nat) : Int) < sb.length := by omega
          have j6 : (((k % sb.length : Nat) : Int)).toNat = k % sb.length := by omega
          have ein : IntKind.i64.wrap ((k : Int) + 1) = (k : Int) + 1 := IntWalk.i64_in _ (by omega)
          go_wp2_with fail
          go_quiet (fail)
          all_goals
            have hbn := bel_drewN hbw 1
            clear g1 g2 g3 g4 g5 g6 j3 j4 j5 j6
            go_wp2
            go_roundw
            case rel => exact ⟨k + 1, by omega, rfl, by rw [HS.out], bel_drewN hbw _⟩
            case measure => simp [intOf]; omega
        · obtain rfl : k = N := by omega
          go_wp2
          go_ret2
          rw [HE.out, HR.out]
          exact ⟨by rfl, hbw⟩
    · have he : apErr sa sb = lineErr sb := by simp [apErr, h1]
      have hr : apRes sa sb = false := by simp [apRes, he, h2]
      have h3 : (lineErr sb != 0) = true := by simpa using h2
      have h4 : (lineErr sb == 0) = false := by simpa using h2
      have HE := Lib.hid he; have HR := Lib.hid hr; have H1 := Lib.hid h1
      clear he hr h1 h2
      go_enter Tryz.func20, Tryz.ntmps20
      go_wp2_with fail
      refine (refCheckLine_any aa sa ca _ HA.out hla).mono ?_
      rintro e w1 ⟨rfl, rfl⟩
      rw [H1.out]
      go_wp2_with fail
      refine (refCheckLine_any ab sb cb _ HB.out hlb).mono ?_
      rintro e w1 ⟨rfl, rfl⟩
      go_wp2
      go_ret2
      rw [HE.out, HR.out]
      exact ⟨rfl, Below.refl _ _⟩
  · have he : apErr sa sb = lineErr sa := by simp [apErr, h1]
    have hr : apRes sa sb = false := by simp [apRes, he, h1]
    have h3 : (lineErr sa != 0) = true := by simpa using h1
    have h4 : (lineErr sa == 0) = false := by simpa using h1
    have HE := Lib.hid he; have HR := Lib.hid hr
    clear he hr h1
    go_enter Tryz.func20, Tryz.ntmps20
    go_wp2_with fail
    refine (refCheckLine_any aa sa ca _ HA.out hla).mono ?_
    rintro e w1 ⟨rfl, rfl⟩
    go_wp2
    go_ret2
    rw [HE.out, HR.out]
    exact ⟨rfl, Below.refl _ _⟩
end Go.Proofs.YtmafjfhnejeogaaGreatDoor

/- Lines: amplitude. -/
namespace Go.Proofs.YtmafjfhnejeogaaGreatDoor
open Go.RowKit

def ampN (sh xs : List Int) : Nat → Int
  | 0 => 0
  | t + 1 => ampN sh xs t + xs.getD t 0 * sh.getD (t % sh.length) 0
def ampD (sh : List Int) : Nat → Int
  | 0 => 0
  | t + 1 => ampD sh t + sh.getD (t % sh.length) 0 * sh.getD (t % sh.length) 0
/-- the whole periods -/
def whole (sh xs : List Int) : Nat := xs.length / sh.length * sh.length

theorem amp_bd {sh xs : List Int} (h : linedErr sh xs = 0) (t : Nat) (ht : t ≤ xs.length) :
    -(8388608000 * (t : Int)) ≤ ampN sh xs t ∧ ampN sh xs t ≤ 8388608000 * (t : Int) ∧ 0 ≤ ampD sh t ∧ ampD sh t ≤ 1000000 * (t : Int) := by
  obtain ⟨h1, h2⟩ := linedErr_zero h
  obtain ⟨a1, a2, _, a3⟩ := lineErr_zero h1
  obtain ⟨b1, b2⟩ := serErr_zero h2
  induction t with
  | zero => simp [ampN, ampD]
  | succ t ih =>
    have ih := ih (by omega)
    have hm : t % sh.length < sh.length := Nat.mod_lt _ (by omega)
    have m1 := a3 (sh.getD (t % sh.length) 0) (by rw [List.getD_eq_getElem?_getD, List.getElem?_eq_getElem hm]; exact List.getElem_mem _)
    have m2 := b2 (xs.getD t 0) (by rw [List.getD_eq_getElem?_getD, List.getElem?_eq_getElem (by omega)]; exact List.getElem_mem _)
    have p1 := mul_bd (A := 8388608) (X := 1000) m2.1 m2.2 m1.1 m1.2
    have p2 := mul_bd (A := 1000) (X := 1000) m1.1 m1.2 m1.1 m1.2
    have p3 : 0 ≤ sh.getD (t % sh.length) 0 * sh.getD (t % sh.length) 0 := by
      rcases Int.le_total 0 (sh.getD (t % sh.length) 0) with h | h
      · exact Int.mul_nonneg h h
      · exact Int.mul_nonneg_of_nonpos_of_nonpos h h
    simp only [ampN, ampD]
    push_cast
    omega

theorem whole_le (sh xs : List Int) : whole sh xs ≤ xs.length := Nat.div_mul_le_self _ _

set_option maxRecDepth 100000 in
set_option maxHeartbeats 1000000 in
theorem amplitude_any (ao : Option Addr) (sh : List Int) (cap : Nat) (ax : Option Addr) (xs : List Int) (cx : Nat) (w : World) (hc : Cells w ao (sh.map (Value.int .i64))) (hx : Cells w ax (xs.map (Value.int .i64))) (h : linedErr sh xs = 0) :
    Calls Tryz.prog 51 #[.slice ao sh.length cap, .slice ax xs.length cx] w fun e w' => e = .returned (.tuple #[.int .i64 (ampN sh xs (whole sh xs)), .int .i64 (ampD sh (whole sh xs))]) ∧ w = w' := by
  have HC := Lib.hid hc; clear hc
  have HX := Lib.hid hx; clear hx
  obtain ⟨h1, h2⟩ := linedErr_zero h
  obtain ⟨a1, a2, _, a3⟩ := lineErr_zero h1
  obtain ⟨b1, b2⟩ := serErr_zero h2
  have HB := Lib.hid (fun t ht => amp_bd h t ht)
  have A3 := Lib.hid a3; clear a3
  have B2 := Lib.hid b2; clear b2
  have hw := whole_le sh xs
  have hw0 : ((xs.length : Int) / sh.length) * sh.length = (whole sh xs : Nat) := by simp [whole]
  have hw1 : 0 ≤ ((xs.length : Int) / sh.length) * sh.length := by rw [hw0]; omega
  have hw2 : ((xs.length : Int) / sh.length) * sh.length ≤ 4096 := by rw [hw0]; omega
  have hq1 : 0 ≤ (xs.length : Int) / sh.length := Int.ediv_nonneg (by omega) (by omega)
  have hq2 : (xs.length : Int) / sh.length ≤ 4096 := by have := Int.ediv_le_self (a := (xs.length : Int)) (sh.length : Int) (by omega); omega
  have HW := Lib.hid hw0; clear hw0
  have hne : ((sh.length : Int) == 0) = false := by simp; intro e; simp [e] at a1
  clear h h1 h2
  go_enter Tryz.func51, Tryz.ntmps51
  go_wp2
  rw [HW.out]
  clear hw1 hw2 hq1 hq2
  go_loop [4, 5, 16] (fun n d i => ∃ k : Nat, k ≤ whole sh xs ∧ i = .int .i64 k ∧ n = .int .i64 (ampN sh xs k) ∧ d = .int .i64 (ampD sh k)) (fun _ _ i => whole sh xs - (intOf i).toNat)
  case atStart => exact ⟨0, Nat.zero_le _, rfl, rfl, rfl⟩
  case round =>
    obtain ⟨k, hk, rfl, rfl, rfl⟩ := hrel
    obtain ⟨d1, d2, d3, d4⟩ := HB.out k (by omega)
    by_cases hlt : k < whole sh xs
    · obtain ⟨x, hx⟩ := get_of_lt (show k < xs.length by omega)
      have hm0 : k % sh.length < sh.length := Nat.mod_lt _ (by omega)
      obtain ⟨y, hy⟩ := get_of_lt hm0
      obtain ⟨b, off, rfl⟩ := HC.out.addr (by simpa using List.ne_nil_of_length_pos (by omega))
      obtain ⟨bx, ox, rfl⟩ := HX.out.addr (by simpa using List.ne_nil_of_length_pos (by omega))
      have c1 := HX.out.int hx
      have c2 := HC.out.int hy
      have t1 := B2.out _ (List.mem_of_getElem? hx)
      have t2 := A3.out _ (List.mem_of_getElem? hy)
      have p1 := mul_bd t1.1 t1.2 t2.1 t2.2
      have p2 := mul_bd t2.1 t2.2 t2.1 t2.2
      obtain ⟨p11, p12⟩ := p1
      obtain ⟨p21, p22⟩ := p2
      have e1 : ampN sh xs (k + 1) = ampN sh xs k + x * y := by simp [ampN, hx, hy]
      have e2 : ampD sh (k + 1) = ampD sh k + y * y := by simp [ampD, hy]
      have E1 := Lib.hid e1; have E2 := Lib.hid e2; clear e1 e2 hx hy
      go_wp2
      go_round
      case rel => exact ⟨k + 1, by omega, by go_num, by rw [E1.out], by rw [E2.out]⟩
      case measure => simp [intOf]; omega
    · obtain rfl : k = whole sh xs := by omega
      go_wp2
      go_ret2
      exact ⟨rfl, rfl⟩
end Go.Proofs.YtmafjfhnejeogaaGreatDoor

/- Track, of the program. -/
namespace Go.Proofs.YtmafjfhnejeogaaGreatDoor
open Go.RowKit

def trN (sh xs : List Int) : Int := ampN sh xs (whole sh xs)
def trD (sh xs : List Int) : Int := ampD sh (whole sh xs)
def trkErr (sh xs : List Int) : Int := if linedErr sh xs ≠ 0 then linedErr sh xs else if trD sh xs = 0 then 4 else 0
def trkT (sh xs : List Int) : ByteArray := if trkErr sh xs = 0 then ratT (ofS (trN sh xs) (trD sh xs)) (ofN (trN sh xs) (trD sh xs)) (ofD (trN sh xs) (trD sh xs)) else ⟨#[]⟩

set_option maxRecDepth 100000 in
theorem track_any (ao : Option Addr) (sh : List Int) (cap : Nat) (ax : Option Addr) (xs : List Int) (cx : Nat) (w : World) (ht : Tab w) (hc : Cells w ao (sh.map (Value.int .i64))) (hl : sh.length ≤ 17592186044416) (hx : Cells w ax (xs.map (Value.int .i64))) (hlx : xs.length ≤ 9223372036854775807) :
    Calls Tryz.prog 17 #[.slice ao sh.length cap, .slice ax xs.length cx] w fun e w' => e = .returned (.tuple #[.string (trkT sh xs), .int .i64 (trkErr sh xs)]) ∧ Below w.heap.size w w' := by
  have hlin := fun wx h1 h2 => lined_any ao sh cap ax xs cx wx h1 hl h2 hlx
  have HL := Lib.hid hlin; have HC := Lib.hid hc; have HX := Lib.hid hx; have HT := Lib.hid ht
  clear hlin hc hx ht
  by_cases he : linedErr sh xs = 0
  · have hamp := fun wx h1 h2 => amplitude_any ao sh cap ax xs cx wx h1 h2 he
    rw [show ampN sh xs (whole sh xs) = trN sh xs from rfl, show ampD sh (whole sh xs) = trD sh xs from rfl] at hamp
    have hab := amp_bd he (whole sh xs) (whole_le sh xs)
    rw [show ampN sh xs (whole sh xs) = trN sh xs from rfl, show ampD sh (whole sh xs) = trD sh xs from rfl] at hab
    have hwl := whole_le sh xs
    have hs4 := (serErr_zero (linedErr_zero he).2).1
    obtain ⟨d1, d2, d3, d4⟩ := hab
    have HA := Lib.hid hamp; have HE := Lib.hid he
    clear hamp
    by_cases h0 : trD sh xs = 0
    · have hr : trkErr sh xs = 4 := by simp [trkErr, he, h0]
      have htt : trkT sh xs = ⟨#[]⟩ := by simp [trkT, hr]
      have HR := Lib.hid hr; have HTT := Lib.hid htt; have H0 := Lib.hid h0
      clear hr htt h0 he
      go_enter Tryz.func17, Tryz.ntmps17
      go_wp2_with fail
      refine (HL.out _ HC.out HX.out).mono ?_
      rintro e w1 ⟨rfl, hb1⟩
      rw [HE.out]
      go_wp2_with fail
      refine (HA.out _ (HC.out.below hb1 (Nat.le_refl _)) (HX.out.below hb1 (Nat.le_refl _))).mono ?_
      rintro e w2 ⟨rfl, rfl⟩
      rw [H0.out]
      go_wp2
      go_ret2
      rw [HR.out, HTT.out]
      exact ⟨rfl, hb1⟩
    · have hr : trkErr sh xs = 0 := by simp [trkErr, he, h0]
      have htt : trkT sh xs = ratT (ofS (trN sh xs) (trD sh xs)) (ofN (trN sh xs) (trD sh xs)) (ofD (trN sh xs) (trD sh xs)) := by simp [trkT, hr]
      have hof := fun wx h => of_any (trN sh xs) (trD sh xs) wx h (by omega) (by omega) (by omega) (by omega) h0
      rw [← htt] at hof
      have hne : (trD sh xs == 0) = false := by rw [beq_eq_false_iff_ne]; exact h0
      have HR := Lib.hid hr; have HO := Lib.hid hof
      clear hr htt h0 he hof
      generalize trN sh xs = n at *
      generalize trD sh xs = d at *
      go_enter Tryz.func17, Tryz.ntmps17
      go_wp2_with fail
      refine (HL.out _ HC.out HX.out).mono ?_
      rintro e w1 ⟨rfl, hb1⟩
      rw [HE.out]
      go_wp2_with fail
      refine (HA.out _ (HC.out.below hb1 (Nat.le_refl _)) (HX.out.below hb1 (Nat.le_refl _))).mono ?_
      rintro e w2 ⟨rfl, rfl⟩
      go_wp2_with fail
      refine (HO.out _ (HT.out.below hb1 (Nat.le_refl _))).mono ?_
      rintro e w3 ⟨rfl, hb3⟩
      go_wp2
      go_ret2
      rw [HR.out]
      exact ⟨rfl, hb1.trans (hb3.mono hb1.size)⟩
  · have hr : trkErr sh xs = linedErr sh xs := by simp [trkErr, he]
    have htt : trkT sh xs = ⟨#[]⟩ := by simp [trkT, hr, he]
    have h3 : (linedErr sh xs != 0) = true := by simpa using he
    have h4 : (linedErr sh xs == 0) = false := by simpa using he
    have HR := Lib.hid hr; have HTT := Lib.hid htt
    clear hr htt he
    go_enter Tryz.func17, Tryz.ntmps17
    go_wp2_with fail
    refine (HL.out _ HC.out HX.out).mono ?_
    rintro e w1 ⟨rfl, hb1⟩
    go_wp2
    go_ret2
    rw [HR.out, HTT.out]
    exact ⟨rfl, hb1⟩
end Go.Proofs.YtmafjfhnejeogaaGreatDoor

/- RecordInjected: plain laws. -/
namespace Go.Proofs.YtmafjfhnejeogaaGreatDoor
open Go.RowKit

theorem injErr_zero {sh : List Int} {a : Int} {xs : List Int} (h : injErr sh a xs = 0) : linedErr sh xs = 0 ∧ inB (-1000) a 1000 = true ∧ serOK (inj sh a xs xs.length) = true ∧ injRes sh a xs = inj sh a xs xs.length := by
  have hr : injRes sh a xs = inj sh a xs xs.length := by simp [injRes, h]
  unfold injErr at h
  split at h
  · contradiction
  · split at h
    · cases h
    · split at h
      · cases h
      · rename_i h1 h2 h3
        exact ⟨by simpa using h1, by simpa using h2, by simpa using h3, hr⟩
theorem injErr_len {sh : List Int} {a : Int} {xs : List Int} (h : injErr sh a xs ≠ 0) : injRes sh a xs = [] := by simp [injRes, h]
theorem inj_getD (sh : List Int) (a : Int) (xs : List Int) (t : Nat) (h : t < xs.length) : (inj sh a xs xs.length).getD t 0 = xs.getD t 0 + a * sh.getD (t % sh.length) 0 := by
  unfold inj
  rw [List.getD_eq_getElem?_getD, List.getElem?_map, List.getElem?_range h]
  rfl
theorem serErr_ok {xs : List Int} (h : serOK xs = true) : serErr xs = 0 := by simp [serErr, h]
theorem linedErr_ok {sh xs : List Int} (h1 : lineErr sh = 0) (h2 : serErr xs = 0) : linedErr sh xs = 0 := by simp [linedErr, h1, h2]
/-- injecting back -/
theorem inj_back {sh : List Int} {a : Int} {xs : List Int} (h : injErr sh a xs = 0) : injErr sh (-a) (injRes sh a xs) = 0 ∧ injRes sh (-a) (injRes sh a xs) = xs := by
  obtain ⟨h1, h2, h3, h4⟩ := injErr_zero h
  obtain ⟨g1, g2⟩ := linedErr_zero h1
  have hl : (inj sh a xs xs.length).length = xs.length := inj_length _ _ _ _
  have hb : inj sh (-a) (inj sh a xs xs.length) (inj sh a xs xs.length).length = xs := by
    apply List.ext_getElem?
    intro i
    rcases Nat.lt_or_ge i xs.length with hi | hi
    · have e1 : (inj sh (-a) (inj sh a xs xs.length) (inj sh a xs xs.length).length)[i]? = some (injAt sh (-a) (inj sh a xs xs.length) i) := by
        unfold inj
        rw [List.getElem?_map, List.getElem?_range (by simpa using hi)]; rfl
      rw [e1, List.getElem?_eq_getElem hi]
      congr 1
      unfold injAt
      rw [inj_getD _ _ _ _ hi, List.getD_eq_getElem?_getD, List.getElem?_eq_getElem hi, Int.neg_mul]
      simp
      omega
    · rw [List.getElem?_eq_none (by rw [inj_length, hl]; exact hi), List.getElem?_eq_none hi]
  have hs : serOK xs = true := by
    unfold serErr at g2
    cases e : serOK xs
    · rw [e] at g2; cases g2
    · rfl
  have he : injErr sh (-a) (inj sh a xs xs.length) = 0 := by
    unfold injErr
    rw [hb, hs, linedErr_ok g1 (serErr_ok h3)]
    have : inB (-1000) (-a) 1000 = true := by
      simp only [inB, decide_eq_true_eq] at h2 ⊢; omega
    rw [this]; rfl
  rw [h4]
  refine ⟨he, ?_⟩
  unfold injRes
  rw [if_pos he, hb]
theorem whole_len {sh xs ys : List Int} (h : xs.length = ys.length) : whole sh xs = whole sh ys := by unfold whole; rw [h]
theorem amp_inj (sh2 sh : List Int) (a : Int) (xs : List Int) : ∀ k, k ≤ xs.length → ampN sh2 (inj sh a xs xs.length) k = ampN sh2 xs k + a * apS sh sh2 k := by
  intro k
  induction k with
  | zero => intro _; simp [ampN, apS]
  | succ k ih =>
    intro hk
    simp only [ampN, apS]
    rw [ih (by omega), inj_getD _ _ _ _ (by omega), Int.add_mul, Int.mul_add, Int.mul_assoc]
    omega
theorem apS_self (sh : List Int) : ∀ k, apS sh sh k = ampD sh k := by
  intro k
  induction k with
  | zero => rfl
  | succ k ih => simp only [apS, ampD]; rw [ih]
theorem apS_per (sa sb : List Int) : ∀ k, apS sa sb (sa.length * sb.length + k) = apS sa sb (sa.length * sb.length) + apS sa sb k := by
  intro k
  induction k with
  | zero => simp [apS]
  | succ k ih =>
    rw [← Nat.add_assoc]
    simp only [apS]
    rw [ih, Nat.mul_comm sa.length, Nat.mul_add_mod_self_right]
    rw [Nat.mul_comm sb.length, Nat.mul_add_mod_self_right]
    omega
theorem apS_mul (sa sb : List Int) : ∀ m : Nat, apS sa sb (m * (sa.length * sb.length)) = m * apS sa sb (sa.length * sb.length) := by
  intro m
  induction m with
  | zero => simp [apS]
  | succ m ih =>
    rw [Nat.add_mul, Nat.one_mul, Nat.add_comm, apS_per, ih]
    push_cast
    rw [Int.add_mul]; omega
/-- the error of a series of the same length that is one too -/
theorem trk_same {sh xs ys : List Int} (hl : ys.length = xs.length) (hx : serErr xs = 0) (hy : serErr ys = 0) : linedErr sh ys = linedErr sh xs ∧ trD sh ys = trD sh xs ∧ trkErr sh ys = trkErr sh xs := by
  have h1 : linedErr sh ys = linedErr sh xs := by unfold linedErr; rw [hx, hy]
  have h2 : trD sh ys = trD sh xs := by unfold trD; rw [whole_len hl]
  exact ⟨h1, h2, by unfold trkErr; rw [h1, h2]⟩
/-- a line that is injected adds its amplitude -/
theorem trN_inj {sh : List Int} {a : Int} {xs : List Int} : trN sh (inj sh a xs xs.length) = trN sh xs + a * trD sh xs := by
  unfold trN trD
  rw [whole_len (inj_length sh a xs xs.length), amp_inj _ _ _ _ _ (whole_le sh xs), apS_self]
/-- nothing to a line that is apart -/
theorem trN_apart {sh sb : List Int} {a : Int} {xs : List Int} (h : apRes sh sb = true) (hd : xs.length % (sh.length * sb.length) = 0) : trN sb (inj sh a xs xs.length) = trN sb xs := by
  unfold trN
  rw [whole_len (inj_length sh a xs xs.length), amp_inj _ _ _ _ _ (whole_le sb xs)]
  have h0 : apS sh sb (sh.length * sb.length) = 0 := by
    unfold apRes at h
    split at h
    · simpa using h
    · cases h
  have hm : ∃ m, xs.length = m * (sh.length * sb.length) := ⟨xs.length / (sh.length * sb.length), by rw [Nat.div_mul_cancel (Nat.dvd_of_mod_eq_zero hd)]⟩
  obtain ⟨m, hm⟩ := hm
  have hw : whole sb xs = m * (sh.length * sb.length) := by
    unfold whole
    rw [hm, ← Nat.mul_assoc]
    rcases Nat.eq_zero_or_pos sb.length with h1 | h1
    · rw [h1]; simp
    · rw [Nat.mul_div_cancel _ h1]
  rw [hw, apS_mul, h0]
  simp
theorem of_red (n : Int) (d : Nat) : (ofS n d, ofN n d, ofD n d) = redI n d := by
  unfold redI ofS ofN ofD
  rw [Int.natAbs_natCast, decide_eq_false (show ¬ (d : Int) < 0 by omega)]
  congr 1
  by_cases hn : n < 0
  · rw [decide_eq_true hn, decide_eq_true (show n.natAbs ≠ 0 by omega)]; rfl
  · rw [decide_eq_false hn]; rfl
theorem red_small {n : Int} {d : Nat} (h1 : -9223372036854775808 ≤ n) (h2 : n ≤ 9223372036854775807) (h3 : d ≤ 9223372036854775807) : bigQ (redI n d).2.1 (redI n d).2.2 = false := by
  have e1 : (redI n d).2.1 ≤ n.natAbs := Nat.div_le_self _ _
  have e2 : (redI n d).2.2 ≤ d := Nat.div_le_self _ _
  have e3 := digits_u64 (show (redI n d).2.1 < 18446744073709551616 by omega)
  have e4 := digits_u64 (show (redI n d).2.2 < 18446744073709551616 by omega)
  unfold bigQ
  rw [Bool.or_eq_false_iff, decide_eq_false_iff_not, decide_eq_false_iff_not]
  omega
def qTx (t : Bool × Nat × Nat) : ByteArray := ratT t.1 t.2.1 t.2.2
theorem getR_red {n : Int} {d : Nat} (hd : d ≠ 0) (h1 : -9223372036854775808 ≤ n) (h2 : n ≤ 9223372036854775807) (h3 : d ≤ 9223372036854775807) : getR (qTx (redI n d)) = some (redI n d) := by
  obtain ⟨a, b, c, _, _⟩ := redI_gcd (n := n) hd
  exact getR_own a b c (red_small h1 h2 h3)
theorem trkT_red {sh xs : List Int} {D : Nat} (he : trkErr sh xs = 0) (hD : trD sh xs = D) : trkT sh xs = qTx (redI (trN sh xs) D) := by
  unfold trkT
  rw [if_pos he, hD]
  have := of_red (trN sh xs) D
  unfold qTx
  rw [← this]
theorem qTx_size {n : Int} {d : Nat} (h1 : -9223372036854775808 ≤ n) (h2 : n ≤ 9223372036854775807) (h3 : d ≤ 9223372036854775807) : (qTx (redI n d)).size ≤ 1099511627776 := by
  have hb := red_small h1 h2 h3
  unfold bigQ at hb
  rw [Bool.or_eq_false_iff, decide_eq_false_iff_not, decide_eq_false_iff_not] at hb
  have := ratT_size (redI n d).1 (redI n d).2.1 (redI n d).2.2
  unfold qTx
  omega
/-- the text of a sum -/
theorem put_add {n1 n2 : Int} {d1 d2 : Nat} (h1 : d1 ≠ 0) (h2 : d2 ≠ 0) {N : Int} {D : Nat} (hN : redI (n1 * d2 + n2 * d1) (d1 * d2) = redI N D) (g1 : -9223372036854775808 ≤ N) (g2 : N ≤ 9223372036854775807) (g3 : D ≤ 9223372036854775807) :
    putT (rpS (redI n1 d1).1 (redI n1 d1).2.1 (redI n1 d1).2.2 (redI n2 d2).1 (redI n2 d2).2.1 (redI n2 d2).2.2) (rpN (redI n1 d1).1 (redI n1 d1).2.1 (redI n1 d1).2.2 (redI n2 d2).1 (redI n2 d2).2.1 (redI n2 d2).2.2) (rpD (redI n1 d1).1 (redI n1 d1).2.1 (redI n1 d1).2.2 (redI n2 d2).1 (redI n2 d2).2.1 (redI n2 d2).2.2) = qTx (redI N D) ∧
    putE (rpN (redI n1 d1).1 (redI n1 d1).2.1 (redI n1 d1).2.2 (redI n2 d2).1 (redI n2 d2).2.1 (redI n2 d2).2.2) (rpD (redI n1 d1).1 (redI n1 d1).2.1 (redI n1 d1).2.2 (redI n2 d2).1 (redI n2 d2).2.1 (redI n2 d2).2.2) = 0 := by
  have h := rp_red (redI n1 d1).1 (redI n1 d1).2.1 (redI n1 d1).2.2 (redI n2 d2).1 (redI n2 d2).2.1 (redI n2 d2).2.2
  rw [redI_add h1 h2, hN] at h
  have a := congrArg (fun t => t.1) h
  have b := congrArg (fun t => t.2.1) h
  have c := congrArg (fun t => t.2.2) h
  simp only at a b c
  have hs := red_small g1 g2 g3
  rw [a, b, c]
  unfold putT putE
  rw [hs]
  exact ⟨rfl, rfl⟩
end Go.Proofs.YtmafjfhnejeogaaGreatDoor

/- Complex numbers of package num: the sum of real ones. -/
namespace Go.Proofs.YtmafjfhnejeogaaGreatDoor
open Go.RowKit

theorem ValV.slices {w : World} {v : Value} {s : Bool} {n d : Nat} (h : ValV w v s n d false 0 1) : ∃ a1 c1 a2 c2 a3 c3 a4 c4, v = .agg #[.bool s, .slice a1 (dig n).length c1, .slice a2 (dig d).length c2, .bool false, .slice a3 (dig 0).length c3, .slice a4 (dig 1).length c4] ∧ NatV w (.slice a1 (dig n).length c1) n ∧ NatV w (.slice a2 (dig d).length c2) d ∧ NatV w (.slice a3 (dig 0).length c3) 0 ∧ NatV w (.slice a4 (dig 1).length c4) 1 := by
  obtain ⟨va, vb, vc, vd, rfl, ha, hb, hc, hd⟩ := h
  obtain ⟨aa, ca, rfl⟩ := ha.cases
  obtain ⟨ab, cb, rfl⟩ := hb.cases
  obtain ⟨ac, cc, rfl⟩ := hc.cases
  obtain ⟨ad, cd, rfl⟩ := hd.cases
  exact ⟨_, _, _, _, _, _, _, _, rfl, ha, hb, hc, hd⟩
def ValRes (s : Bool) (n d : Nat) (w : World) (e : Ending) (w' : World) : Prop := (∃ v, e = .returned v ∧ ValV w' v s n d false 0 1) ∧ Below w.heap.size w w'
theorem rp_zero : rpS false 0 1 false 0 1 = false ∧ rpN false 0 1 false 0 1 = 0 ∧ rpD false 0 1 false 0 1 = 1 := by decide

set_option maxRecDepth 100000 in
set_option maxHeartbeats 4000000 in
theorem valPlus_any (v1 v2 : Value) (s1 : Bool) (n1 d1 : Nat) (s2 : Bool) (n2 d2 : Nat) (w : World) (h1 : ValV w v1 s1 n1 d1 false 0 1) (h2 : ValV w v2 s2 n2 d2 false 0 1) (hd1 : d1 ≠ 0) (hd2 : d2 ≠ 0)
    (l1 : (dig n1).length ≤ 1000000000) (l2 : (dig d1).length ≤ 1000000000) (l3 : (dig n2).length ≤ 1000000000) (l4 : (dig d2).length ≤ 1000000000) :
    Calls Tryz.prog 96 #[v1, v2] w (ValRes (rpS s1 n1 d1 s2 n2 d2) (rpN s1 n1 d1 s2 n2 d2) (rpD s1 n1 d1 s2 n2 d2) w) := by
  obtain ⟨a1, c1, a2, c2, a3, c3, a4, c4, rfl, k1, k2, k3, k4⟩ := h1.slices
  obtain ⟨b1, e1, b2, e2, b3, e3, b4, e4, rfl, j1, j2, j3, j4⟩ := h2.slices
  have hal : Below w.heap.size w (((w.alloc (.cells #[.bool s1, .slice a1 (dig n1).length c1, .slice a2 (dig d1).length c2, .bool false, .slice a3 (dig 0).length c3, .slice a4 (dig 1).length c4] 145)).alloc (.cells #[.bool s2, .slice b1 (dig n2).length e1, .slice b2 (dig d2).length e2, .bool false, .slice b3 (dig 0).length e3, .slice b4 (dig 1).length e4] 145)).alloc (.cells #[.bool false, .slice none 0 0, .slice none 0 0, .bool false, .slice none 0 0, .slice none 0 0] 145)) := (((Below.refl w.heap.size w).alloc (Nat.le_refl _) _).alloc (by simp) _).alloc (by simp; omega) _
  obtain ⟨W3, hW3⟩ : ∃ W3, W3 = (((w.alloc (.cells #[.bool s1, .slice a1 (dig n1).length c1, .slice a2 (dig d1).length c2, .bool false, .slice a3 (dig 0).length c3, .slice a4 (dig 1).length c4] 145)).alloc (.cells #[.bool s2, .slice b1 (dig n2).length e1, .slice b2 (dig d2).length e2, .bool false, .slice b3 (dig 0).length e3, .slice b4 (dig 1).length e4] 145)).alloc (.cells #[.bool false, .slice none 0 0, .slice none 0 0, .bool false, .slice none 0 0, .slice none 0 0] 145)) := ⟨_, rfl⟩
  have hz3 : W3.heap.size = w.heap.size + 3 := by rw [hW3]; simp
  have HBX : Hid (∀ {B : Nat} {w1 : World}, Below B W3 w1 → w.heap.size + 2 < B → (∀ i, w1.cell? ⟨w.heap.size, i, none⟩ = #[Value.bool s1, .slice a1 (dig n1).length c1, .slice a2 (dig d1).length c2, .bool false, .slice a3 (dig 0).length c3, .slice a4 (dig 1).length c4][i]?) ∧ (∀ i, w1.cell? ⟨w.heap.size + 1, i, none⟩ = #[Value.bool s2, .slice b1 (dig n2).length e1, .slice b2 (dig d2).length e2, .bool false, .slice b3 (dig 0).length e3, .slice b4 (dig 1).length e4][i]?) ∧ (∀ i, w1.cell? ⟨w.heap.size + 2, i, none⟩ = #[Value.bool false, .slice none 0 0, .slice none 0 0, .bool false, .slice none 0 0, .slice none 0 0][i]?) ∧ (∀ i, w1.frozen? ⟨w.heap.size + 2, i, none⟩ = false)) := fun hb hB => by rw [hW3] at hb; exact boxes3 hb hB
  rw [← hW3] at hal
  have HP1 : Hid (∀ W, Below W3.heap.size W3 W → Calls Tryz.prog 136 #[.agg #[.bool s1, .slice a1 (dig n1).length c1, .slice a2 (dig d1).length c2], .agg #[.bool s2, .slice b1 (dig n2).length e1, .slice b2 (dig d2).length e2]] W (RatRes (rpS s1 n1 d1 s2 n2 d2) (rpN s1 n1 d1 s2 n2 d2) (rpD s1 n1 d1 s2 n2 d2) W)) := fun W hb => ratPlus_any _ _ s1 n1 d1 s2 n2 d2 W ⟨_, _, rfl, (k1.below hal (Nat.le_refl _)).below hb (Nat.le_refl _), (k2.below hal (Nat.le_refl _)).below hb (Nat.le_refl _)⟩ ⟨_, _, rfl, (j1.below hal (Nat.le_refl _)).below hb (Nat.le_refl _), (j2.below hal (Nat.le_refl _)).below hb (Nat.le_refl _)⟩ hd1 hd2 l1 l2 l3 l4
  have HP2 : Hid (∀ W, Below W3.heap.size W3 W → Calls Tryz.prog 136 #[.agg #[.bool false, .slice a3 (dig 0).length c3, .slice a4 (dig 1).length c4], .agg #[.bool false, .slice b3 (dig 0).length e3, .slice b4 (dig 1).length e4]] W (RatRes false 0 1 W)) := fun W hb => by
    have := ratPlus_any _ _ false 0 1 false 0 1 W ⟨_, _, rfl, (k3.below hal (Nat.le_refl _)).below hb (Nat.le_refl _), (k4.below hal (Nat.le_refl _)).below hb (Nat.le_refl _)⟩ ⟨_, _, rfl, (j3.below hal (Nat.le_refl _)).below hb (Nat.le_refl _), (j4.below hal (Nat.le_refl _)).below hb (Nat.le_refl _)⟩ (by decide) (by decide) (by rw [dig_zero]; simp) (by rw [dig_1]; simp) (by rw [dig_zero]; simp) (by rw [dig_1]; simp)
    rwa [rp_zero.1, rp_zero.2.1, rp_zero.2.2] at this
  obtain ⟨ps, hps⟩ : ∃ ps, ps = rpS s1 n1 d1 s2 n2 d2 := ⟨_, rfl⟩
  obtain ⟨pn, hpn⟩ : ∃ pn, pn = rpN s1 n1 d1 s2 n2 d2 := ⟨_, rfl⟩
  obtain ⟨pd, hpd⟩ : ∃ pd, pd = rpD s1 n1 d1 s2 n2 d2 := ⟨_, rfl⟩
  rw [← hps, ← hpn, ← hpd] at HP1 ⊢
  have HBW := Lib.hid hal
  obtain ⟨f0, f1, -, -⟩ := HBX.out (Below.refl (w.heap.size + 3) W3) (by omega)
  have x0 := f0 0
  have x1 := f0 1
  have x2 := f0 2
  have x3 := f0 3
  have x4 := f0 4
  have x5 := f0 5
  have y0 := f1 0
  have y1 := f1 1
  have y2 := f1 2
  have y3 := f1 3
  have y4 := f1 4
  have y5 := f1 5
  simp only [List.getElem?_toArray, List.getElem?_cons_succ, List.getElem?_cons_zero] at x0 x1 x2 x3 x4 x5 y0 y1 y2 y3 y4 y5
  clear f0 f1 hal h1 h2 k1 k2 k3 k4 j1 j2 j3 j4 hd1 hd2 hps hpn hpd
  go_enter Tryz.func96, Tryz.ntmps96
  go_wp2_with fail
  rw [← hW3]
  have HW3 := Lib.hid hW3
  clear hW3
  have xd0 : W3.drew.cell? ⟨w.heap.size, 0, none⟩ = some (.bool s1) := x0
  have xd1 : W3.drew.cell? ⟨w.heap.size, 1, none⟩ = some (.slice a1 (dig n1).length c1) := x1
  have xd2 : W3.drew.cell? ⟨w.heap.size, 2, none⟩ = some (.slice a2 (dig d1).length c2) := x2
  have xd3 : W3.drew.cell? ⟨w.heap.size, 3, none⟩ = some (.bool false) := x3
  have xd4 : W3.drew.cell? ⟨w.heap.size, 4, none⟩ = some (.slice a3 (dig 0).length c3) := x4
  have xd5 : W3.drew.cell? ⟨w.heap.size, 5, none⟩ = some (.slice a4 (dig 1).length c4) := x5
  have yd0 : W3.drew.cell? ⟨w.heap.size + 1, 0, none⟩ = some (.bool s2) := y0
  have yd1 : W3.drew.cell? ⟨w.heap.size + 1, 1, none⟩ = some (.slice b1 (dig n2).length e1) := y1
  have yd2 : W3.drew.cell? ⟨w.heap.size + 1, 2, none⟩ = some (.slice b2 (dig d2).length e2) := y2
  have yd3 : W3.drew.cell? ⟨w.heap.size + 1, 3, none⟩ = some (.bool false) := y3
  have yd4 : W3.drew.cell? ⟨w.heap.size + 1, 4, none⟩ = some (.slice b3 (dig 0).length e3) := y4
  have yd5 : W3.drew.cell? ⟨w.heap.size + 1, 5, none⟩ = some (.slice b4 (dig 1).length e4) := y5
  go_region_held3 (fun w' => w'.cell? ⟨w.heap.size, 0, none⟩ = some (.bool s1) ∧ w'.cell? ⟨w.heap.size, 1, none⟩ = some (.slice a1 (dig n1).length c1) ∧ w'.cell? ⟨w.heap.size, 2, none⟩ = some (.slice a2 (dig d1).length c2) ∧ w'.cell? ⟨w.heap.size, 3, none⟩ = some (.bool false) ∧ w'.cell? ⟨w.heap.size, 4, none⟩ = some (.slice a3 (dig 0).length c3) ∧ w'.cell? ⟨w.heap.size, 5, none⟩ = some (.slice a4 (dig 1).length c4) ∧ w'.cell? ⟨w.heap.size + 1, 0, none⟩ = some (.bool s2) ∧ w'.cell? ⟨w.heap.size + 1, 1, none⟩ = some (.slice b1 (dig n2).length e1) ∧ w'.cell? ⟨w.heap.size + 1, 2, none⟩ = some (.slice b2 (dig d2).length e2) ∧ w'.cell? ⟨w.heap.size + 1, 3, none⟩ = some (.bool false) ∧ w'.cell? ⟨w.heap.size + 1, 4, none⟩ = some (.slice b3 (dig 0).length e3) ∧ w'.cell? ⟨w.heap.size + 1, 5, none⟩ = some (.slice b4 (dig 1).length e4))
    (first | with_reducible exact ⟨x0, x1, x2, x3, x4, x5, y0, y1, y2, y3, y4, y5⟩ | with_reducible exact ⟨xd0, xd1, xd2, xd3, xd4, xd5, yd0, yd1, yd2, yd3, yd4, yd5⟩ | with_reducible exact ⟨px0, px1, px2, px3, px4, px5, py0, py1, py2, py3, py4, py5⟩ | with_reducible exact ⟨rx0, rx1, rx2, rx3, rx4, rx5, ry0, ry1, ry2, ry3, ry4, ry5⟩ | (refine ⟨?_, ?_, ?_, ?_, ?_, ?_, ?_, ?_, ?_, ?_, ?_, ?_⟩ <;> (repeat rw [World.cell?_setCell_other _ _ _ _ (by simp)]) <;> assumption) | go_keep)
    (first
      | (go_at_call 136; (with_reducible refine Calls.mono (HP1.out W3.drew ((Below.refl W3.heap.size W3).drew)) ?_); rintro e w4 ⟨⟨v4, rfl, h4⟩, hb4⟩; obtain ⟨g1, i1, g2, i2, rfl, m1, m2⟩ := h4.slices; have hbz : Below W3.heap.size W3 w4 := ((Below.refl W3.heap.size W3).drew).trans hb4; have HB4 := Lib.hid hbz; have px0 := cell_keep x0 hbz (Nat.le_refl _); have px1 := cell_keep x1 hbz (Nat.le_refl _); have px2 := cell_keep x2 hbz (Nat.le_refl _); have px3 := cell_keep x3 hbz (Nat.le_refl _); have px4 := cell_keep x4 hbz (Nat.le_refl _); have px5 := cell_keep x5 hbz (Nat.le_refl _); have py0 := cell_keep y0 hbz (Nat.le_refl _); have py1 := cell_keep y1 hbz (Nat.le_refl _); have py2 := cell_keep y2 hbz (Nat.le_refl _); have py3 := cell_keep y3 hbz (Nat.le_refl _); have py4 := cell_keep y4 hbz (Nat.le_refl _); have py5 := cell_keep y5 hbz (Nat.le_refl _); have M1 := Lib.hid m1; have M2 := Lib.hid m2; clear h4 hb4 m1 m2)
      | (go_at_call 136; (with_reducible refine Calls.mono (HP2.out w4 HB4.out) ?_); rintro e w5 ⟨⟨v5, rfl, h5⟩, hb5⟩; obtain ⟨g3, i3, g4, i4, rfl, m3, m4⟩ := h5.slices; have hbz : Below W3.heap.size W3 w5 := HB4.out.trans (hb5.mono HB4.out.size); have HB5 := Lib.hid hbz; have rx0 := cell_keep x0 hbz (Nat.le_refl _); have rx1 := cell_keep x1 hbz (Nat.le_refl _); have rx2 := cell_keep x2 hbz (Nat.le_refl _); have rx3 := cell_keep x3 hbz (Nat.le_refl _); have rx4 := cell_keep x4 hbz (Nat.le_refl _); have rx5 := cell_keep x5 hbz (Nat.le_refl _); have ry0 := cell_keep y0 hbz (Nat.le_refl _); have ry1 := cell_keep y1 hbz (Nat.le_refl _); have ry2 := cell_keep y2 hbz (Nat.le_refl _); have ry3 := cell_keep y3 hbz (Nat.le_refl _); have ry4 := cell_keep y4 hbz (Nat.le_refl _); have ry5 := cell_keep y5 hbz (Nat.le_refl _); have N1 := Lib.hid (M1.out.below hb5 (Nat.le_refl _)); have N2 := Lib.hid (M2.out.below hb5 (Nat.le_refl _)); have N3 := Lib.hid m3; have N4 := Lib.hid m4; obtain ⟨-, -, f2, ff⟩ := HBX.out HB5.out (by omega); have z0 := f2 0; have z1 := f2 1; have z2 := f2 2; have z3 := f2 3; have z4 := f2 4; have z5 := f2 5; simp only [List.getElem?_toArray, List.getElem?_cons_succ, List.getElem?_cons_zero] at z0 z1 z2 z3 z4 z5; have t0 := ff 0; have t1 := ff 1; have t2 := ff 2; have t3 := ff 3; have t4 := ff 4; have t5 := ff 5; clear h5 hb5 m3 m4 f2 ff))
  have hbw := HBW.out.trans (HB5.out.mono (by omega))
  have hle : w.heap.size ≤ w.heap.size + 1 + 1 := by omega
  go_wp2_with fail
  refine bodyPost_ret (v := .agg #[.bool ps, .slice g1 (dig pn).length i1, .slice g2 (dig pd).length i2, .bool false, .slice g3 (dig 0).length i3, .slice g4 (dig 1).length i4]) (by simp [results, Tryz.results96, go_sem, z0, z1, z2, z3, z4, z5]) rfl ?_
  exact ⟨⟨_, rfl, _, _, _, _, rfl, N1.out.box6 z0 z1 z2 z3 z4 z5 trivial trivial trivial trivial trivial trivial, N2.out.box6 z0 z1 z2 z3 z4 z5 trivial trivial trivial trivial trivial trivial, N3.out.box6 z0 z1 z2 z3 z4 z5 trivial trivial trivial trivial trivial trivial, N4.out.box6 z0 z1 z2 z3 z4 z5 trivial trivial trivial trivial trivial trivial⟩, (((((hbw.setCell hle _).setCell hle _).setCell hle _).setCell hle _).setCell hle _).setCell hle _⟩
end Go.Proofs.YtmafjfhnejeogaaGreatDoor
