/- Strain, of the program. -/
import Derived.Test.YtoochleabcjljaaDoorA3
namespace Go.Proofs.YtoochleabcjljaaDoor
open Go.RowKit

/-- the sum of the lesser, of the greater products of the first n taps at t -/
def loS (ts : List (Int × Int)) (xs : List Int) (t : Nat) : Nat → Int
  | 0 => 0
  | n + 1 => loS ts xs t n + min ((ts.getD n (0, 0)).1 * xs.getD (t - n) 0) ((ts.getD n (0, 0)).2 * xs.getD (t - n) 0)
def hiS (ts : List (Int × Int)) (xs : List Int) (t : Nat) : Nat → Int
  | 0 => 0
  | n + 1 => hiS ts xs t n + max ((ts.getD n (0, 0)).1 * xs.getD (t - n) 0) ((ts.getD n (0, 0)).2 * xs.getD (t - n) 0)
def bandAt (ts : List (Int × Int)) (sh : Nat) (xs : List Int) (t : Nat) : Int × Int :=
  (loS ts xs t (min ts.length (t + 1)) / 2 ^ sh, -(-(hiS ts xs t (min ts.length (t + 1))) / 2 ^ sh))
def bands (ts : List (Int × Int)) (sh : Nat) (xs : List Int) (n : Nat) : List (Int × Int) := (List.range n).map (bandAt ts sh xs)
def strErr (ts : List (Int × Int)) (sh : Int) (xs : List Int) : Int := if modErr ts sh ≠ 0 then modErr ts sh else serErr xs
def strain (ts : List (Int × Int)) (sh : Int) (xs : List Int) : List (Int × Int) := if strErr ts sh xs = 0 then bands ts sh.toNat xs xs.length else []

theorem bands_length (ts : List (Int × Int)) (sh : Nat) (xs : List Int) (n : Nat) : (bands ts sh xs n).length = n := by simp [bands]
theorem bands_succ (ts : List (Int × Int)) (sh : Nat) (xs : List Int) (n : Nat) : bands ts sh xs (n + 1) = bands ts sh xs n ++ [bandAt ts sh xs n] := by simp [bands, List.range_succ]

/-- the bounds of products -/
theorem prod_bd {a x : Int} (h1 : -1048576 ≤ a) (h2 : a ≤ 1048576) (h3 : -8388608 ≤ x) (h4 : x ≤ 8388608) : -8796093022208 ≤ a * x ∧ a * x ≤ 8796093022208 := by
  have ha : a.natAbs ≤ 1048576 := by omega
  have hx : x.natAbs ≤ 8388608 := by omega
  have h := Nat.mul_le_mul ha hx
  rw [← Int.natAbs_mul] at h
  omega

theorem modErr_zero {ts : List (Int × Int)} {sh : Int} (h : modErr ts sh = 0) : 1 ≤ ts.length ∧ ts.length ≤ 16 ∧ 0 ≤ sh ∧ sh ≤ 20 ∧ ∀ t ∈ ts, t.1 ≤ t.2 ∧ -1048576 ≤ t.1 ∧ t.2 ≤ 1048576 := by
  have h1 : modOK ts sh = true := by
    cases e : modOK ts sh
    · simp [modErr, e] at h
    · rfl
  simp only [modOK, inB, Bool.and_eq_true, decide_eq_true_eq, Bool.not_eq_true', List.any_eq_false, tapBad] at h1
  refine ⟨by omega, by omega, by omega, by omega, fun t ht => ?_⟩
  have := h1.2.1 t ht
  omega

theorem serErr_zero {xs : List Int} (h : serErr xs = 0) : xs.length ≤ 4096 ∧ ∀ x ∈ xs, -8388608 ≤ x ∧ x ≤ 8388608 := by
  have h1 : serOK xs = true := by
    cases e : serOK xs
    · simp [serErr, e] at h
    · rfl
  simpa [serOK, inB] using h1

theorem lohi_bd {ts : List (Int × Int)} {xs : List Int} {sh : Int} (h : modErr ts sh = 0) (hx : serErr xs = 0) (t : Nat) (ht : t < xs.length) (n : Nat) (hn : n ≤ ts.length) (hnt : n ≤ t + 1) :
    -(8796093022208 * (n : Int)) ≤ loS ts xs t n ∧ loS ts xs t n ≤ 8796093022208 * (n : Int) ∧ -(8796093022208 * (n : Int)) ≤ hiS ts xs t n ∧ hiS ts xs t n ≤ 8796093022208 * (n : Int) := by
  induction n with
  | zero => simp [loS, hiS]
  | succ n ih =>
    have ih := ih (by omega) (by omega)
    have m1 := (modErr_zero h).2.2.2.2 (ts.getD n (0, 0)) (by
      rw [List.getD_eq_getElem?_getD, List.getElem?_eq_getElem (by omega)]; exact List.getElem_mem _)
    have m2 := (serErr_zero hx).2 (xs.getD (t - n) 0) (by
      rw [List.getD_eq_getElem?_getD, List.getElem?_eq_getElem (by omega)]; exact List.getElem_mem _)
    have p1 := prod_bd (a := (ts.getD n (0, 0)).1) (x := xs.getD (t - n) 0) (by omega) (by omega) (by omega) (by omega)
    have p2 := prod_bd (a := (ts.getD n (0, 0)).2) (x := xs.getD (t - n) 0) (by omega) (by omega) (by omega) (by omega)
    simp only [loS, hiS]
    push_cast
    omega

theorem Tryd.infoBand : (Tryd.prog.info? 39).map (fun i => (i.zero, i.size, i.bytes)) = some (some (.agg #[.int .i64 0, .int .i64 0]), 2, 16) := by kernel_rfl

set_option maxRecDepth 100000 in
theorem strain_any (ao : Option Addr) (ts : List (Int × Int)) (cap : Nat) (sh : Int) (ax : Option Addr) (xs : List Int) (cx : Nat) (w : World) (hc : Cells w ao (prs ts)) (hl : ts.length ≤ 9223372036854775807) (hx : Cells w ax (xs.map (Value.int .i64))) (hlx : xs.length ≤ 9223372036854775807) :
    Calls Tryd.prog 6 #[.agg #[.slice ao ts.length cap, .int .i64 sh], .slice ax xs.length cx] w fun e w' => (∃ a c, e = .returned (.tuple #[.slice a (strain ts sh xs).length c, .int .i64 (strErr ts sh xs)]) ∧ Cells w' a (prs (strain ts sh xs))) ∧ Below w.heap.size w w' := by
  have HC := Lib.hid hc; clear hc
  have HX := Lib.hid hx; clear hx
  by_cases h1 : modErr ts sh = 0
  · by_cases h2 : serErr xs = 0
    · go_enter Tryd.func6, Tryd.ntmps6
      go_wp2_with fail
      refine (checkModel_any ao ts cap sh _ (HC.out.below ((Below.refl _ _).alloc (Nat.le_refl _) _) (Nat.le_refl _)) hl).mono ?_
      rintro e w1 ⟨rfl, hb⟩
      rw [h1]
      go_wp2_with fail
      refine (checkSeries_any ax xs cx _ (HX.out.below (((Below.refl _ _).alloc (Nat.le_refl _) _).trans (hb.mono (by simp))) (Nat.le_refl _)) hlx).mono ?_
      rintro e w2 ⟨rfl, hb2⟩
      rw [h2]
      have hm := modErr_zero h1
      have hs := serErr_zero h2
      have hbd := fun t ht n hn hnt => lohi_bd h1 h2 t ht n hn hnt
      have H1 := Lib.hid h1; clear h1
      have H2 := Lib.hid h2; clear h2
      obtain ⟨hm1, hm2, hm3, hm4, hm5⟩ := hm
      obtain ⟨hs1, hs2⟩ := hs
      have HM5 := Lib.hid hm5; clear hm5
      have HS2 := Lib.hid hs2; clear hs2
      have HBD := Lib.hid hbd; clear hbd
      obtain ⟨shn, rfl⟩ := Int.eq_ofNat_of_zero_le hm3
      have hbe : Below (w.heap.size + 1) (w.alloc (.cells #[.slice ao ts.length cap, .int .i64 shn] 24)) w2 := (hb.mono (by simp)).trans (hb2.mono (by have := hb.size; simpa using this))
      clear hb hb2
      obtain ⟨i0, hi, hz0, hz1, hz2⟩ := info_parts Tryd.infoBand
      go_wp2
      go_loopw [8, 28] (fun v i wr => ∃ k : Nat, k ≤ xs.length ∧ i = .int .i64 k ∧ wr.ownsRow (w.heap.size + 1) 39 2 v k (prs (bands ts shn xs k)) ∧ Below (w.heap.size + 1) (w.alloc (.cells #[.slice ao ts.length cap, .int .i64 shn] 24)) wr) (fun _ i _ => xs.length - (intOf i).toNat)
      case atStart => exact ⟨0, Nat.zero_le _, rfl, World.ownsRow_nil _ _ _ _, hbe⟩
      case round =>
        obtain ⟨k, hk, rfl, hown, hb⟩ := hrel
        obtain ⟨wo, rfl⟩ : ∃ wo : World, wo = wr := ⟨_, rfl⟩
        have hc0 : wo.cell? ⟨w.heap.size, 0, none⟩ = some (.slice ao ts.length cap) := box_keep hb (by simp) 0
        have hc1 : wo.cell? ⟨w.heap.size, 1, none⟩ = some (.int .i64 shn) := box_keep hb (by simp) 1
        have hsz : w.heap.size + 1 ≤ wo.heap.size := by have := hb.size; simpa using this
        by_cases hlt : k < xs.length
        · have HO := Lib.hid hown; clear hown
          go_wp2
          go_loopw [10, 11, 34] (fun lo hi j wi => ∃ n : Nat, n ≤ ts.length ∧ n ≤ k + 1 ∧ j = .int .i64 n ∧ lo = .int .i64 (loS ts xs k n) ∧ hi = .int .i64 (hiS ts xs k n) ∧ wi.ownsRow (w.heap.size + 1) 39 2 u8 k (prs (bands ts shn xs k)) ∧ Below (w.heap.size + 1) (w.alloc (.cells #[.slice ao ts.length cap, .int .i64 shn] 24)) wi) (fun _ _ j _ => ts.length - (intOf j).toNat)
          case atStart => exact ⟨0, Nat.zero_le _, Nat.zero_le _, rfl, rfl, rfl, HO.out, hb⟩
          case round =>
            clear hb hc0 hc1 hsz
            obtain ⟨n, hn, hnk, rfl, rfl, rfl, hown, hb⟩ := hrel
            have HO := Lib.hid hown; clear hown
            have hc0 : wr.cell? ⟨w.heap.size, 0, none⟩ = some (.slice ao ts.length cap) := box_keep hb (by simp) 0
            have hc1 : wr.cell? ⟨w.heap.size, 1, none⟩ = some (.int .i64 shn) := box_keep hb (by simp) 1
            have hsz : w.heap.size + 1 ≤ wr.heap.size := by have := hb.size; simpa using this
            have hbw : Below w.heap.size w wr := ((Below.refl _ _).alloc (Nat.le_refl _) _).trans (hb.mono (by omega))
            obtain ⟨b1, b2, b3, b4⟩ := HBD.out k hlt n hn hnk
            by_cases hgo : n < ts.length ∧ n ≤ k
            · obtain ⟨hg1, hg2⟩ := hgo
              obtain ⟨⟨x1, x2⟩, hx⟩ := get_of_lt hg1
              obtain ⟨y, hy⟩ := get_of_lt (show k - n < xs.length by omega)
              obtain ⟨b, off, rfl⟩ := HC.out.addr (prs_ne (by omega))
              obtain ⟨bx, ox, rfl⟩ := HX.out.addr (by simpa using List.ne_nil_of_length_pos (by omega))
              have hcell1 := cell_keep (HC.out.at (prs_fst hx)) hbw (Nat.le_refl _)
              have hcell2 := cell_keep (HC.out.at (prs_snd hx)) hbw (Nat.le_refl _)
              rw [← Nat.add_assoc] at hcell2
              simp only at hcell1 hcell2
              have hcell3 := cell_keep (HX.out.int hy) hbw (Nat.le_refl _)
              have t1 := HM5.out _ (List.mem_of_getElem? hx)
              have t2 := HS2.out _ (List.mem_of_getElem? hy)
              simp only at t1
              have p1 := prod_bd (a := x1) (x := y) (by omega) (by omega) (by omega) (by omega)
              have p2 := prod_bd (a := x2) (x := y) (by omega) (by omega) (by omega) (by omega)
              have e1 : loS ts xs k (n + 1) = loS ts xs k n + min (x1 * y) (x2 * y) := by simp [loS, hx, hy]
              have e2 : hiS ts xs k (n + 1) = hiS ts xs k n + max (x1 * y) (x2 * y) := by simp [hiS, hx, hy]
              have E1 := Lib.hid e1; clear e1
              have E2 := Lib.hid e2; clear e2
              clear hx hy
              go_wp2
              have q1 : IntKind.i64.wrap ((k : Int) - n) = (k : Int) - n := IntWalk.i64_in _ (by omega)
              have q2 : 0 ≤ (k : Int) - n := by omega
              have q3 : (k : Int) - n < xs.length := by omega
              have q4 : ((k : Int) - n).toNat = k - n := by omega
              have q5 : IntKind.i64.wrap (x1 * y) = x1 * y := IntWalk.i64_in _ (by omega)
              have q6 : IntKind.i64.wrap (x2 * y) = x2 * y := IntWalk.i64_in _ (by omega)
              have q7 := cell_keep hcell3 ((Below.refl _ _).alloc (Nat.le_refl _) (.cells #[.int .i64 x1, .int .i64 x2] 37)) (Nat.le_refl _)
              go_quiet (fail)
              clear q1 q2 q3 q4 q5 q6 q7
              go_wp2
              go_roundw
              case rel => exact ⟨n + 1, by omega, by omega, by go_num, by rw [E1.out, min_if], by rw [E2.out, max_if], own_drewN (HO.out.alloc _) _, bel_drewN (hb.alloc hsz _) _⟩
              case measure => simp [intOf]; omega
            · have hn' : n = min ts.length (k + 1) := by omega
              have hfin : bandAt ts shn xs k = (loS ts xs k n / 2 ^ shn, -(-(hiS ts xs k n) / 2 ^ shn)) := by rw [bandAt, ← hn']
              have HF := Lib.hid hfin; clear hfin hn'
              by_cases hex : n < ts.length
              · have hkn : n = k + 1 := by omega
                obtain ⟨⟨x1, x2⟩, hx⟩ := get_of_lt hex
                obtain ⟨b, off, rfl⟩ := HC.out.addr (prs_ne (by omega))
                have hcell1 := cell_keep (HC.out.at (prs_fst hx)) hbw (Nat.le_refl _)
                have hcell2 := cell_keep (HC.out.at (prs_snd hx)) hbw (Nat.le_refl _)
                rw [← Nat.add_assoc] at hcell2
                simp only at hcell1 hcell2
                clear hx
                have hkn' : k < n := by omega
                have HKN := Lib.hid hkn; clear hkn
                go_wp2
                have hoq := HO.out.alloc (.cells #[.int .i64 x1, .int .i64 x2] 37)
                have hbq := hb.alloc hsz (.cells #[.int .i64 x1, .int .i64 x2] 37)
                generalize wr.alloc (.cells #[.int .i64 x1, .int .i64 x2] 37) = wq at *
                clear hb hc0 hc1 hsz hbw hcell1 hcell2
                have hne : ¬ some w.heap.size = u8.ownBlock := fun e => by have := (hoq.lt _ e.symm).1; omega
                have hob : ∀ j, u8.ownBlock = some j → w.heap.size + 1 ≤ j := fun j e => (hoq.lt j e).1
                have HOB := Lib.hid hob; clear hob
                have HOQ := Lib.hid hoq; clear hoq
                have hc1 : wq.cell? ⟨w.heap.size, 1, none⟩ = some (.int .i64 shn) := box_keep hbq (by simp) 1
                have hsz : w.heap.size + 1 ≤ wq.heap.size := by have := hbq.size; simpa using this
                have hd := div_pow_bd (x := -(hiS ts xs k n)) (M := 140737488355328) shn (by omega) (by omega) (by omega)
                have g1 : IntKind.i64.wrap (-(hiS ts xs k n)) = -(hiS ts xs k n) := IntWalk.i64_in _ (by omega)
                have g2 : IntKind.i64.wrap (-(-(hiS ts xs k n) / 2 ^ shn)) = -(-(hiS ts xs k n) / 2 ^ shn) := IntWalk.i64_in _ (by omega)
                have g3 : min shn 64 = shn := by omega
                go_region_held3 (fun w' => w'.cell? ⟨w.heap.size, 1, none⟩ = some (.int .i64 shn))
                  (first | go_keep | (rw [hgrow.cell_far _ (by simp; omega) hne]; assumption))
                  ((refine step_append_lies _ (by rfl) _ _ _ (by rfl) (w.heap.size + 1) 39 i0 _ 2 16 Tryd.underlying26 hi hz0 hz1 hz2 rfl (by omega) u8 k (prs (bands ts shn xs k)) (by rfl) ((HOQ.out.alloc _).drew) ⟨wq.heap.size, 0, none⟩ 1 1 [.int .i64 (loS ts xs k n / 2 ^ shn), .int .i64 (-(-(hiS ts xs k n) / 2 ^ shn))] (by rfl) (by rfl) (World.news_of_block (cs := #[.int .i64 (loS ts xs k n / 2 ^ shn), .int .i64 (-(-(hiS ts xs k n) / 2 ^ shn))]) (t := 39) (fr := (0, 0)) (heap_alloc_new wq _)) (by simp [Value.oneCell']) (by omega) (by unfold maxLen; omega) (by omega) (by simp; omega) (wq.heap.size + 1) (by simp) ?_; intro gg cp wz hown1 hgrow hat hlt1))
                have hfin := hown1
                rw [show prs (bands ts shn xs k) ++ [.int .i64 (loS ts xs k n / 2 ^ shn), .int .i64 (-(-(hiS ts xs k n) / 2 ^ shn))] = prs (bands ts shn xs (k + 1)) from by rw [bands_succ, prs_append, HF.out]; rfl] at hfin
                have hbz := (bel_drewN (hbq.alloc hsz (.cells #[.int .i64 (loS ts xs k n / 2 ^ shn), .int .i64 (-(-(hiS ts xs k n) / 2 ^ shn))] 39)) 1).grown hgrow (by simp; omega) HOB.out
                clear hown1 hgrow g1 g2 g3 hd
                have HFIN := Lib.hid hfin; clear hfin
                go_wp2
                go_roundw
                case rel => exact ⟨k + 1, by omega, by go_num, HFIN.out, hbz⟩
                case measure => simp [intOf]; omega
              · go_wp2
                have hoq := HO.out
                have hbq := hb
                obtain ⟨wq, rfl⟩ : ∃ wq : World, wq = wr := ⟨_, rfl⟩
                clear hb hc0 hc1 hsz hbw
                have hne : ¬ some w.heap.size = u8.ownBlock := fun e => by have := (hoq.lt _ e.symm).1; omega
                have hob : ∀ j, u8.ownBlock = some j → w.heap.size + 1 ≤ j := fun j e => (hoq.lt j e).1
                have HOB := Lib.hid hob; clear hob
                have HOQ := Lib.hid hoq; clear hoq
                have hc1 : wq.cell? ⟨w.heap.size, 1, none⟩ = some (.int .i64 shn) := box_keep hbq (by simp) 1
                have hsz : w.heap.size + 1 ≤ wq.heap.size := by have := hbq.size; simpa using this
                have hd := div_pow_bd (x := -(hiS ts xs k n)) (M := 140737488355328) shn (by omega) (by omega) (by omega)
                have g1 : IntKind.i64.wrap (-(hiS ts xs k n)) = -(hiS ts xs k n) := IntWalk.i64_in _ (by omega)
                have g2 : IntKind.i64.wrap (-(-(hiS ts xs k n) / 2 ^ shn)) = -(-(hiS ts xs k n) / 2 ^ shn) := IntWalk.i64_in _ (by omega)
                have g3 : min shn 64 = shn := by omega
                go_region_held3 (fun w' => w'.cell? ⟨w.heap.size, 1, none⟩ = some (.int .i64 shn))
                  (first | go_keep | (rw [hgrow.cell_far _ (by simp; omega) hne]; assumption))
                  ((refine step_append_lies _ (by rfl) _ _ _ (by rfl) (w.heap.size + 1) 39 i0 _ 2 16 Tryd.underlying26 hi hz0 hz1 hz2 rfl (by omega) u8 k (prs (bands ts shn xs k)) (by rfl) ((HOQ.out.alloc _).drew) ⟨wq.heap.size, 0, none⟩ 1 1 [.int .i64 (loS ts xs k n / 2 ^ shn), .int .i64 (-(-(hiS ts xs k n) / 2 ^ shn))] (by rfl) (by rfl) (World.news_of_block (cs := #[.int .i64 (loS ts xs k n / 2 ^ shn), .int .i64 (-(-(hiS ts xs k n) / 2 ^ shn))]) (t := 39) (fr := (0, 0)) (heap_alloc_new wq _)) (by simp [Value.oneCell']) (by omega) (by unfold maxLen; omega) (by omega) (by simp; omega) (wq.heap.size + 1) (by simp) ?_; intro gg cp wz hown1 hgrow hat hlt1))
                have hfin := hown1
                rw [show prs (bands ts shn xs k) ++ [.int .i64 (loS ts xs k n / 2 ^ shn), .int .i64 (-(-(hiS ts xs k n) / 2 ^ shn))] = prs (bands ts shn xs (k + 1)) from by rw [bands_succ, prs_append, HF.out]; rfl] at hfin
                have hbz := (bel_drewN (hbq.alloc hsz (.cells #[.int .i64 (loS ts xs k n / 2 ^ shn), .int .i64 (-(-(hiS ts xs k n) / 2 ^ shn))] 39)) 1).grown hgrow (by simp; omega) HOB.out
                clear hown1 hgrow g1 g2 g3 hd
                have HFIN := Lib.hid hfin; clear hfin
                go_wp2
                go_roundw
                case rel => exact ⟨k + 1, by omega, by go_num, HFIN.out, hbz⟩
                case measure => simp [intOf]; omega
        · obtain rfl : k = xs.length := by omega
          obtain ⟨a, c, rfl, hcs⟩ := own_cells hown
          have hst : strain ts shn xs = bands ts shn xs xs.length := by simp [strain, strErr, H1.out, H2.out]
          have hse : strErr ts shn xs = 0 := by simp [strErr, H1.out, H2.out]
          have HST := Lib.hid hst; clear hst
          have HSE := Lib.hid hse; clear hse
          have HCS := Lib.hid hcs; clear hcs
          have HO := Lib.hid hown; clear hown
          go_wp2
          go_ret2
          refine ⟨⟨a, c, ?_, ?_⟩, ((Below.refl _ _).alloc (Nat.le_refl _) _).trans (hb.mono (by omega))⟩
          · rw [HST.out, HSE.out, bands_length]; rfl
          · rw [HST.out]; exact HCS.out
    · have hst : strain ts sh xs = [] := by simp [strain, strErr, h1, h2]
      have hse : strErr ts sh xs = serErr xs := by simp [strErr, h1]
      have HST := Lib.hid hst; clear hst
      have HSE := Lib.hid hse; clear hse
      have h3 : (serErr xs != 0) = true := by simpa using h2
      have h4 : (serErr xs == 0) = false := by simpa using h2
      go_enter Tryd.func6, Tryd.ntmps6
      go_wp2_with fail
      refine (checkModel_any ao ts cap sh _ (HC.out.below ((Below.refl _ _).alloc (Nat.le_refl _) _) (Nat.le_refl _)) hl).mono ?_
      rintro e w1 ⟨rfl, hb⟩
      rw [h1]
      go_wp2_with fail
      refine (checkSeries_any ax xs cx _ (HX.out.below (((Below.refl _ _).alloc (Nat.le_refl _) _).trans (hb.mono (by simp))) (Nat.le_refl _)) hlx).mono ?_
      rintro e w2 ⟨rfl, hb2⟩
      go_wp2
      go_ret2
      refine ⟨⟨none, 0, ?_, ?_⟩, (((Below.refl _ _).alloc (Nat.le_refl _) _).trans (hb.mono (by simp))).trans (hb2.mono (by have := hb.size; simp at this; omega))⟩
      · rw [HST.out, HSE.out]; rfl
      · rw [HST.out]; exact Cells.nil _ _
  · have hst : strain ts sh xs = [] := by simp [strain, strErr, h1]
    have hse : strErr ts sh xs = modErr ts sh := by simp [strErr, h1]
    have HST := Lib.hid hst; clear hst
    have HSE := Lib.hid hse; clear hse
    have h3 : (modErr ts sh != 0) = true := by simpa using h1
    have h4 : (modErr ts sh == 0) = false := by simpa using h1
    go_enter Tryd.func6, Tryd.ntmps6
    go_wp2_with fail
    refine (checkModel_any ao ts cap sh _ (HC.out.below ((Below.refl _ _).alloc (Nat.le_refl _) _) (Nat.le_refl _)) hl).mono ?_
    rintro e w1 ⟨rfl, hb⟩
    go_wp2
    go_ret2
    refine ⟨⟨none, 0, ?_, ?_⟩, ((Below.refl _ _).alloc (Nat.le_refl _) _).trans (hb.mono (by simp))⟩
    · rw [HST.out, HSE.out]; rfl
    · rw [HST.out]; exact Cells.nil _ _
end Go.Proofs.YtoochleabcjljaaDoor
