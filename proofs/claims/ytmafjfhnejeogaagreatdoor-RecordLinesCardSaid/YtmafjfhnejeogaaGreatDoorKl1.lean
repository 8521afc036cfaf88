/- Parts of a proof, in build order: L0, L1, L2, B2, Dig, Dig2, N0, N1. -/
import Derived.Test.YtmafjfhnejeogaaGreatDoorKl0

/- Lines as the reference checks them: Clamp, CheckLine, lined. -/
namespace Go.Proofs.YtmafjfhnejeogaaGreatDoor
open Go.RowKit

theorem clamp_any (n lo hi : Int) (w : World) :
    Calls Tryz.prog 46 #[.int .i64 n, .int .i64 lo, .int .i64 hi] w fun e w' => e = .returned (.int .i64 (max lo (min n hi))) ∧ w = w' := by
  go_enter Tryz.func46, Tryz.ntmps46
  go_wp2
  all_goals
    go_ret
    refine ⟨ret_int ?_, rfl⟩
    split at * <;> omega

def clN (n : Int) : Int := max (-1001) (min n 1001)
theorem clN_bd (n : Int) : -1001 ≤ clN n ∧ clN n ≤ 1001 := by unfold clN; omega
theorem clN_in {n : Int} (h1 : -1000 ≤ n) (h2 : n ≤ 1000) : clN n = n := by unfold clN; omega
def clS (xs : List Int) : Int := sumL (xs.map clN)
theorem clS_snoc (xs : List Int) (x : Int) : clS (xs ++ [x]) = clS xs + clN x := by unfold clS; rw [List.map_append]; exact sumL_snoc _ _
theorem clS_bd (xs : List Int) : -(1001 * (xs.length : Int)) ≤ clS xs ∧ clS xs ≤ 1001 * (xs.length : Int) := by
  suffices ∀ (xs : List Int) (a : Int), a - 1001 * (xs.length : Int) ≤ (xs.map clN).foldl (· + ·) a ∧ (xs.map clN).foldl (· + ·) a ≤ a + 1001 * (xs.length : Int) by
    have := this xs 0; simp only [clS, sumL]; omega
  intro xs
  induction xs with
  | nil => intro a; simp
  | cons x xs ih =>
    intro a
    have h1 := clN_bd x
    have h2 := ih (a + clN x)
    simp only [List.map_cons, List.foldl_cons, List.length_cons]
    push_cast
    omega
theorem clS_in {xs : List Int} (h : xs.all (fun n => inB (-1000) n 1000) = true) : clS xs = sumL xs := by
  unfold clS
  congr 1
  conv => rhs; rw [← List.map_id xs]
  refine List.map_congr_left fun x hx => ?_
  have := List.all_eq_true.1 h x hx
  simp only [inB, decide_eq_true_eq] at this
  exact clN_in this.1 this.2
theorem lineErr_ref (xs : List Int) (okb sob : Bool) (sm : Int) (h1 : okb = (inB 2 xs.length 32 && xs.all (fun n => inB (-1000) n 1000))) (h2 : sm = clS xs) (h3 : sob = xs.any (fun n => n != 0)) :
    lineErr xs = if okb = true ∧ sob = true ∧ sm = 0 then 0 else 54 := by
  subst h1 h2 h3
  unfold lineErr lineOK
  by_cases ha : xs.all (fun n => inB (-1000) n 1000) = true
  · rw [clS_in ha, ha]
    by_cases hs : sumL xs = 0
    · simp [hs, Bool.and_comm]
    · simp [hs]
  · simp [ha]

set_option maxHeartbeats 1000000 in
theorem refCheckLine_any (ao : Option Addr) (xs : List Int) (cap : Nat) (w : World) (hc : Cells w ao (xs.map (Value.int .i64))) (hl : xs.length ≤ 17592186044416) :
    Calls Tryz.prog 12 #[.slice ao xs.length cap] w fun e w' => e = .returned (.int .i64 (lineErr xs)) ∧ w = w' := by
  have HC := Lib.hid hc; clear hc
  go_enter Tryz.func12, Tryz.ntmps12
  go_wp2_with fail
  refine (in_any _ _ _ _).mono ?_
  rintro e w1 ⟨rfl, rfl⟩
  go_wp2
  go_loop [3, 4, 5, 6] (fun ov sm so i => ∃ k : Nat, k ≤ xs.length ∧ i = .int .i64 k ∧ ov = .bool (inB 2 xs.length 32 && (xs.take k).all (fun n => inB (-1000) n 1000)) ∧ sm = .int .i64 (clS (xs.take k)) ∧ so = .bool ((xs.take k).any (fun n => n != 0))) (fun _ _ _ i => xs.length - (intOf i).toNat)
  case atStart => exact ⟨0, Nat.zero_le _, rfl, by simp, rfl, rfl⟩
  case round =>
    obtain ⟨k, hk, rfl, rfl, rfl, rfl⟩ := hrel
    have hbd := clS_bd (xs.take k)
    rw [List.length_take, Nat.min_eq_left hk] at hbd
    obtain ⟨hb1, hb2⟩ := hbd
    by_cases hlt : k < xs.length
    · obtain ⟨x, hx⟩ := get_of_lt hlt
      obtain ⟨b, off, rfl⟩ := HC.out.addr (by simpa using List.ne_nil_of_length_pos (by omega))
      have hcell := HC.out.int hx
      have ht := take_get hx
      have hs : clS (xs.take (k + 1)) = clS (xs.take k) + clN x := by rw [ht, clS_snoc]
      have ha : (inB 2 xs.length 32 && (xs.take (k + 1)).all (fun n => inB (-1000) n 1000)) = ((inB 2 xs.length 32 && (xs.take k).all (fun n => inB (-1000) n 1000)) && inB (-1000) x 1000) := by rw [ht, List.all_append]; simp [Bool.and_assoc]
      have hn : (xs.take (k + 1)).any (fun n => n != 0) = ((xs.take k).any (fun n => n != 0) || x != 0) := by rw [ht, List.any_append]; simp
      have hcl : max (-1001) (min x 1001) = clN x := rfl
      have hcb := clN_bd x
      obtain ⟨hcb1, hcb2⟩ := hcb
      have hcp := fun wx => clamp_any x (-1001) 1001 wx
      rw [hcl] at hcp
      have HCP := Lib.hid hcp
      have HS := Lib.hid hs; have HA := Lib.hid ha; have HN := Lib.hid hn
      clear hs ha hn ht hx hcl hcp
      generalize (inB 2 xs.length 32 && (xs.take k).all (fun n => inB (-1000) n 1000)) = ob at *
      generalize (xs.take k).any (fun n => n != 0) = so at *
      generalize clS (xs.take k) = sm at *
      generalize clN x = cx at *
      cases ob <;> cases so
      all_goals
        go_wp2_with (first | (go_at_call 45; refine (in_any _ _ _ _).mono ?_; rintro e w' ⟨rfl, rfl⟩) | (go_at_call 46; refine (HCP.out _).mono ?_; rintro e w' ⟨rfl, rfl⟩))
        go_round
        case rel => exact ⟨k + 1, by omega, by go_num, by rw [HA.out]; simp, by rw [HS.out], by rw [HN.out]; simp⟩
        case measure => simp [intOf]; omega
    · obtain rfl : k = xs.length := by omega
      have hle := lineErr_ref xs (inB 2 xs.length 32 && (xs.take xs.length).all (fun n => inB (-1000) n 1000)) ((xs.take xs.length).any (fun n => n != 0)) (clS (xs.take xs.length)) (by rw [List.take_length]) (by rw [List.take_length]) (by rw [List.take_length])
      have HLE := Lib.hid hle; clear hle
      generalize (inB 2 xs.length 32 && (xs.take xs.length).all (fun n => inB (-1000) n 1000)) = ob at *
      generalize (xs.take xs.length).any (fun n => n != 0) = so at *
      generalize clS (xs.take xs.length) = sm at *
      cases ob <;> cases so
      all_goals
        go_wp2
        all_goals
          go_ret
          exact ⟨ret_int (by rw [HLE.out]; simp_all), rfl⟩

theorem refLined_any (ao : Option Addr) (sh : List Int) (cap : Nat) (ax : Option Addr) (xs : List Int) (cx : Nat) (w : World) (hc : Cells w ao (sh.map (Value.int .i64))) (hl : sh.length ≤ 17592186044416) (hx : Cells w ax (xs.map (Value.int .i64))) (hlx : xs.length ≤ 9223372036854775807) :
    Calls Tryz.prog 49 #[.slice ao sh.length cap, .slice ax xs.length cx] w fun e w' => e = .returned (.int .i64 (linedErr sh xs)) ∧ Below w.heap.size w w' := by
  have HC := Lib.hid hc; clear hc
  have HX := Lib.hid hx; clear hx
  by_cases h1 : lineErr sh = 0
  · have he : linedErr sh xs = serErr xs := by simp [linedErr, h1]
    have HE := Lib.hid he; clear he
    have H1 := Lib.hid h1; clear h1
    go_enter Tryz.func49, Tryz.ntmps49
    go_wp2_with fail
    refine (refCheckLine_any ao sh cap _ HC.out hl).mono ?_
    rintro e w1 ⟨rfl, rfl⟩
    rw [H1.out]
    go_wp2_with fail
    refine (refCheckSeries_any ax xs cx _ HX.out hlx).mono ?_
    rintro e w2 ⟨rfl, hb2⟩
    go_wp2
    go_ret
    exact ⟨ret_int HE.out.symm, hb2⟩
  · have he : linedErr sh xs = lineErr sh := by simp [linedErr, h1]
    have HE := Lib.hid he; clear he
    have h3 : (lineErr sh != 0) = true := by simpa using h1
    have h4 : (lineErr sh == 0) = false := by simpa using h1
    go_enter Tryz.func49, Tryz.ntmps49
    go_wp2_with fail
    refine (refCheckLine_any ao sh cap _ HC.out hl).mono ?_
    rintro e w1 ⟨rfl, rfl⟩
    go_wp2
    go_ret
    exact ⟨ret_int HE.out.symm, Below.refl _ _⟩
end Go.Proofs.YtmafjfhnejeogaaGreatDoor

/- Inject as the reference does it. -/
namespace Go.Proofs.YtmafjfhnejeogaaGreatDoor
open Go.RowKit

set_option maxRecDepth 100000 in
set_option maxHeartbeats 2000000 in
theorem refInject_any (ao : Option Addr) (sh : List Int) (cap : Nat) (a : Int) (ax : Option Addr) (xs : List Int) (cx : Nat) (w : World) (hc : Cells w ao (sh.map (Value.int .i64))) (hl : sh.length ≤ 17592186044416) (hx : Cells w ax (xs.map (Value.int .i64))) (hlx : xs.length ≤ 9223372036854775807) :
    Calls Tryz.prog 15 #[.slice ao sh.length cap, .int .i64 a, .slice ax xs.length cx] w fun e w' => (∃ b c, e = .returned (.tuple #[.slice b (injRes sh a xs).length c, .int .i64 (injErr sh a xs)]) ∧ Cells w' b ((injRes sh a xs).map (Value.int .i64))) ∧ Below w.heap.size w w' := by
  have HC := Lib.hid hc; clear hc
  have HX := Lib.hid hx; clear hx
  by_cases h1 : linedErr sh xs = 0
  · cases h2 : inB (-1000) a 1000
    · have he : injErr sh a xs = 8 := by simp [injErr, h1, h2]
      have hr : injRes sh a xs = [] := by simp [injRes, he]
      have HE := Lib.hid he; clear he
      have HR := Lib.hid hr; clear hr
      have H1 := Lib.hid h1; clear h1
      go_enter Tryz.func15, Tryz.ntmps15
      go_wp2_with fail
      refine (refLined_any ao sh cap ax xs cx _ HC.out hl HX.out hlx).mono ?_
      rintro e w1 ⟨rfl, hb⟩
      rw [H1.out]
      go_wp2_with fail
      refine (in_any _ _ _ _).mono ?_
      rintro e w2 ⟨rfl, rfl⟩
      go_wp2
      go_ret2
      exact ⟨⟨none, 0, by rw [HE.out, HR.out]; rfl, by rw [HR.out]; exact Cells.nil _ _⟩, hb⟩
    · obtain ⟨hl1, hl2⟩ := linedErr_zero h1
      have l1 := lineErr_zero hl1
      have l2 := serErr_zero hl2
      obtain ⟨l11, l12, _, l13⟩ := l1
      obtain ⟨l21, l22⟩ := l2
      have ha : -1000 ≤ a ∧ a ≤ 1000 := by simpa [inB] using h2
      obtain ⟨ha1, ha2⟩ := ha
      have he : injErr sh a xs = if serOK (inj sh a xs xs.length) = false then 8 else 0 := by simp [injErr, h1, h2]
      have HE := Lib.hid he; clear he
      have H1 := Lib.hid h1; clear h1
      have L13 := Lib.hid l13; clear l13
      have L22 := Lib.hid l22; clear l22
      have H2 := Lib.hid h2; clear h2
      clear hl1 hl2
      obtain ⟨i0, hi, hz0, hz1, hz2⟩ := info_parts Tryz.infoInt
      go_enter Tryz.func15, Tryz.ntmps15
      go_wp2_with fail
      refine (refLined_any ao sh cap ax xs cx _ HC.out hl HX.out hlx).mono ?_
      rintro e w1 ⟨rfl, hb⟩
      rw [H1.out]
      go_wp2_with fail
      refine (in_any _ _ _ _).mono ?_
      rintro e w2 ⟨rfl, rfl⟩
      rw [H2.out]
      go_wp2
      go_loopw [9, 10] (fun v i wr => ∃ k : Nat, k ≤ xs.length ∧ i = .int .i64 k ∧ wr.ownsRow w.heap.size 3 1 v k ((inj sh a xs k).map (Value.int .i64)) ∧ Below w.heap.size w wr) (fun _ i _ => xs.length - (intOf i).toNat)
      case atStart => exact ⟨0, Nat.zero_le _, rfl, World.ownsRow_nil _ _ _ _, hb⟩
      case round =>
        clear hb
        obtain ⟨k, hk, rfl, hown, hb⟩ := hrel
        by_cases hlt : k < xs.length
        · obtain ⟨x, hx⟩ := get_of_lt hlt
          have hm0 : k % sh.length < sh.length := Nat.mod_lt _ (by omega)
          obtain ⟨y, hy⟩ := get_of_lt hm0
          obtain ⟨b, off, rfl⟩ := HC.out.addr (by simpa using List.ne_nil_of_length_pos (by omega))
          obtain ⟨bx, ox, rfl⟩ := HX.out.addr (by simpa using List.ne_nil_of_length_pos (by omega))
          have c1 := cell_keep (HX.out.int hx) hb (Nat.le_refl _)
          have c2 := cell_keep (HC.out.int hy) hb (Nat.le_refl _)
          have t1 := L22.out _ (List.mem_of_getElem? hx)
          have t2 := L13.out _ (List.mem_of_getElem? hy)
          have p1 := mul_bd ha1 ha2 t2.1 t2.2
          obtain ⟨t11, t12⟩ := t1
          obtain ⟨p11, p12⟩ := p1
          have hat : injAt sh a xs k = x + a * y := by simp [injAt, hx, hy]
          have HAT := Lib.hid hat; have HHX := Lib.hid hx; have HHY := Lib.hid hy; clear hat hx hy
          have hsz := hb.size
          have HOB : Hid (∀ j, u9.ownBlock = some j → w.heap.size ≤ j) := fun j e => (hown.lt j e).1
          have hne1 : ¬ some bx = u9.ownBlock := fun e => by have := (hown.lt _ e.symm).1; have := World.block_lt_of_cell? w _ (HX.out.int HHX.out); simp at this; omega
          have hne2 : ¬ some b = u9.ownBlock := fun e => by have := (hown.lt _ e.symm).1; have := World.block_lt_of_cell? w _ (HC.out.int HHY.out); simp at this; omega
          have hlt1 : bx < wr.heap.size := by have := World.block_lt_of_cell? wr _ c1; simpa using this
          have hlt2 : b < wr.heap.size := by have := World.block_lt_of_cell? wr _ c2; simpa using this
          have HOQ := Lib.hid hown
          obtain ⟨wq, rfl⟩ : ∃ wq : World, wq = wr := ⟨_, rfl⟩
          have hbq := hb
          clear hb hown
          have g1 : IntKind.i64.wrap (a * y) = a * y := IntWalk.i64_in _ (by omega)
          have g2 : IntKind.i64.wrap (x + a * y) = x + a * y := IntWalk.i64_in _ (by omega)
          have g3 : ((k : Int).tmod sh.length) = (k : Int) % sh.length := by rw [Int.tmod_eq_emod_of_nonneg (by omega)]
          have g7 : ((sh.length : Int) == 0) = false := by rw [beq_eq_false_iff_ne]; omega
          have g8 : IntKind.i64.wrap ((k % sh.length : Nat) : Int) = ((k % sh.length : Nat) : Int) := IntWalk.i64_in _ (by omega)
          have g9 : ¬ ((sh.length : Int) = 0) := by omega
          have gc : (0 : Int) ≤ (k : Int) % sh.length := by omega
          have gd : (k : Int) % sh.length < sh.length := by omega
          have ge : ((k : Int) % sh.length).toNat = k % sh.length := by omega
          have gf : IntKind.i64.wrap ((k : Int) % sh.length) = (k : Int) % sh.length := IntWalk.i64_in _ (by omega)
          have ga : ¬ (sh.length = 0) := by omega
          have gb : ¬ (sh = []) := by rintro rfl; simp at ga
          have g4 : (0 : Int) ≤ ((k % sh.length : Nat) : Int) := by omega
          have g5 : ((k % sh.length : Nat) : Int) < sh.length := by omega
          have g6 : (((k % sh.length : Nat) : Int)).toNat = k % sh.length := by omega
          go_wp2_with fail
          go_region_held3 (fun w' => w'.cell? ⟨bx, ox + k, none⟩ = some (.int .i64 x) ∧ w'.cell? ⟨b, off + k % sh.length, none⟩ = some (.int .i64 y))
            (first | go_keep | exact ⟨c1, c2⟩ | (rw [hgrow.cell_far _ (by simp; omega) hne1, hgrow.cell_far _ (by simp; omega) hne2]; go_keep))
            (first | (refine step_append_lies _ (by rfl) _ _ _ (by rfl) w.heap.size 3 i0 _ 1 8 Tryz.underlying22 hi hz0 hz1 hz2 rfl (by omega) u9 k ((inj sh a xs k).map (Value.int .i64)) (by rfl) ((HOQ.out.alloc _).drew) ⟨wq.heap.size, 0, none⟩ 1 1 [.int .i64 (x + a * y)] (by rfl) (by rfl) (World.news_of_block (cs := #[.int .i64 (x + a * y)]) (t := 3) (fr := (0, 0)) (heap_alloc_new wq _)) (by simp [Value.oneCell']) (by omega) (by unfold maxLen; omega) (by omega) (by simp; omega) (wq.heap.size + 1) (by simp) ?_; intro gg cp wz hown1 hgrow hat hlt1))
          have hfin := hown1
          rw [show (inj sh a xs k).map (Value.int .i64) ++ [.int .i64 (x + a * y)] = (inj sh a xs (k + 1)).map (Value.int .i64) from by rw [inj_succ, List.map_append, HAT.out]; rfl] at hfin
          have hbz := (bel_drewN (hbq.alloc hsz (.cells #[.int .i64 (x + a * y)] 3)) 1).grown hgrow (by simp; omega) HOB.out
          clear hown1 hgrow g1 g2 g3 g4 g5 g6
          have HFIN := Lib.hid hfin; clear hfin
          go_wp2
          go_roundw
          case rel => exact ⟨k + 1, by omega, by go_num, HFIN.out, hbz⟩
          case measure => simp [intOf]; omega
        · obtain rfl : k = xs.length := by omega
          obtain ⟨g, c, rfl, hcs⟩ := own_cells hown
          have hli : (inj sh a xs xs.length).length = xs.length := inj_length _ _ _ _
          have HCS := Lib.hid hcs; clear hcs hown
          have hser := fun (wx : World) (h : Cells wx g ((inj sh a xs xs.length).map (Value.int .i64))) => refCheckSeries_any g (inj sh a xs xs.length) c wx h (by rw [hli]; omega)
          rw [hli] at hser
          have HL := Lib.hid hli; clear hli
          have HSER := Lib.hid hser; clear hser
          cases hok : serOK (inj sh a xs xs.length)
          · have he : injErr sh a xs = 8 := by rw [HE.out, hok]; rfl
            have hr : injRes sh a xs = [] := by simp [injRes, he]
            have hs : serErr (inj sh a xs xs.length) = 55 := by simp [serErr, hok]
            have HE2 := Lib.hid he; clear he
            have HR2 := Lib.hid hr; clear hr
            have HOK := Lib.hid hs; clear hs hok
            go_wp2_with fail
            refine (HSER.out _ HCS.out).mono ?_
            rintro e w2 ⟨rfl, hb2⟩
            rw [HOK.out]
            go_wp2
            go_ret2
            exact ⟨⟨none, 0, by rw [HE2.out, HR2.out]; rfl, by rw [HR2.out]; exact Cells.nil _ _⟩, hb.trans (hb2.mono hb.size)⟩
          · have he : injErr sh a xs = 0 := by rw [HE.out, hok]; rfl
            have hr : injRes sh a xs = inj sh a xs xs.length := by simp [injRes, he]
            have hs : serErr (inj sh a xs xs.length) = 0 := by simp [serErr, hok]
            have HE2 := Lib.hid he; clear he
            have HR2 := Lib.hid hr; clear hr
            have HOK := Lib.hid hs; clear hs hok
            go_wp2_with fail
            refine (HSER.out _ HCS.out).mono ?_
            rintro e w2 ⟨rfl, hb2⟩
            rw [HOK.out]
            go_wp2
            go_ret2
            exact ⟨⟨g, c, by rw [HE2.out, HR2.out, HL.out]; rfl, by rw [HR2.out]; exact HCS.out.below hb2 (Nat.le_refl _)⟩, hb.trans (hb2.mono hb.size)⟩
  · have he : injErr sh a xs = linedErr sh xs := by simp [injErr, h1]
    have hr : injRes sh a xs = [] := by simp [injRes, he, h1]
    have HE := Lib.hid he; clear he
    have HR := Lib.hid hr; clear hr
    have h3 : (linedErr sh xs != 0) = true := by simpa using h1
    have h4 : (linedErr sh xs == 0) = false := by simpa using h1
    go_enter Tryz.func15, Tryz.ntmps15
    go_wp2_with fail
    refine (refLined_any ao sh cap ax xs cx _ HC.out hl HX.out hlx).mono ?_
    rintro e w1 ⟨rfl, hb⟩
    go_wp2
    go_ret2
    exact ⟨⟨none, 0, by rw [HE.out, HR.out]; rfl, by rw [HR.out]; exact Cells.nil _ _⟩, hb⟩
end Go.Proofs.YtmafjfhnejeogaaGreatDoor

/- Apart, of the program and of the reference. -/
namespace Go.Proofs.YtmafjfhnejeogaaGreatDoor
open Go.RowKit

/-- the sum over the product of the periods -/
def apS (sa sb : List Int) : Nat → Int
  | 0 => 0
  | t + 1 => apS sa sb t + sa.getD (t % sa.length) 0 * sb.getD (t % sb.length) 0
def apErr (sa sb : List Int) : Int := if lineErr sa ≠ 0 then lineErr sa else lineErr sb
def apRes (sa sb : List Int) : Bool := if apErr sa sb = 0 then decide (apS sa sb (sa.length * sb.length) = 0) else false
theorem apS_bd {sa sb : List Int} (h1 : ∀ x ∈ sa, -1000 ≤ x ∧ x ≤ 1000) (h2 : ∀ x ∈ sb, -1000 ≤ x ∧ x ≤ 1000) (t : Nat) : -(1000000 * (t : Int)) ≤ apS sa sb t ∧ apS sa sb t ≤ 1000000 * (t : Int) := by
  have hg : ∀ {l : List Int}, (∀ x ∈ l, -1000 ≤ x ∧ x ≤ 1000) → ∀ i, -1000 ≤ l.getD i 0 ∧ l.getD i 0 ≤ 1000 := by
    intro l h i
    rcases Nat.lt_or_ge i l.length with h3 | h3
    · obtain ⟨x, hx⟩ := get_of_lt h3
      have := h x (List.mem_of_getElem? hx)
      simpa [List.getD, hx] using this
    · simp [List.getD, List.getElem?_eq_none h3]
  induction t with
  | zero => simp [apS]
  | succ t ih =>
    have a := hg h1 (t % sa.length)
    have b := hg h2 (t % sb.length)
    have p := mul_bd a.1 a.2 b.1 b.2
    simp only [apS]
    push_cast
    omega

set_option maxRecDepth 100000 in
set_option maxHeartbeats 1000000 in
theorem apart_any (aa : Option Addr) (sa : List Int) (ca : Nat) (ab : Option Addr) (sb : List Int) (cb : Nat) (w : World) (ha : Cells w aa (sa.map (Value.int .i64))) (hla : sa.length ≤ 17592186044416) (hb : Cells w ab (sb.map (Value.int .i64))) (hlb : sb.length ≤ 17592186044416) :
    Calls Tryz.prog 19 #[.slice aa sa.length ca, .slice ab sb.length cb] w fun e w' => e = .returned (.tuple #[.bool (apRes sa sb), .int .i64 (apErr sa sb)]) ∧ Below w.heap.size w w' := by
  have HA := Lib.hid ha; clear ha
  have HB := Lib.hid hb; clear hb
  by_cases h1 : lineErr sa = 0
  · by_cases h2 : lineErr sb = 0
    · obtain ⟨l1, l2, _, l4⟩ := lineErr_zero h1
      obtain ⟨m1, m2, _, m4⟩ := lineErr_zero h2
      have hbd := apS_bd l4 m4
      have he : apErr sa sb = 0 := by simp [apErr, h1, h2]
      have hr : apRes sa sb = decide (apS sa sb (sa.length * sb.length) = 0) := by simp [apRes, he]
      have hmul : sa.length * sb.length ≤ 1024 := Nat.mul_le_mul l2 m2
      have hpr : ((sa.length : Int) * (sb.length : Int)) = ((sa.length * sb.length : Nat) : Int) := by simp
      obtain ⟨N, hN⟩ : ∃ N, N = sa.length * sb.length := ⟨_, rfl⟩
      rw [← hN] at hmul hpr hr
      have HE := Lib.hid he; have HR := Lib.hid hr; have H1 := Lib.hid h1; have H2 := Lib.hid h2; have L4 := Lib.hid l4; have M4 := Lib.hid m4; have HBD := Lib.hid hbd; have HPR := Lib.hid hpr; have HN := Lib.hid hN
      clear he hr h1 h2 l4 m4 hbd hN
      go_enter Tryz.func19, Tryz.ntmps19
      go_wp2_with fail
      refine (checkLine_any aa sa ca _ HA.out (by omega)).mono ?_
      rintro e w1 ⟨rfl, rfl⟩
      rw [H1.out]
      go_wp2_with fail
      refine (checkLine_any ab sb cb _ HB.out (by omega)).mono ?_
      rintro e w1 ⟨rfl, rfl⟩
      rw [H2.out]
      go_wp2
      go_loopw [8, 25] (fun s i wr => ∃ k : Nat, k ≤ N ∧ i = .int .i64 k ∧ s = .int .i64 (apS sa sb k) ∧ Below w.heap.size w wr) (fun _ i _ => N - (intOf i).toNat)
      case atStart => exact ⟨0, Nat.zero_le _, rfl, rfl, Below.refl _ _⟩
      case round =>
        obtain ⟨k, hk, rfl, rfl, hbw⟩ := hrel
        obtain ⟨d1, d2⟩ := HBD.out k
        by_cases hlt : k < N
        · have hm0 : k % sa.length < sa.length := Nat.mod_lt _ (by omega)
          have hm1 : k % sb.length < sb.length := Nat.mod_lt _ (by omega)
          obtain ⟨x, hx⟩ := get_of_lt hm0
          obtain ⟨y, hy⟩ := get_of_lt hm1
          obtain ⟨b, off, rfl⟩ := HA.out.addr (by simpa using List.ne_nil_of_length_pos (by omega))
          obtain ⟨bx, ox, rfl⟩ := HB.out.addr (by simpa using List.ne_nil_of_length_pos (by omega))
          have c1 := cell_keep (HA.out.int hx) hbw (Nat.le_refl _)
          have c2 := cell_keep (HB.out.int hy) hbw (Nat.le_refl _)
          have t1 := L4.out _ (List.mem_of_getElem? hx)
          have t2 := M4.out _ (List.mem_of_getElem? hy)
          have p1 := mul_bd t1.1 t1.2 t2.1 t2.2
          obtain ⟨p11, p12⟩ := p1
          have hs : apS sa sb (k + 1) = apS sa sb k + x * y := by simp [apS, hx, hy]
          have HS := Lib.hid hs
          clear hs hx hy
          have g1 : IntKind.i64.wrap (x * y) = x * y := IntWalk.i64_in _ (by omega)
          have g2 : IntKind.i64.wrap (apS sa sb k + x * y) = apS sa sb k + x * y := IntWalk.i64_in _ (by omega)
          have g3 : ((k : Int).tmod sa.length) = ((k % sa.length : Nat) : Int) := by rw [Int.tmod_eq_emod_of_nonneg (by omega)]; rfl
          have g4 : (0 : Int) ≤ ((k % sa.length : Nat) : Int) := by omega
          have g5 : ((k % sa.length : Nat) : Int) < sa.length := by omega
          have g6 : (((k % sa.length : Nat) : Int)).toNat = k % sa.length := by omega
          have j3 : ((k : Int).tmod sb.length) = ((k % sb.length : Nat) : Int) := by rw [Int.tmod_eq_emod_of_nonneg (by omega)]; rfl
          have j4 : (0 : Int) ≤ ((k % sb.length : Nat) : Int) := by omega
          have j5 : ((k % sb.length : Nat) : Int) < sb.length := by omega
          have j6 : (((k % sb.length : Nat) : Int)).toNat = k % sb.length := by omega
          have ein : IntKind.i64.wrap ((k : Int) + 1) = (k : Int) + 1 := IntWalk.i64_in _ (by omega)
          go_wp2_with fail
          go_quiet (fail)
          all_goals
            have hbn := bel_drewN hbw 1
            clear g1 g2 g3 g4 g5 g6 j3 j4 j5 j6
            go_wp2
            go_roundw
            case rel => exact ⟨k + 1, by omega, rfl, by rw [HS.out], bel_drewN hbw _⟩
            case measure => simp [intOf]; omega
        · obtain rfl : k = N := by omega
          go_wp2
          go_ret2
          rw [HE.out, HR.out]
          exact ⟨by rfl, hbw⟩
    · have he : apErr sa sb = lineErr sb := by simp [apErr, h1]
      have hr : apRes sa sb = false := by simp [apRes, he, h2]
      have h3 : (lineErr sb != 0) = true := by simpa using h2
      have h4 : (lineErr sb == 0) = false := by simpa using h2
      have HE := Lib.hid he; have HR := Lib.hid hr; have H1 := Lib.hid h1
      clear he hr h1 h2
      go_enter Tryz.func19, Tryz.ntmps19
      go_wp2_with fail
      refine (checkLine_any aa sa ca _ HA.out hla).mono ?_
      rintro e w1 ⟨rfl, rfl⟩
      rw [H1.out]
      go_wp2_with fail
      refine (checkLine_any ab sb cb _ HB.out hlb).mono ?_
      rintro e w1 ⟨rfl, rfl⟩
      go_wp2
      go_ret2
      rw [HE.out, HR.out]
      exact ⟨rfl, Below.refl _ _⟩
  · have he : apErr sa sb = lineErr sa := by simp [apErr, h1]
    have hr : apRes sa sb = false := by simp [apRes, he, h1]
    have h3 : (lineErr sa != 0) = true := by simpa using h1
    have h4 : (lineErr sa == 0) = false := by simpa using h1
    have HE := Lib.hid he; have HR := Lib.hid hr
    clear he hr h1
    go_enter Tryz.func19, Tryz.ntmps19
    go_wp2_with fail
    refine (checkLine_any aa sa ca _ HA.out hla).mono ?_
    rintro e w1 ⟨rfl, rfl⟩
    go_wp2
    go_ret2
    rw [HE.out, HR.out]
    exact ⟨rfl, Below.refl _ _⟩

set_option maxRecDepth 100000 in
set_option maxHeartbeats 1000000 in
theorem refApart_any (aa : Option Addr) (sa : List Int) (ca : Nat) (ab : Option Addr) (sb : List Int) (cb : Nat) (w : World) (ha : Cells w aa (sa.map (Value.int .i64))) (hla : sa.length ≤ 17592186044416) (hb : Cells w ab (sb.map (Value.int .i64))) (hlb : sb.length ≤ 17592186044416) :
    Calls Tryz.prog 20 #[.slice aa sa.length ca, .slice ab sb.length cb] w fun e w' => e = .returned (.tuple #[.bool (apRes sa sb), .int .i64 (apErr sa sb)]) ∧ Below w.heap.size w w' := by
  have HA := Lib.hid ha; clear ha
  have HB := Lib.hid hb; clear hb
  by_cases h1 : lineErr sa = 0
  · by_cases h2 : lineErr sb = 0
    · obtain ⟨l1, l2, _, l4⟩ := lineErr_zero h1
      obtain ⟨m1, m2, _, m4⟩ := lineErr_zero h2
      have hbd := apS_bd l4 m4
      have he : apErr sa sb = 0 := by simp [apErr, h1, h2]
      have hr : apRes sa sb = decide (apS sa sb (sa.length * sb.length) = 0) := by simp [apRes, he]
      have hmul : sa.length * sb.length ≤ 1024 := Nat.mul_le_mul l2 m2
      have hpr : ((sa.length : Int) * (sb.length : Int)) = ((sa.length * sb.length : Nat) : Int) := by simp
      obtain ⟨N, hN⟩ : ∃ N, N = sa.length * sb.length := ⟨_, rfl⟩
      rw [← hN] at hmul hpr hr
      have HE := Lib.hid he; have HR := Lib.hid hr; have H1 := Lib.hid h1; have H2 := Lib.hid h2; have L4 := Lib.hid l4; have M4 := Lib.hid m4; have HBD := Lib.hid hbd; have HPR := Lib.hid hpr; have HN := Lib.hid hN
      clear he hr h1 h2 l4 m4 hbd hN
      go_enter Tryz.func20, Tryz.ntmps20
      go_wp2_with fail
      refine (refCheckLine_any aa sa ca _ HA.out (by omega)).mono ?_
      rintro e w1 ⟨rfl, rfl⟩
      rw [H1.out]
      go_wp2_with fail
      refine (refCheckLine_any ab sb cb _ HB.out (by omega)).mono ?_
      rintro e w1 ⟨rfl, rfl⟩
      rw [H2.out]
      go_wp2
      go_loopw [8, 9] (fun s i wr => ∃ k : Nat, k ≤ N ∧ i = .int .i64 k ∧ s = .int .i64 (apS sa sb k) ∧ Below w.heap.size w wr) (fun _ i _ => N - (intOf i).toNat)
      case atStart => exact ⟨0, Nat.zero_le _, rfl, rfl, Below.refl _ _⟩
      case round =>
        obtain ⟨k, hk, rfl, rfl, hbw⟩ := hrel
        obtain ⟨d1, d2⟩ := HBD.out k
        by_cases hlt : k < N
        · have hm0 : k % sa.length < sa.length := Nat.mod_lt _ (by omega)
          have hm1 : k % sb.length < sb.length := Nat.mod_lt _ (by omega)
          obtain ⟨x, hx⟩ := get_of_lt hm0
          obtain ⟨y, hy⟩ := get_of_lt hm1
          obtain ⟨b, off, rfl⟩ := HA.out.addr (by simpa using List.ne_nil_of_length_pos (by omega))
          obtain ⟨bx, ox, rfl⟩ := HB.out.addr (by simpa using List.ne_nil_of_length_pos (by omega))
          have c1 := cell_keep (HA.out.int hx) hbw (Nat.le_refl _)
          have c2 := cell_keep (HB.out.int hy) hbw (Nat.le_refl _)
          have t1 := L4.out _ (List.mem_of_getElem? hx)
          have t2 := M4.out _ (List.mem_of_getElem? hy)
          have p1 := mul_bd t1.1 t1.2 t2.1 t2.2
          obtain ⟨p11, p12⟩ := p1
          have hs : apS sa sb (k + 1) = apS sa sb k + x * y := by simp [apS, hx, hy]
          have HS := Lib.hid hs
          clear hs hx hy
          have g1 : IntKind.i64.wrap (x * y) = x * y := IntWalk.i64_in _ (by omega)
          have g2 : IntKind.i64.wrap (apS sa sb k + x * y) = apS sa sb k + x * y := IntWalk.i64_in _ (by omega)
          have g3 : ((k : Int).tmod sa.length) = ((k % sa.length : Nat) : Int) := by rw [Int.tmod_eq_emod_of_nonneg (by omega)]; rfl
          have g4 : (0 : Int) ≤ ((k % sa.length : Nat) : Int) := by omega
          have g5 : ((k % sa.length : Nat) : Int) < sa.length := by omega
          have g6 : (((k % sa.length : Nat) : Int)).toNat = k % sa.length := by omega
          have j3 : ((k : Int).tmod sb.length) = ((k % sb.length : Nat) : Int) := by rw [Int.tmod_eq_emod_of_nonneg (by omega)]; rfl
          have j4 : (0 : Int) ≤ ((k % sb.length : Nat) : Int) := by omega
          have j5 : ((k % sb.length : Nat) : Int) < sb.length := by omega
          have j6 : (((k % sb.length : Nat) : Int)).toNat = k % sb.length := by omega
          have ein : IntKind.i64.wrap ((k : Int) + 1) = (k : Int) + 1 := IntWalk.i64_in _ (by omega)
          go_wp2_with fail
          go_quiet (fail)
          all_goals
            have hbn := bel_drewN hbw 1
            clear g1 g2 g3 g4 g5 g6 j3 j4 j5 j6
            go_wp2
            go_roundw
            case rel => exact ⟨k + 1, by omega, rfl, by rw [HS.out], bel_drewN hbw _⟩
            case measure => simp [intOf]; omega
        · obtain rfl : k = N := by omega
          go_wp2
          go_ret2
          rw [HE.out, HR.out]
          exact ⟨by rfl, hbw⟩
    · have he : apErr sa sb = lineErr sb := by simp [apErr, h1]
      have hr : apRes sa sb = false := by simp [apRes, he, h2]
      have h3 : (lineErr sb != 0) = true := by simpa using h2
      have h4 : (lineErr sb == 0) = false := by simpa using h2
      have HE := Lib.hid he; have HR := Lib.hid hr; have H1 := Lib.hid h1
      clear he hr h1 h2
      go_enter Tryz.func20, Tryz.ntmps20
      go_wp2_with fail
      refine (refCheckLine_any aa sa ca _ HA.out hla).mono ?_
      rintro e w1 ⟨rfl, rfl⟩
      rw [H1.out]
      go_wp2_with fail
      refine (refCheckLine_any ab sb cb _ HB.out hlb).mono ?_
      rintro e w1 ⟨rfl, rfl⟩
      go_wp2
      go_ret2
      rw [HE.out, HR.out]
      exact ⟨rfl, Below.refl _ _⟩
  · have he : apErr sa sb = lineErr sa := by simp [apErr, h1]
    have hr : apRes sa sb = false := by simp [apRes, he, h1]
    have h3 : (lineErr sa != 0) = true := by simpa using h1
    have h4 : (lineErr sa == 0) = false := by simpa using h1
    have HE := Lib.hid he; have HR := Lib.hid hr
    clear he hr h1
    go_enter Tryz.func20, Tryz.ntmps20
    go_wp2_with fail
    refine (refCheckLine_any aa sa ca _ HA.out hla).mono ?_
    rintro e w1 ⟨rfl, rfl⟩
    go_wp2
    go_ret2
    rw [HE.out, HR.out]
    exact ⟨rfl, Below.refl _ _⟩
end Go.Proofs.YtmafjfhnejeogaaGreatDoor

/- Lines: amplitude. -/
namespace Go.Proofs.YtmafjfhnejeogaaGreatDoor
open Go.RowKit

def ampN (sh xs : List Int) : Nat → Int
  | 0 => 0
  | t + 1 => ampN sh xs t + xs.getD t 0 * sh.getD (t % sh.length) 0
def ampD (sh : List Int) : Nat → Int
  | 0 => 0
  | t + 1 => ampD sh t + sh.getD (t % sh.length) 0 * sh.getD (t % sh.length) 0
/-- the whole periods -/
def whole (sh xs : List Int) : Nat := xs.length / sh.length * sh.length

theorem amp_bd {sh xs : List Int} (h : linedErr sh xs = 0) (t : Nat) (ht : t ≤ xs.length) :
    -(8388608000 * (t : Int)) ≤ ampN sh xs t ∧ ampN sh xs t ≤ 8388608000 * (t : Int) ∧ 0 ≤ ampD sh t ∧ ampD sh t ≤ 1000000 * (t : Int) := by
  obtain ⟨h1, h2⟩ := linedErr_zero h
  obtain ⟨a1, a2, _, a3⟩ := lineErr_zero h1
  obtain ⟨b1, b2⟩ := serErr_zero h2
  induction t with
  | zero => simp [ampN, ampD]
  | succ t ih =>
    have ih := ih (by omega)
    have hm : t % sh.length < sh.length := Nat.mod_lt _ (by omega)
    have m1 := a3 (sh.getD (t % sh.length) 0) (by rw [List.getD_eq_getElem?_getD, List.getElem?_eq_getElem hm]; exact List.getElem_mem _)
    have m2 := b2 (xs.getD t 0) (by rw [List.getD_eq_getElem?_getD, List.getElem?_eq_getElem (by omega)]; exact List.getElem_mem _)
    have p1 := mul_bd (A := 8388608) (X := 1000) m2.1 m2.2 m1.1 m1.2
    have p2 := mul_bd (A := 1000) (X := 1000) m1.1 m1.2 m1.1 m1.2
    have p3 : 0 ≤ sh.getD (t % sh.length) 0 * sh.getD (t % sh.length) 0 := by
      rcases Int.le_total 0 (sh.getD (t % sh.length) 0) with h | h
      · exact Int.mul_nonneg h h
      · exact Int.mul_nonneg_of_nonpos_of_nonpos h h
    simp only [ampN, ampD]
    push_cast
    omega

theorem whole_le (sh xs : List Int) : whole sh xs ≤ xs.length := Nat.div_mul_le_self _ _

set_option maxRecDepth 100000 in
set_option maxHeartbeats 1000000 in
theorem amplitude_any (ao : Option Addr) (sh : List Int) (cap : Nat) (ax : Option Addr) (xs : List Int) (cx : Nat) (w : World) (hc : Cells w ao (sh.map (Value.int .i64))) (hx : Cells w ax (xs.map (Value.int .i64))) (h : linedErr sh xs = 0) :
    Calls Tryz.prog 51 #[.slice ao sh.length cap, .slice ax xs.length cx] w fun e w' => e = .returned (.tuple #[.int .i64 (ampN sh xs (whole sh xs)), .int .i64 (ampD sh (whole sh xs))]) ∧ w = w' := by
  have HC := Lib.hid hc; clear hc
  have HX := Lib.hid hx; clear hx
  obtain ⟨h1, h2⟩ := linedErr_zero h
  obtain ⟨a1, a2, _, a3⟩ := lineErr_zero h1
  obtain ⟨b1, b2⟩ := serErr_zero h2
  have HB := Lib.hid (fun t ht => amp_bd h t ht)
  have A3 := Lib.hid a3; clear a3
  have B2 := Lib.hid b2; clear b2
  have hw := whole_le sh xs
  have hw0 : ((xs.length : Int) / sh.length) * sh.length = (whole sh xs : Nat) := by simp [whole]
  have hw1 : 0 ≤ ((xs.length : Int) / sh.length) * sh.length := by rw [hw0]; omega
  have hw2 : ((xs.length : Int) / sh.length) * sh.length ≤ 4096 := by rw [hw0]; omega
  have hq1 : 0 ≤ (xs.length : Int) / sh.length := Int.ediv_nonneg (by omega) (by omega)
  have hq2 : (xs.length : Int) / sh.length ≤ 4096 := by have := Int.ediv_le_self (a := (xs.length : Int)) (sh.length : Int) (by omega); omega
  have HW := Lib.hid hw0; clear hw0
  have hne : ((sh.length : Int) == 0) = false := by simp; intro e; simp [e] at a1
  clear h h1 h2
  go_enter Tryz.func51, Tryz.ntmps51
  go_wp2
  rw [HW.out]
  clear hw1 hw2 hq1 hq2
  go_loop [4, 5, 16] (fun n d i => ∃ k : Nat, k ≤ whole sh xs ∧ i = .int .i64 k ∧ n = .int .i64 (ampN sh xs k) ∧ d = .int .i64 (ampD sh k)) (fun _ _ i => whole sh xs - (intOf i).toNat)
  case atStart => exact ⟨0, Nat.zero_le _, rfl, rfl, rfl⟩
  case round =>
    obtain ⟨k, hk, rfl, rfl, rfl⟩ := hrel
    obtain ⟨d1, d2, d3, d4⟩ := HB.out k (by omega)
    by_cases hlt : k < whole sh xs
    · obtain ⟨x, hx⟩ := get_of_lt (show k < xs.length by omega)
      have hm0 : k % sh.length < sh.length := Nat.mod_lt _ (by omega)
      obtain ⟨y, hy⟩ := get_of_lt hm0
      obtain ⟨b, off, rfl⟩ := HC.out.addr (by simpa using List.ne_nil_of_length_pos (by omega))
      obtain ⟨bx, ox, rfl⟩ := HX.out.addr (by simpa using List.ne_nil_of_length_pos (by omega))
      have c1 := HX.out.int hx
      have c2 := HC.out.int hy
      have t1 := B2.out _ (List.mem_of_getElem? hx)
      have t2 := A3.out _ (List.mem_of_getElem? hy)
      have p1 := mul_bd t1.1 t1.2 t2.1 t2.2
      have p2 := mul_bd t2.1 t2.2 t2.1 t2.2
      obtain ⟨p11, p12⟩ := p1
      obtain ⟨p21, p22⟩ := p2
      have e1 : ampN sh xs (k + 1) = ampN sh xs k + x * y := by simp [ampN, hx, hy]
      have e2 : ampD sh (k + 1) = ampD sh k + y * y := by simp [ampD, hy]
      have E1 := Lib.hid e1; have E2 := Lib.hid e2; clear e1 e2 hx hy
      go_wp2
      go_round
      case rel => exact ⟨k + 1, by omega, by go_num, by rw [E1.out], by rw [E2.out]⟩
      case measure => simp [intOf]; omega
    · obtain rfl : k = whole sh xs := by omega
      go_wp2
      go_ret2
      exact ⟨rfl, rfl⟩
end Go.Proofs.YtmafjfhnejeogaaGreatDoor

/- Digits of natural numbers to the base 10^9, the least one first: plain facts. -/
namespace Go.Proofs.YtmafjfhnejeogaaGreatDoor
def B : Nat := 1000000000

def val : List Nat → Nat
  | [] => 0
  | d :: ds => d + B * val ds

def dig (n : Nat) : List Nat := if n = 0 then [] else n % B :: dig (n / B)
termination_by n
decreasing_by exact Nat.div_lt_self (Nat.pos_of_ne_zero ‹_›) (by decide)

theorem B_pos : 0 < B := by decide
theorem dig_zero : dig 0 = [] := by rw [dig]; simp
theorem dig_pos {n : Nat} (h : n ≠ 0) : dig n = n % B :: dig (n / B) := by rw [dig]; simp [h]

theorem val_dig (n : Nat) : val (dig n) = n := by
  induction n using Nat.strongRecOn with
  | _ n ih =>
    by_cases h : n = 0
    · subst h; simp [dig_zero, val]
    · rw [dig_pos h, val, ih _ (Nat.div_lt_self (Nat.pos_of_ne_zero h) (by decide))]
      exact Nat.mod_add_div n B

def Sm (xs : List Nat) : Prop := ∀ d ∈ xs, d < B

theorem sm_dig (n : Nat) : Sm (dig n) := by
  induction n using Nat.strongRecOn with
  | _ n ih =>
    by_cases h : n = 0
    · subst h; simp [dig_zero, Sm]
    · rw [dig_pos h]
      intro d hd
      rcases List.mem_cons.1 hd with rfl | hd
      · exact Nat.mod_lt _ B_pos
      · exact ih _ (Nat.div_lt_self (Nat.pos_of_ne_zero h) (by decide)) d hd

theorem val_nil : val [] = 0 := rfl
theorem val_cons (d : Nat) (ds : List Nat) : val (d :: ds) = d + B * val ds := rfl

theorem val_append (xs ys : List Nat) : val (xs ++ ys) = val xs + B ^ xs.length * val ys := by
  induction xs with
  | nil => simp [val]
  | cons d ds ih => simp only [List.cons_append, val_cons, ih, List.length_cons, Nat.pow_succ]; rw [Nat.mul_add, Nat.add_assoc, Nat.mul_comm (B ^ ds.length) B, Nat.mul_assoc]

theorem val_snoc (xs : List Nat) (d : Nat) : val (xs ++ [d]) = val xs + B ^ xs.length * d := by
  rw [val_append]; simp [val]

theorem val_lt {xs : List Nat} (h : Sm xs) : val xs < B ^ xs.length := by
  induction xs with
  | nil => simp [val]
  | cons d ds ih =>
    have h1 : d < B := h d (by simp)
    have h2 := ih (fun x hx => h x (by simp [hx]))
    simp only [val_cons, List.length_cons, Nat.pow_succ]
    have : B * (val ds + 1) ≤ B * B ^ ds.length := Nat.mul_le_mul_left _ h2
    rw [Nat.mul_add, Nat.mul_one] at this
    rw [Nat.mul_comm (B ^ ds.length) B]; omega

/-- digits without zeros at the end -/
def Lean_ (xs : List Nat) : Prop := Sm xs ∧ xs.getLast? ≠ some 0

theorem val_eq_zero {xs : List Nat} : val xs = 0 ↔ ∀ d ∈ xs, d = 0 := by
  induction xs with
  | nil => simp [val]
  | cons d ds ih =>
    simp only [val_cons, List.mem_cons, forall_eq_or_imp, ← ih]
    constructor
    · intro h
      have h1 : d = 0 := by omega
      have h2 : B * val ds = 0 := by omega
      refine ⟨h1, ?_⟩
      rcases Nat.mul_eq_zero.1 h2 with h | h
      · exact absurd h (by decide)
      · exact h
    · rintro ⟨rfl, h⟩; simp [h]

theorem dig_val {xs : List Nat} (h : Sm xs) (hl : xs.getLast? ≠ some 0) : dig (val xs) = xs := by
  induction xs with
  | nil => simp [val, dig_zero]
  | cons d ds ih =>
    have h1 : d < B := h d (by simp)
    have hs : Sm ds := fun x hx => h x (by simp [hx])
    have hne : val (d :: ds) ≠ 0 := by
      intro h0
      have h0' := val_eq_zero.1 h0
      have : ((d :: ds).getLast (by simp)) = 0 := h0' _ (List.getLast_mem _)
      exact hl (by rw [List.getLast?_eq_some_getLast (by simp), this])
    rw [dig_pos hne, val_cons]
    have e1 : (d + B * val ds) % B = d := by rw [Nat.add_mul_mod_self_left, Nat.mod_eq_of_lt h1]
    have e2 : (d + B * val ds) / B = val ds := by rw [Nat.add_mul_div_left _ _ B_pos, Nat.div_eq_of_lt h1, Nat.zero_add]
    rw [e1, e2, ih hs]
    cases ds with
    | nil => simp
    | cons x xs => simpa [List.getLast?_cons_cons] using hl

theorem last_dig (n : Nat) : (dig n).getLast? ≠ some 0 := by
  induction n using Nat.strongRecOn with
  | _ n ih =>
    by_cases h : n = 0
    · subst h; simp [dig_zero]
    · rw [dig_pos h]
      have := ih (n / B) (Nat.div_lt_self (Nat.pos_of_ne_zero h) (by decide))
      by_cases h2 : n / B = 0
      · rw [h2, dig_zero]; simp
        have h3 : n < B := by
          rcases Nat.div_eq_zero_iff.1 h2 with h | h
          · exact absurd h (by decide)
          · exact h
        rw [Nat.mod_eq_of_lt h3]; exact h
      · rw [dig_pos h2] at this ⊢
        simpa [List.getLast?_cons_cons] using this

theorem dig_len_pos {n : Nat} : (dig n).length = 0 ↔ n = 0 := by
  by_cases h : n = 0
  · subst h; simp [dig_zero]
  · rw [dig_pos h]; simp [h]

theorem dig_small {n : Nat} (h : n < B) (h0 : n ≠ 0) : dig n = [n] := by
  rw [dig_pos h0, Nat.mod_eq_of_lt h, Nat.div_eq_of_lt h, dig_zero]

theorem lt_pow_len (n : Nat) : n < B ^ (dig n).length := by
  have := val_lt (sm_dig n); rwa [val_dig] at this

theorem pow_len_le {n : Nat} (h : n ≠ 0) : B ^ ((dig n).length - 1) ≤ n := by
  induction n using Nat.strongRecOn with
  | _ n ih =>
    rw [dig_pos h]
    by_cases h2 : n / B = 0
    · rw [h2, dig_zero]; simp; omega
    · have := ih _ (Nat.div_lt_self (Nat.pos_of_ne_zero h) (by decide)) h2
      have hl : (dig (n / B)).length ≠ 0 := by rw [Ne, dig_len_pos]; exact h2
      simp only [List.length_cons, Nat.add_sub_cancel]
      obtain ⟨k, hk⟩ : ∃ k, (dig (n / B)).length = k + 1 := ⟨(dig (n/B)).length - 1, by omega⟩
      rw [hk, Nat.add_sub_cancel] at this
      rw [hk, Nat.pow_succ]
      calc B ^ k * B ≤ n / B * B := Nat.mul_le_mul_right _ this
        _ ≤ n := Nat.div_mul_le_self n B

/-- lengths tell the order -/
theorem lt_of_len {m n : Nat} (h : (dig m).length < (dig n).length) : m < n := by
  have hn : n ≠ 0 := by rintro rfl; simp [dig_zero] at h
  have h1 := lt_pow_len m
  have h2 := pow_len_le hn
  have h3 : B ^ (dig m).length ≤ B ^ ((dig n).length - 1) := Nat.pow_le_pow_right B_pos (by omega)
  omega

theorem dig_len_mono {m n : Nat} (h : m ≤ n) : (dig m).length ≤ (dig n).length := by
  apply Nat.le_of_not_lt
  intro hc
  have := lt_of_len hc
  omega
end Go.Proofs.YtmafjfhnejeogaaGreatDoor

/- Digits: order, quotients. -/
namespace Go.Proofs.YtmafjfhnejeogaaGreatDoor

theorem val_split {l : List Nat} {j x : Nat} (hx : l[j]? = some x) : val l = val (l.take j) + B ^ j * (x + B * val (l.drop (j + 1))) := by
  have hj : j < l.length := (List.getElem?_eq_some_iff.1 hx).1
  have h1 : l = l.take j ++ (x :: l.drop (j + 1)) := by
    have := (List.take_append_drop j l).symm
    rw [List.drop_eq_getElem_cons hj, (List.getElem?_eq_some_iff.1 hx).2] at this
    exact this
  have h2 := congrArg val h1
  rw [val_append, val_cons, List.length_take, Nat.min_eq_left (by omega)] at h2
  exact h2

theorem cmp_digit {l1 l2 : List Nat} (h1 : Sm l1) {j x y : Nat} (hx : l1[j]? = some x) (hy : l2[j]? = some y) (hd : l1.drop (j + 1) = l2.drop (j + 1)) (hlt : x < y) : val l1 < val l2 := by
  rw [val_split hx, val_split hy, hd]
  have hj : j < l1.length := (List.getElem?_eq_some_iff.1 hx).1
  have h3 : val (l1.take j) < B ^ j := by
    have := val_lt (xs := l1.take j) (fun d hd => h1 d (List.mem_of_mem_take hd))
    rwa [List.length_take, Nat.min_eq_left (by omega)] at this
  have h4 : B ^ j * (x + 1 + B * val (l2.drop (j + 1))) ≤ B ^ j * (y + B * val (l2.drop (j + 1))) := Nat.mul_le_mul_left _ (by omega)
  have h5 : B ^ j * (x + 1 + B * val (l2.drop (j + 1))) = B ^ j * (x + B * val (l2.drop (j + 1))) + B ^ j := by
    rw [show x + 1 + B * val (l2.drop (j + 1)) = (x + B * val (l2.drop (j + 1))) + 1 from by omega, Nat.mul_add, Nat.mul_one]
  omega

/-- the order, as Go's compare says it -/
def cmpN (m n : Nat) : Int := if m < n then -1 else if n < m then 1 else 0
theorem cmpN_lt {m n : Nat} (h : m < n) : cmpN m n = -1 := by simp [cmpN, h]
theorem cmpN_gt {m n : Nat} (h : n < m) : cmpN m n = 1 := by simp [cmpN, h]; omega
theorem cmpN_eq (n : Nat) : cmpN n n = 0 := by simp [cmpN]

/-- a step of a division by one digit: r the rest of what lies above -/
theorem short_step {H d x : Nat} (hd : 0 < d) : ((H % d) * B + x) / d + B * (H / d) = (x + B * H) / d ∧ ((H % d) * B + x) % d = (x + B * H) % d := by
  have h : x + B * H = ((H % d) * B + x) + d * (B * (H / d)) := by
    have h1 : d * (H / d) + H % d = H := Nat.div_add_mod H d
    have h2 : B * H = B * (d * (H / d)) + B * (H % d) := by rw [← Nat.mul_add, h1]
    rw [h2, Nat.mul_comm (H % d) B, Nat.mul_left_comm d B]; omega
  rw [h, Nat.add_mul_div_left _ _ hd, Nat.add_mul_mod_self_left]
  exact ⟨rfl, rfl⟩

theorem short_dig {r d x : Nat} (hr : r < d) (hx : x < B) : (r * B + x) / d < B := by
  apply Nat.div_lt_of_lt_mul
  have : (r + 1) * B ≤ d * B := Nat.mul_le_mul_right _ hr
  rw [Nat.add_mul] at this; omega
theorem dig_len_val {l : List Nat} (h : Sm l) : (dig (val l)).length ≤ l.length := by
  have h1 := val_lt h
  apply Nat.le_of_not_lt
  intro hc
  have hne : val l ≠ 0 := by
    intro h0; rw [h0, dig_zero] at hc; simp at hc
  have h2 := pow_len_le hne
  have h3 : B ^ l.length ≤ B ^ ((dig (val l)).length - 1) := Nat.pow_le_pow_right B_pos (by omega)
  omega
end Go.Proofs.YtmafjfhnejeogaaGreatDoor

/- Natural numbers of package num: natural, lean, compare. -/
namespace Go.Proofs.YtmafjfhnejeogaaGreatDoor
open Go.RowKit

/-- digits, cell by cell -/
def dgs (l : List Nat) : List Value := l.map fun d => Value.int .u64 (d : Nat)
theorem dgs_length (l : List Nat) : (dgs l).length = l.length := by simp [dgs]
theorem dgs_append (a b : List Nat) : dgs (a ++ b) = dgs a ++ dgs b := by simp [dgs]
theorem dgs_ne {l : List Nat} (h : 0 < l.length) : dgs l ≠ [] := by
  intro e; have := dgs_length l; rw [e] at this; simp at this; omega
theorem Cells.dgs {w : World} {b off : Nat} {l : List Nat} (h : Cells w (some ⟨b, off, none⟩) (dgs l)) {i d : Nat} (hd : l[i]? = some d) : w.cell? ⟨b, off + i, none⟩ = some (.int .u64 (d : Nat)) :=
  h.at (by simp [Go.Proofs.YtmafjfhnejeogaaGreatDoor.dgs, hd])
theorem Cells.take {w : World} {ao : Option Addr} {cs : List Value} (h : Cells w ao cs) (n : Nat) : Cells w ao (cs.take n) := by
  rcases h with h | ⟨b, off, h1, h2⟩
  · exact .inl (by simp [h])
  · refine .inr ⟨b, off, h1, fun j u hu => h2 j u ?_⟩
    rw [List.getElem?_take] at hu
    split at hu
    · exact hu
    · simp at hu
theorem sm_get {l : List Nat} (h : Sm l) {i d : Nat} (hd : l[i]? = some d) : d ≤ 999999999 := by
  have := h d (List.mem_of_getElem? hd); simp only [B] at this; omega

theorem Tryz.infoU64 : (Tryz.prog.info? 196).map (fun i => (i.zero, i.size, i.bytes)) = some (some (.int .u64 0), 1, 8) := by kernel_rfl

/-- an owned row, as a slice, with its capacity -/
theorem own_cap {w : World} {b : Nat} {e : TypeId} {s : Nat} {v : Value} {n : Nat} {xs : List Value} (h : w.ownsRow b e s v n xs) : ∃ a c, v = .slice a n c ∧ Cells w a xs ∧ n ≤ c ∧ c ≤ maxLen := by
  obtain ⟨a, c, hv, hc⟩ := own_cells h
  obtain ⟨h0, h1⟩ := h
  rcases h1 with ⟨h2, h3⟩ | ⟨g, cap, cur, h2, hb, hg, hn, hm, hs, ht⟩
  · rw [h2] at hv; simp at hv
    obtain ⟨rfl, rfl, rfl⟩ := hv
    exact ⟨none, 0, h2, hc, by omega, by unfold maxLen; omega⟩
  · rw [h2] at hv; simp at hv
    obtain ⟨rfl, rfl⟩ := hv
    exact ⟨_, _, h2, hc, hn, hm⟩

theorem dig_len_u64 {n : Nat} (h : n < 18446744073709551616) : (dig n).length ≤ 3 := by
  apply Nat.le_of_not_lt
  intro hc
  have hn : n ≠ 0 := by rintro rfl; simp [dig_zero] at hc
  have h1 := pow_len_le hn
  have h2 : B ^ 3 ≤ B ^ ((dig n).length - 1) := Nat.pow_le_pow_right B_pos (by omega)
  have h3 : B ^ 3 = 1000000000000000000000000000 := by decide
  omega

set_option maxRecDepth 100000 in
theorem natural_any (n : Nat) (w : World) (hn : n < 18446744073709551616) :
    Calls Tryz.prog 144 #[.int .u64 (n : Nat)] w fun e w' => (∃ a c, e = .returned (.slice a (dig n).length c) ∧ Cells w' a (dgs (dig n)) ∧ (dig n).length ≤ c ∧ c ≤ 9223372036854775807) ∧ Below w.heap.size w w' := by
  obtain ⟨i0, hi, hz0, hz1, hz2⟩ := info_parts Tryz.infoU64
  have hlen := dig_len_u64 hn
  have hn1 : n ≤ 18446744073709551615 := by omega
  clear hn
  go_enter Tryz.func144, Tryz.ntmps144
  go_wp2
  go_loopw [3, 0] (fun v m wr => ∃ (ds : List Nat) (k : Nat), m = .int .u64 (k : Nat) ∧ k ≤ n ∧ dig n = ds ++ dig k ∧ wr.ownsRow w.heap.size 196 1 v ds.length (dgs ds) ∧ Below w.heap.size w wr) (fun _ m _ => (intOf m).toNat)
  case atStart => exact ⟨[], n, rfl, Nat.le_refl _, rfl, World.ownsRow_nil _ _ _ _, Below.refl _ _⟩
  case round =>
    obtain ⟨ds, k, rfl, hk, hds, hown, hb⟩ := hrel
    by_cases h0 : k = 0
    · subst h0
      rw [dig_zero, List.append_nil] at hds
      subst hds
      obtain ⟨g, c, rfl, hcs, hc1, hc2⟩ := own_cap hown
      unfold maxLen at hc2
      have HCS := Lib.hid hcs; clear hcs hown
      go_wp2
      go_ret
      exact ⟨⟨g, c, rfl, HCS.out, hc1, hc2⟩, hb⟩
    · have hkp : 0 < (k : Int) := by omega
      have hds2 : dig n = (ds ++ [k % B]) ++ dig (k / B) := by rw [hds, dig_pos h0]; simp
      have hle : ds.length ≤ 2 := by
        have := congrArg List.length hds2
        simp only [List.length_append, List.length_singleton] at this; omega
      have HDS := Lib.hid hds2; clear hds hds2 hlen
      have e1 : ((k : Int) % 1000000000) = ((k % B : Nat) : Int) := by simp [B]
      have e2 : ((k : Int) / 1000000000) = ((k / B : Nat) : Int) := by simp [B]
      have hlt : k / B < k := Nat.div_lt_self (by omega) (by decide)
      have HE1 := Lib.hid e1; have HE2 := Lib.hid e2; clear e1 e2
      have HOB : Hid (∀ j, u3.ownBlock = some j → w.heap.size ≤ j) := fun j e => (hown.lt j e).1
      have hsz := hb.size
      go_wp2_with (at_builtin; refine wpList_append_own _ rfl _ _ 126 rfl w.heap.size 196 i0 (.int .u64 0) 1 8 Tryz.underlying126 hi hz0 hz1 hz2 rfl (by decide) _ _ _ rfl (hown.alloc _) ⟨wr.heap.size, 0, none⟩ 1 1 [.int .u64 ((k : Int) % 1000000000)] rfl rfl (news1 _ _ _) (by simp [Value.oneCell']) (by unfold maxLen; omega) (by omega) (by simp; omega) ?_; intro v1 wz hown1 hgrow _)
      have hfin := hown1
      rw [show dgs ds ++ [.int .u64 ((k : Int) % 1000000000)] = dgs (ds ++ [k % B]) from by rw [dgs_append, HE1.out]; rfl] at hfin
      have hbz := (hb.alloc hsz (.cells #[.int .u64 ((k : Int) % 1000000000)] 196)).grown hgrow (by simp; omega) HOB.out
      clear hown1 hgrow hown
      have HFIN := Lib.hid hfin; clear hfin
      go_wp2
      go_roundw
      case rel => exact ⟨ds ++ [k % B], k / B, by rw [HE2.out], by omega, HDS.out, by simpa using HFIN.out, hbz⟩
      case measure => simp only [intOf]; rw [HE2.out]; simp; omega

/-- zeros at the end go -/
theorem val_take_zero {l : List Nat} {k : Nat} (h0 : l[k]? = some 0) : val (l.take (k + 1)) = val (l.take k) := by
  rw [take_get h0, val_snoc]; simp

/-- a slice's length: for a measure -/
def lenOf : Value → Nat | .slice _ n _ => n | _ => 0

theorem lean_any (ao : Option Addr) (l : List Nat) (c : Nat) (w : World) (hc : Cells w ao (dgs l)) (hs : Sm l) (hl : l.length ≤ 9223372036854775807) (hcap : l.length ≤ c) (hc2 : c ≤ 9223372036854775807) :
    Calls Tryz.prog 198 #[.slice ao l.length c] w fun e w' => (e = .returned (.slice ao (dig (val l)).length c) ∧ Cells w' ao (dgs (dig (val l)))) ∧ w = w' := by
  have HC := Lib.hid hc; clear hc
  have HS := Lib.hid hs; clear hs
  go_enter Tryz.func198, Tryz.ntmps198
  go_wp2
  go_loop [0] (fun v => ∃ k : Nat, k ≤ l.length ∧ v = .slice ao k c ∧ val (l.take k) = val l) (fun v => lenOf v)
  case atStart => exact ⟨l.length, Nat.le_refl _, rfl, by rw [List.take_length]⟩
  case round =>
    obtain ⟨k, hk, rfl, hv⟩ := hrel
    by_cases h0 : k = 0
    · subst h0
      rw [List.take_zero, val_nil] at hv
      have hv2 : dig (val l) = [] := by rw [← hv, dig_zero]
      have HV := Lib.hid hv2; clear hv hv2
      go_wp2
      go_ret
      exact ⟨⟨by rw [HV.out]; rfl, by rw [HV.out]; exact Cells.nil _ _⟩, rfl⟩
    · obtain ⟨j, rfl⟩ : ∃ j, k = j + 1 := ⟨k - 1, by omega⟩
      have hj : j < l.length := by omega
      obtain ⟨d, hd⟩ := get_of_lt hj
      obtain ⟨b, off, rfl⟩ := HC.out.addr (dgs_ne (by omega))
      have hcell := HC.out.dgs hd
      by_cases hd0 : d = 0
      · subst hd0
        have hv2 := val_take_zero hd
        rw [hv] at hv2
        have HV := Lib.hid hv2.symm; clear hv hv2 hd
        go_wp2
        go_round
        case rel => exact ⟨j, by omega, by go_num, HV.out⟩
        case measure => simp [lenOf]
      · have hdp : 0 < d := by omega
        have hne : ((d : Int) == 0) = false := by simp; omega
        have hlast : (l.take (j + 1)).getLast? ≠ some 0 := by rw [take_get hd]; simp; omega
        have hsm : Sm (l.take (j + 1)) := fun x hx => HS.out x (List.mem_of_mem_take hx)
        have hv2 : dig (val l) = l.take (j + 1) := by rw [← hv, dig_val hsm hlast]
        have hl2 : (dig (val l)).length = j + 1 := by rw [hv2, List.length_take]; omega
        have hcs : Cells w (some ⟨b, off, none⟩) (dgs (dig (val l))) := by
          rw [hv2, dgs, List.map_take]; exact HC.out.take _
        have HL := Lib.hid hl2; have HCS := Lib.hid hcs; clear hv hv2 hl2 hcs hd hsm hlast
        go_wp2
        go_ret
        exact ⟨⟨by rw [HL.out]; rfl, HCS.out⟩, rfl⟩

theorem drop_of_len {l1 l2 : List Nat} (h : l1.length = l2.length) : l1.drop l1.length = l2.drop l1.length := by
  rw [List.drop_length, h, List.drop_length]

set_option maxRecDepth 100000 in
theorem compare_any (aa ab : Option Addr) (m n : Nat) (ca cb : Nat) (w : World) (ha : Cells w aa (dgs (dig m))) (hb : Cells w ab (dgs (dig n))) (hm : (dig m).length ≤ 4611686018427387904) (hn : (dig n).length ≤ 4611686018427387904) :
    Calls Tryz.prog 196 #[.slice aa (dig m).length ca, .slice ab (dig n).length cb] w fun e w' => e = .returned (.int .i64 (cmpN m n)) ∧ Below w.heap.size w w' := by
  have HA := Lib.hid ha; clear ha
  have HB := Lib.hid hb; clear hb
  by_cases hlen : (dig m).length = (dig n).length
  · have h1 : (((dig m).length : Int) != (dig n).length) = false := by simp [hlen]
    have HL := Lib.hid hlen; clear hlen
    go_enter Tryz.func196, Tryz.ntmps196
    go_wp2
    go_loopw [5] (fun i wr => ∃ k : Nat, k ≤ (dig m).length ∧ i = .int .i64 ((k : Int) - 1) ∧ (dig m).drop k = (dig n).drop k ∧ Below w.heap.size w wr) (fun i _ => (intOf i + 1).toNat)
    case atStart => exact ⟨(dig m).length, Nat.le_refl _, rfl, drop_of_len HL.out, Below.refl _ _⟩
    case round =>
      obtain ⟨k, hk, rfl, hd, hbe⟩ := hrel
      have HD := Lib.hid hd; clear hd
      by_cases h0 : k = 0
      · subst h0
        have he : cmpN m n = 0 := by
          have := HD.out
          simp only [List.drop_zero] at this
          have h2 := congrArg val this
          rw [val_dig, val_dig] at h2
          rw [h2, cmpN_eq]
        have HE := Lib.hid he; clear he
        go_wp2
        go_ret
        exact ⟨ret_int HE.out.symm, hbe⟩
      · obtain ⟨j, rfl⟩ : ∃ j, k = j + 1 := ⟨k - 1, by omega⟩
        have hj2 : j < (dig n).length := by have := HL.out; omega
        obtain ⟨x, hx⟩ := get_of_lt (show j < (dig m).length by omega)
        obtain ⟨y, hy⟩ := get_of_lt hj2
        obtain ⟨b, off, rfl⟩ := HA.out.addr (dgs_ne (by omega))
        obtain ⟨b2, off2, rfl⟩ := HB.out.addr (dgs_ne (by omega))
        have c1 := cell_keep (HA.out.dgs hx) hbe (Nat.le_refl _)
        have c2 := cell_keep (HB.out.dgs hy) hbe (Nat.le_refl _)
        have e1 : (((j + 1 : Nat) : Int) - 1) = (j : Int) := by omega
        rw [e1]
        have i1 : (j : Int) < (dig m).length := by omega
        have i2 : (j : Int) < (dig n).length := by omega
        have i3 : (0 : Int) ≤ j := by omega
        have hxy : x < y ∨ y < x ∨ x = y := by omega
        rcases hxy with hlt | hgt | heq
        · have he : cmpN m n = -1 := cmpN_lt (by have := cmp_digit (sm_dig m) hx hy HD.out hlt; rwa [val_dig, val_dig] at this)
          have HE := Lib.hid he; clear he hx hy e1
          have hne : ((x : Int) != y) = true := by simp; omega
          have hl : decide ((x : Int) < y) = true := by simp; omega
          go_wp2
          go_quiet (fail)
          go_wp2
          go_quiet (fail)
          go_wp2
          go_ret
          exact ⟨ret_int HE.out.symm, bel_drewN (bel_drewN hbe _) _⟩
        · have he : cmpN m n = 1 := cmpN_gt (by have := cmp_digit (sm_dig n) hy hx HD.out.symm hgt; rwa [val_dig, val_dig] at this)
          have HE := Lib.hid he; clear he hx hy e1
          have hne : ((x : Int) != y) = true := by simp; omega
          have hl : decide ((x : Int) < y) = false := by simp; omega
          go_wp2
          go_quiet (fail)
          go_wp2
          go_quiet (fail)
          go_wp2
          go_ret
          exact ⟨ret_int HE.out.symm, bel_drewN (bel_drewN hbe _) _⟩
        · subst heq
          have he : (dig m).drop j = (dig n).drop j := by
            rw [List.drop_eq_getElem_cons (show j < (dig m).length by omega), List.drop_eq_getElem_cons hj2, HD.out, (List.getElem?_eq_some_iff.1 hx).2, (List.getElem?_eq_some_iff.1 hy).2]
          have HE := Lib.hid he; clear he hx hy e1
          have hne : ((x : Int) != x) = false := by simp
          go_wp2
          go_quiet (fail)
          go_wp2
          go_roundw
          case rel => exact ⟨j, by omega, by go_num, HE.out, bel_drewN hbe _⟩
          case measure => simp [intOf]
  · rcases Nat.lt_or_gt_of_ne hlen with hlt | hgt
    · have he : cmpN m n = -1 := cmpN_lt (lt_of_len hlt)
      have HE := Lib.hid he; clear he
      have h1 : (((dig m).length : Int) != (dig n).length) = true := by simp; omega
      go_enter Tryz.func196, Tryz.ntmps196
      go_wp2
      go_ret
      exact ⟨ret_int HE.out.symm, Below.refl _ _⟩
    · have he : cmpN m n = 1 := cmpN_gt (lt_of_len hgt)
      have HE := Lib.hid he; clear he
      have h1 : (((dig m).length : Int) != (dig n).length) = true := by simp; omega
      have h2 : (dig n).length ≤ (dig m).length := by omega
      go_enter Tryz.func196, Tryz.ntmps196
      go_wp2
      go_ret
      exact ⟨ret_int HE.out.symm, Below.refl _ _⟩

end Go.Proofs.YtmafjfhnejeogaaGreatDoor

/- Natural numbers of package num: short (division by one digit). -/
namespace Go.Proofs.YtmafjfhnejeogaaGreatDoor
open Go.RowKit

theorem zeros_dgs (n : Nat) : (madeCells (Value.int .u64 0).cells (n * 1)).toList = dgs (List.replicate n 0) := by
  rw [show (Value.int .u64 0).cells = #[Value.int .u64 0] from rfl, toList_madeCells_one]; simp [dgs]

theorem set_zeros (k q : Nat) (qs : List Nat) : (dgs (List.replicate (k + 1) 0 ++ qs)).set k (.int .u64 (q : Nat)) = dgs (List.replicate k 0 ++ (q :: qs)) := by
  rw [List.replicate_succ', List.append_assoc, dgs_append, dgs_append, List.set_append_right _ _ (by simp [dgs])]
  simp [dgs]

set_option maxRecDepth 100000 in
theorem short_any (aa : Option Addr) (l : List Nat) (ca d : Nat) (w : World) (ha : Cells w aa (dgs l)) (hs : Sm l) (hl : l.length ≤ 17592186044416) (hd : 1 ≤ d) (hd2 : d ≤ 1000000000) :
    Calls Tryz.prog 197 #[.slice aa l.length ca, .int .u64 (d : Nat)] w fun e w' => (∃ a c, e = .returned (.tuple #[.slice a (dig (val l / d)).length c, .int .u64 (val l % d : Nat)]) ∧ Cells w' a (dgs (dig (val l / d))) ∧ (dig (val l / d)).length ≤ c ∧ c ≤ 17592186044416) ∧ Below w.heap.size w w' := by
  obtain ⟨i0, hi, hz0, hz1, hz2⟩ := info_parts Tryz.infoU64
  have HA := Lib.hid ha; clear ha
  have HS := Lib.hid hs; clear hs
  have hne : ((d : Int) == 0) = false := by simp; omega
  go_enter Tryz.func197, Tryz.ntmps197
  go_wp2_with (at_make; refine wpList_make_full _ rfl _ _ 126 rfl w.heap.size 196 i0 (.int .u64 0) 1 Tryz.underlying126 hi hz0 hz1 .i64 .i64 _ _ l.length rfl rfl rfl rfl (by rw [hz2]; omega) (by unfold maxLen; omega) (Nat.le_refl _) ?_; intro w1 hown1 hgrow1)
  rw [zeros_dgs] at hown1
  have hb1 := (Below.refl w.heap.size w).grown hgrow1 (Nat.le_refl _) (fun _ h => by cases h)
  clear hgrow1
  have HO := Lib.hid hown1; clear hown1
  go_wp2
  go_loopw [7, 8] (fun r i wr => ∃ k : Nat, ∃ qs : List Nat, k ≤ l.length ∧ i = .int .i64 ((k : Int) - 1) ∧ r = .int .u64 (val (l.drop k) % d : Nat) ∧ qs.length = l.length - k ∧ val qs = val (l.drop k) / d ∧ Sm qs ∧ wr.ownsRow w.heap.size 196 1 (.slice (some ⟨w.heap.size, 0, none⟩) l.length l.length) l.length (dgs (List.replicate k 0 ++ qs)) ∧ Below w.heap.size w wr) (fun _ i _ => (intOf i + 1).toNat)
  case atStart => exact ⟨l.length, [], Nat.le_refl _, rfl, by rw [List.drop_length]; simp [val], by simp, by rw [List.drop_length]; simp [val], by simp [Sm], by simpa using HO.out, hb1⟩
  case round =>
    clear hb1
    obtain ⟨k, qs, hk, rfl, rfl, hql, hqv, hqs, hown, hb⟩ := hrel
    by_cases h0 : k = 0
    · subst h0
      rw [List.drop_zero] at hqv ⊢
      simp only [List.replicate_zero, List.nil_append, Nat.sub_zero] at hown hql
      obtain ⟨g, c, hv, hcs⟩ := own_cells hown
      simp only [Value.slice.injEq, true_and] at hv
      obtain ⟨rfl, rfl⟩ := hv
      have hle := lean_any (some ⟨w.heap.size, 0, none⟩) qs l.length wr hcs hqs (by omega) (by omega) (by omega)
      have hdl : (dig (val qs)).length ≤ qs.length := dig_len_val hqs
      rw [hqv] at hle hdl
      rw [hql] at hle hdl
      have HLE := Lib.hid hle; clear hle hcs hown hqv hqs
      have HQL := Lib.hid hql; clear hql
      go_wp2_with fail
      refine HLE.out.mono ?_
      rintro e w2 ⟨⟨rfl, hcs2⟩, rfl⟩
      have HCS := Lib.hid hcs2; clear hcs2
      go_wp2
      go_ret2
      exact ⟨⟨_, _, rfl, HCS.out, hdl, hl⟩, hb⟩
    · obtain ⟨j, rfl⟩ : ∃ j, k = j + 1 := ⟨k - 1, by omega⟩
      have hj : j < l.length := by omega
      obtain ⟨x, hx⟩ := get_of_lt hj
      have hxB := sm_get HS.out hx
      obtain ⟨b, off, rfl⟩ := HA.out.addr (dgs_ne (by omega))
      have c1 := cell_keep (HA.out.dgs hx) hb (Nat.le_refl _)
      have hdr : val (l.drop j) = x + B * val (l.drop (j + 1)) := by
        rw [List.drop_eq_getElem_cons hj, (List.getElem?_eq_some_iff.1 hx).2, val_cons]
      have hst := short_step (H := val (l.drop (j + 1))) (x := x) (show 0 < d by omega)
      rw [← hdr] at hst
      have hrd : val (l.drop (j + 1)) % d < d := Nat.mod_lt _ (by omega)
      have hq := short_dig hrd (show x < B by simp only [B]; omega)
      generalize hr : val (l.drop (j + 1)) % d = r at *
      have HR := Lib.hid hr; clear hr hdr hx
      have c2 := hown.cellAt j (by omega)
      rw [show (dgs (List.replicate (j + 1) 0 ++ qs))[j]? = some (.int .u64 (0 : Nat)) from by rw [dgs, List.map_append, List.getElem?_append_left (by simp)]; simp] at c2
      have c3 := hown.frozenAt j
      have hsto := hown.stored j (.int .u64 ((r * B + x) / d : Nat))
      rw [set_zeros] at hsto
      obtain ⟨hsto1, hsto2⟩ := hsto
      have e1 : ((((r : Int) * 1000000000) + x) / d) = (((r * B + x) / d : Nat) : Int) := by simp [B]
      have e2 : ((((r : Int) * 1000000000) + x) % d) = (((r * B + x) % d : Nat) : Int) := by simp [B]
      have q1 : 0 ≤ (((r : Int) * 1000000000) + x) / d := by rw [e1]; exact Int.natCast_nonneg _
      have q2 : (((r : Int) * 1000000000) + x) / d ≤ 999999999 := by rw [e1]; simp only [B] at hq ⊢; omega
      have hsz := hb.size
      have hszl : w.heap.size < wr.heap.size := by have := World.block_lt_of_cell? wr _ c2; simpa using this
      have hb2 : Below w.heap.size w (wr.setCell ⟨w.heap.size, j, none⟩ (.int .u64 ((r * B + x) / d : Nat))) := hb.setCell (Nat.le_refl _) _
      have HST := Lib.hid hst; clear hst
      have HQL := Lib.hid hql; clear hql
      have HQV := Lib.hid hqv; clear hqv
      have HQS := Lib.hid hqs; clear hqs
      have HO1 := Lib.hid hsto1; clear hsto1 hsto2 hown
      have HB2 := Lib.hid hb2; clear hb2
      have E1 := Lib.hid e1; have E2 := Lib.hid e2; clear e1 e2
      have e3 : (((j + 1 : Nat) : Int) - 1) = (j : Int) := by omega
      rw [e3]
      clear e3
      go_wp2
      go_roundw
      case rel =>
        refine ⟨j, (r * B + x) / d :: qs, by omega, rfl, by rw [E2.out, HST.out.2], by rw [List.length_cons, HQL.out]; omega, by rw [val_cons, HQV.out, HST.out.1], ?_, by rw [E1.out]; exact HO1.out, by rw [E1.out]; exact HB2.out⟩
        intro y hy
        rcases List.mem_cons.1 hy with rfl | hy
        · exact hq
        · exact HQS.out y hy
      case measure => simp [intOf]

end Go.Proofs.YtmafjfhnejeogaaGreatDoor
