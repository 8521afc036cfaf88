/- Parts of a proof, in build order: S4, S5, S6, Q9, V1, V4, V5, V2. -/
import Derived.Test.YtoochleabcjljaaGreatDoorKd11
import Derived.ProofKit
import Derived.OpenShut
import Derived.ReadAgain
import Derived.Deep.Slices
import Derived.Deep.SlicePairs
import Derived.Lib.SmallJoins
import Derived.Below
import Derived.ChangeSame
import Derived.Test.YtoochleabcjljaaGreatDoorRows
import Derived.Deep.Strs

/- The chapter's own span, Gaps. -/
namespace Go.Proofs.YtoochleabcjljaaGreatDoor
open Go.RowKit

set_option maxRecDepth 100000 in
theorem refSpan_any (ao : Option Addr) (bs : List Chan) (cap : Nat) (al : Option Addr) (l : List Frm) (cl : Nat) (fr tt : Int) (w : World) (hb : BookIn w ao bs cap) (hr : RecIn w al l) :
    Calls Tryz.prog 79 #[.slice ao bs.length cap, .slice al l.length cl, .int .i64 fr, .int .i64 tt] w fun e w' => e = .returned (.int .i64 (btwErr bs l fr tt)) ∧ Below w.heap.size w w' := by
  have hck := refCheckRecord_any ao bs cap al l cl w hb hr
  have HCK := Lib.hid hck
  clear hck hb hr
  by_cases h1 : recErr bs l = 0
  · have H1 := Lib.hid h1
    have he : btwErr bs l fr tt = if fr < 0 ∨ tt < fr ∨ 1073741824 < tt then 8 else 0 := by rw [btwErr, if_neg (by simpa using h1)]
    have HE := Lib.hid he
    clear h1 he
    have hj : fr < 0 ∨ (¬ fr < 0 ∧ tt < fr) ∨ (¬ fr < 0 ∧ ¬ tt < fr ∧ 1073741824 < tt) ∨ (¬ fr < 0 ∧ ¬ tt < fr ∧ ¬ 1073741824 < tt) := by omega
    rcases hj with h2 | ⟨h2, h3⟩ | ⟨h2, h3, h4⟩ | ⟨h2, h3, h4⟩
    all_goals
      go_enter Tryz.func79, Tryz.ntmps79
      go_wp2_with fail
      refine HCK.out.mono ?_
      rintro e w1 ⟨rfl, hb1⟩
      rw [H1.out]
      go_wp2
      go_ret
      exact ⟨ret_int (by rw [HE.out]; first | rw [if_pos (by omega)] | rw [if_neg (by omega)]), hb1⟩
  · have he : btwErr bs l fr tt = recErr bs l := by simp [btwErr, h1]
    have h3 : (recErr bs l != 0) = true := by simpa using h1
    have h4 : (recErr bs l == 0) = false := by simpa using h1
    have HE := Lib.hid he; clear he
    go_enter Tryz.func79, Tryz.ntmps79
    go_wp2_with fail
    refine HCK.out.mono ?_
    rintro e w1 ⟨rfl, hb1⟩
    go_wp2
    go_ret
    exact ⟨ret_int HE.out.symm, hb1⟩

/-- of seconds that go up, whether one is within, asked of where the next gap begins -/
theorem gap_in {fr tt : Int} (hft : fr ≤ tt) {l : List Frm} (hl : Inc l) {k : Nat} {x : Frm} (hx : l[k]? = some x) : (fr ≤ x.st ∧ x.st < tt) ↔ ((gapsTo fr tt (l.take k)).1 ≤ x.st ∧ x.st < tt) := by
  have hi : Inc (l.take k) := List.Pairwise.sublist (List.take_sublist k l) hl
  have h := gapI hft (l.take k) hi
  have hlt : ∀ g ∈ l.take k, g.st < x.st := by
    intro g hg
    obtain ⟨i, hi2, rfl⟩ := List.mem_iff_getElem.1 hg
    rw [List.length_take] at hi2
    rw [List.getElem_take]
    have hk := List.getElem?_eq_some_iff.1 hx
    obtain ⟨hk1, hk2⟩ := hk
    rw [← hk2]
    exact List.pairwise_iff_getElem.1 hl i k (by omega) hk1 (by omega)
  constructor
  · rintro ⟨h1, h2⟩
    refine ⟨?_, h2⟩
    rcases h.from_ with h0 | ⟨g, hg, h0⟩
    · omega
    · have := hlt g hg; omega
  · rintro ⟨h1, h2⟩
    exact ⟨by have := h.lo; omega, h2⟩

set_option maxRecDepth 100000 in
set_option maxHeartbeats 2000000 in
theorem refGaps_any (ao : Option Addr) (bs : List Chan) (cap : Nat) (al : Option Addr) (l : List Frm) (cl : Nat) (fr tt : Int) (w : World) (hb : BookIn w ao bs cap) (hr : RecIn w al l) :
    Calls Tryz.prog 35 #[.slice ao bs.length cap, .slice al l.length cl, .int .i64 fr, .int .i64 tt] w fun e w' => (∃ a c, e = .returned (.tuple #[.slice a (gapsRes bs l fr tt).length c, .int .i64 (btwErr bs l fr tt)]) ∧ Cells w' a (prs (gapsRes bs l fr tt))) ∧ Below w.heap.size w w' := by
  have hck := refSpan_any ao bs cap al l cl fr tt w hb hr
  have HCK := Lib.hid hck; have HR := Lib.hid hr
  clear hck hb hr
  by_cases h1 : btwErr bs l fr tt = 0
  · have he : gapsRes bs l fr tt = gapsOf fr tt l := by rw [gapsRes, if_pos h1]
    obtain ⟨z0, z1, z2, z3⟩ := btwErr_zero h1
    obtain ⟨_, z4, _, z7⟩ := recErr_zero z0
    have HINC := Lib.hid (upTo_inc z7)
    have HE := Lib.hid he; have H1 := Lib.hid h1
    obtain ⟨i0, hi, hz0, hz1, hz2⟩ := info_parts Tryz.infoSpan
    clear he h1 z0 z7
    go_enter Tryz.func35, Tryz.ntmps35
    go_wp2_with fail
    refine HCK.out.mono ?_
    rintro e w1 ⟨rfl, hb1⟩
    rw [H1.out]
    have HR1 := Lib.hid (HR.out.below hb1 (Nat.le_refl _))
    have hrf := Below.refl w1.heap.size w1
    go_wp2_with fail
    go_loopw [2, 11, 12] (fun f v i wr => ∃ k : Nat, k ≤ l.length ∧ i = .int .i64 k ∧ f = .int .i64 (gapsTo fr tt (l.take k)).1 ∧ wr.ownsRow w1.heap.size 71 2 v (gapsTo fr tt (l.take k)).2.length (prs (gapsTo fr tt (l.take k)).2) ∧ Below w1.heap.size w1 wr) (fun _ _ i _ => l.length - (intOf i).toNat)
    case atStart => exact ⟨0, Nat.zero_le _, rfl, rfl, World.ownsRow_nil _ _ _ _, hrf⟩
    case round =>
      clear hrf
      obtain ⟨k, hk, rfl, rfl, hown, hbr⟩ := hrel
      have HO := Lib.hid hown; clear hown
      have hgl := gapsTo_length fr tt (l.take k)
      rw [List.length_take, Nat.min_eq_left hk] at hgl
      have hz := hbr.size
      by_cases hlt : k < l.length
      · obtain ⟨x, hx⟩ := get_of_lt hlt
        obtain ⟨bl, ol, rfl⟩ := HR1.out.cells.addr (frs_ne (by omega))
        have c0 := cell_keep (HR1.out.cells.at (frs_get hx).1) hbr (Nat.le_refl _)
        have hst : gapsTo fr tt (l.take (k + 1)) = gapStep fr tt (gapsTo fr tt (l.take k)) x := by rw [take_get hx, gapsTo_snoc]
        have hgi := gap_in z2 HINC.out hx
        have hlo := (gapI z2 (l.take k) (List.Pairwise.sublist (List.take_sublist k l) HINC.out)).lo
        have hhi := (gapI z2 (l.take k) (List.Pairwise.sublist (List.take_sublist k l) HINC.out)).hi
        have HST := Lib.hid hst
        clear hst hx
        by_cases hin : fr ≤ x.st ∧ x.st < tt
        · have hgs : gapStep fr tt (gapsTo fr tt (l.take k)) x = (x.st + 1, addS (gapsTo fr tt (l.take k)).1 (gapsTo fr tt (l.take k)).2 x.st) := by rw [gapStep, if_pos hin]
          have HGS := Lib.hid (HST.out.trans hgs)
          obtain ⟨hi1, hi2⟩ := hgi.1 hin
          clear hgs hgi hin HST
          generalize gapsTo fr tt (l.take k) = g at *
          obtain ⟨ga, gs⟩ := g
          simp only at hi1 hgl hlo hhi HGS HO ⊢
          by_cases hlg : ga < x.st
          · have hs : addS ga gs x.st = gs ++ [(ga, x.st)] := by rw [addS, if_pos hlg]
            have HS := Lib.hid hs; clear hs
            go_wp2_with (at_builtin; refine wpList_append_lies _ rfl _ _ _ rfl w1.heap.size 71 i0 (.agg #[.int .i64 0, .int .i64 0]) 2 16 Tryz.underlying54 hi hz0 hz1 hz2 rfl (by decide) u11 gs.length (prs gs) rfl (HO.out.alloc _) ⟨wr.heap.size, 0, none⟩ 1 1 [.int .i64 ga, .int .i64 x.st] rfl rfl (World.news_of_block (cs := #[.int .i64 ga, .int .i64 x.st]) (t := 71) (fr := (0, 0)) (heap_alloc_new wr _)) (by simp [Value.oneCell']) (by omega) (by unfold maxLen; omega) (by omega) (by simp; omega) (wr.heap.size + 1) (by simp) ?_)
            intro gg cp wz hown1 hgrow hat hlt1
            have hfin : wz.ownsRow w1.heap.size 71 2 (.slice (some ⟨gg, 0, none⟩) (gs.length + 1) cp) (gapsTo fr tt (l.take (k + 1))).2.length (prs (gapsTo fr tt (l.take (k + 1))).2) := by
              rw [HGS.out]; simp only; rw [HS.out, List.length_append, prs_append]; exact hown1
            have hbz := (hbr.alloc hz (.cells #[.int .i64 ga, .int .i64 x.st] 71)).grown hgrow (by simp; omega) (fun j e => (HO.out.lt j e).1)
            have HFIN := Lib.hid hfin
            clear hown1 hgrow hat hlt1 hfin
            go_wp2
            go_roundw
            case rel => exact ⟨k + 1, by omega, by go_num, by rw [HGS.out], HFIN.out, hbz⟩
            case measure => simp [intOf]; omega
          · have hs : addS ga gs x.st = gs := by rw [addS, if_neg hlg]
            have hfin : wr.ownsRow w1.heap.size 71 2 u11 (gapsTo fr tt (l.take (k + 1))).2.length (prs (gapsTo fr tt (l.take (k + 1))).2) := by
              rw [HGS.out]; simp only; rw [hs]; exact HO.out
            have HFIN := Lib.hid hfin
            clear hs hfin
            go_wp2
            go_roundw
            case rel => exact ⟨k + 1, by omega, by go_num, by rw [HGS.out], HFIN.out, hbr⟩
            case measure => simp [intOf]; omega
        · have hgs : gapStep fr tt (gapsTo fr tt (l.take k)) x = gapsTo fr tt (l.take k) := by rw [gapStep, if_neg hin]
          have HGS := Lib.hid (HST.out.trans hgs)
          have hjj : x.st < (gapsTo fr tt (l.take k)).1 ∨ ((gapsTo fr tt (l.take k)).1 ≤ x.st ∧ tt ≤ x.st) := by
            have := fun h => hin (hgi.2 h)
            omega
          have hfin : wr.ownsRow w1.heap.size 71 2 u11 (gapsTo fr tt (l.take (k + 1))).2.length (prs (gapsTo fr tt (l.take (k + 1))).2) := by
            rw [HGS.out]; exact HO.out
          have HFIN := Lib.hid hfin
          clear hgs hgi hin HST hfin
          generalize gapsTo fr tt (l.take k) = g at *
          rcases hjj with h | ⟨h, h'⟩
          all_goals
            go_wp2
            go_roundw
            case rel => exact ⟨k + 1, by omega, by go_num, by rw [HGS.out], HFIN.out, hbr⟩
            case measure => simp [intOf]; omega
      · obtain rfl : k = l.length := by omega
        rw [List.take_length] at HO hgl ⊢
        have hge : gapsOf fr tt l = addS (gapsTo fr tt l).1 (gapsTo fr tt l).2 tt := rfl
        have HGE := Lib.hid (HE.out.trans hge)
        have hbw := hb1.trans (hbr.mono hb1.size)
        clear hge
        generalize gapsTo fr tt l = g at *
        obtain ⟨ga, gs⟩ := g
        simp only at hgl HGE HO ⊢
        by_cases hlg : ga < tt
        · have hs : addS ga gs tt = gs ++ [(ga, tt)] := by rw [addS, if_pos hlg]
          have HS := Lib.hid (HGE.out.trans hs); clear hs
          go_wp2_with (at_builtin; refine wpList_append_lies _ rfl _ _ _ rfl w1.heap.size 71 i0 (.agg #[.int .i64 0, .int .i64 0]) 2 16 Tryz.underlying54 hi hz0 hz1 hz2 rfl (by decide) u11 gs.length (prs gs) rfl (HO.out.alloc _) ⟨wr.heap.size, 0, none⟩ 1 1 [.int .i64 ga, .int .i64 tt] rfl rfl (World.news_of_block (cs := #[.int .i64 ga, .int .i64 tt]) (t := 71) (fr := (0, 0)) (heap_alloc_new wr _)) (by simp [Value.oneCell']) (by omega) (by unfold maxLen; omega) (by omega) (by simp; omega) (wr.heap.size + 1) (by simp) ?_)
          intro gg cp wz hown1 hgrow hat hlt1
          obtain ⟨a, c, hv, hcs⟩ := own_cells hown1
          simp only [Value.slice.injEq, true_and] at hv
          obtain ⟨hv1, hv2⟩ := hv
          have hbz := hbw.trans (((Below.refl wr.heap.size wr).alloc (Nat.le_refl _) (.cells #[.int .i64 ga, .int .i64 tt] 71)).mono hbw.size)
          have hbz2 := (hbr.alloc hz (.cells #[.int .i64 ga, .int .i64 tt] 71)).grown hgrow (by simp; omega) (fun j e => (HO.out.lt j e).1)
          have hbf := hb1.trans (hbz2.mono hb1.size)
          have HCS := Lib.hid hcs
          subst hv1 hv2
          clear hown1 hgrow hat hlt1 hcs hbz hbz2
          go_wp2
          go_ret2
          exact ⟨⟨_, _, by rw [HS.out, H1.out, List.length_append]; rfl, by rw [HS.out, prs_append]; exact HCS.out⟩, hbf⟩
        · have hs : addS ga gs tt = gs := by rw [addS, if_neg hlg]
          have HS := Lib.hid (HGE.out.trans hs); clear hs
          obtain ⟨a, c, rfl, hcs⟩ := own_cells HO.out
          have HCS := Lib.hid hcs; clear hcs
          go_wp2
          go_ret2
          first
            | exact ⟨⟨a, c, by rw [HS.out, H1.out]; rfl, by rw [HS.out]; exact HCS.out⟩, hbw⟩
            | exact ⟨⟨a, ⟨c, by rw [HS.out, H1.out]; rfl⟩, by rw [HS.out]; exact HCS.out⟩, hbw⟩
  · have he : gapsRes bs l fr tt = [] := by rw [gapsRes, if_neg h1]
    have h3 : (btwErr bs l fr tt != 0) = true := by simpa using h1
    have h4 : (btwErr bs l fr tt == 0) = false := by simpa using h1
    have HE := Lib.hid he; clear he
    go_enter Tryz.func35, Tryz.ntmps35
    go_wp2_with fail
    refine HCK.out.mono ?_
    rintro e w1 ⟨rfl, hb1⟩
    go_wp2
    go_ret2
    exact ⟨⟨none, 0, by rw [HE.out]; rfl, by rw [HE.out]; exact Cells.nil _ _⟩, hb1⟩
end Go.Proofs.YtoochleabcjljaaGreatDoor

/- The chapter's own Series. -/
namespace Go.Proofs.YtoochleabcjljaaGreatDoor
open Go.RowKit

theorem sameName_eq {a b : ByteArray} : sameName a b = true ↔ a.toList = b.toList := by simp [sameName]
/-- in a book a name stands once -/
theorem name_once {bs : List Chan} (h : bookOK bs = true) {i j : Nat} {x y : Chan} {name : ByteArray} (hi : bs[i]? = some x) (hj : bs[j]? = some y) (h1 : sameName x.name name = true) (h2 : sameName y.name name = true) : i = j := by
  simp only [bookOK, Bool.and_eq_true] at h
  have key : ∀ n, bookTo bs n = true → ∀ j y, j < n → bs[j]? = some y → dupB (bs.take j) y = false := by
    intro n
    induction n with
    | zero => intro _ j y hj; omega
    | succ n ih =>
      intro hb j y hj hy
      simp only [bookTo, Bool.and_eq_true] at hb
      by_cases hjn : j < n
      · exact ih hb.1 j y hjn hy
      · obtain rfl : j = n := by omega
        have := hb.2
        rw [hy] at this
        simp only [Bool.and_eq_true] at this
        simpa using this.2
  have far : ∀ (i j : Nat) (x y : Chan), i < j → bs[i]? = some x → bs[j]? = some y → sameName x.name name = true → sameName y.name name = true → False := by
    intro i j x y hij hx hy h1 h2
    have hd := key _ h.2 j y (List.getElem?_eq_some_iff.1 hy).1 hy
    rw [dupB, List.any_eq_false] at hd
    have hm : x ∈ bs.take j := List.mem_of_getElem? (i := i) (by rw [List.getElem?_take, if_pos hij]; exact hx)
    refine hd x hm ?_
    rw [sameName_eq] at h1 h2 ⊢
    rw [h1, h2]
  rcases Nat.lt_trichotomy i j with h | h | h
  · exact (far i j x y h hi hj h1 h2).elim
  · exact h
  · exact (far j i y x h hj hi h2 h1).elim
/-- where the name was seen last -/
def seenAt (bs : List Chan) (name : ByteArray) : Nat → Int
  | 0 => -1
  | k + 1 => match bs[k]? with | some c => if sameName c.name name = true then k else seenAt bs name k | none => seenAt bs name k
theorem seenAt_succ {bs : List Chan} {name : ByteArray} {k : Nat} {c : Chan} (h : bs[k]? = some c) : seenAt bs name (k + 1) = if sameName c.name name = true then (k : Int) else seenAt bs name k := by simp [seenAt, h]
theorem seenAt_spec {bs : List Chan} (_hb : bookOK bs = true) (name : ByteArray) : ∀ n, n ≤ bs.length → ((∀ i c, i < n → bs[i]? = some c → sameName c.name name = false) ∧ seenAt bs name n = -1) ∨ ∃ i c, i < n ∧ bs[i]? = some c ∧ sameName c.name name = true ∧ seenAt bs name n = i := by
  intro n
  induction n with
  | zero => intro _; exact .inl ⟨fun i c h => by omega, rfl⟩
  | succ n ih =>
    intro hn
    obtain ⟨c, hc⟩ := get_of_lt (show n < bs.length by omega)
    rw [seenAt_succ hc]
    cases hs : sameName c.name name
    · rw [if_neg (by simp)]
      rcases ih (by omega) with ⟨h1, h2⟩ | ⟨i, d, h1, h2, h3, h4⟩
      · refine .inl ⟨fun i d hi hd => ?_, h2⟩
        by_cases hin : i = n
        · subst hin; rw [hc] at hd; cases hd; exact hs
        · exact h1 i d (by omega) hd
      · exact .inr ⟨i, d, by omega, h2, h3, h4⟩
    · rw [if_pos rfl]
      exact .inr ⟨n, c, by omega, hc, hs, rfl⟩
theorem seenAt_any {bs : List Chan} (hb : bookOK bs = true) (name : ByteArray) : ((bs.any fun c => sameName c.name name) = false ∧ seenAt bs name bs.length = -1) ∨ ((bs.any fun c => sameName c.name name) = true ∧ seenAt bs name bs.length = (chI bs name : Nat)) := by
  rcases seenAt_spec hb name bs.length (Nat.le_refl _) with ⟨h1, h2⟩ | ⟨i, c, h1, h2, h3, h4⟩
  · refine .inl ⟨?_, h2⟩
    rw [List.any_eq_false]
    intro c hc
    obtain ⟨i, hi, rfl⟩ := List.mem_iff_getElem.1 hc
    have := h1 i _ hi (List.getElem?_eq_getElem hi)
    simp [this]
  · have ha : (bs.any fun c => sameName c.name name) = true := List.any_eq_true.2 ⟨c, List.mem_of_getElem? h2, h3⟩
    obtain ⟨d, g1, g2, _⟩ := chI_spec ha
    refine .inr ⟨ha, ?_⟩
    rw [h4, name_once hb h2 g1 h3 g2]

set_option maxRecDepth 100000 in
set_option maxHeartbeats 2000000 in
theorem refSeries_any (ao : Option Addr) (bs : List Chan) (cap : Nat) (al : Option Addr) (l : List Frm) (cl : Nat) (name : ByteArray) (fr tt : Int) (w : World) (hb : BookIn w ao bs cap) (hr : RecIn w al l) :
    Calls Tryz.prog 38 #[.slice ao bs.length cap, .slice al l.length cl, .string name, .int .i64 fr, .int .i64 tt] w fun e w' => (∃ v, e = .returned (.tuple #[v, .int .i64 (serE bs l name fr tt)]) ∧ w'.ownsRow w.heap.size 3 1 v (serR bs l name fr tt).length ((serR bs l name fr tt).map (Value.int .i64))) ∧ Below w.heap.size w w' := by
  have hck := refSpan_any ao bs cap al l cl fr tt w hb hr
  have HCK := Lib.hid hck; have HR := Lib.hid hr; have HB := Lib.hid hb
  have hbl := hb.len
  clear hck hb hr
  by_cases h1 : btwErr bs l fr tt = 0
  · obtain ⟨z0, z1, z2, z3⟩ := btwErr_zero h1
    obtain ⟨z5, z4, z6, z7⟩ := recErr_zero z0
    have hok := bookErr_zero z5
    have hsec := seconds_count z2 (upTo_inc z7)
    have hcle : (cntOf fr tt l : Int) ≤ tt - fr := by omega
    have H1 := Lib.hid h1; have Z6 := Lib.hid z6; have HOK := Lib.hid hok
    obtain ⟨i0, hi, hz0, hz1, hz2⟩ := info_parts Tryz.infoInt
    clear hsec z7 z0 z5 z6 h1 hok
    go_enter Tryz.func38, Tryz.ntmps38
    go_wp2_with fail
    refine HCK.out.mono ?_
    rintro e w1 ⟨rfl, hb1⟩
    rw [H1.out]
    have HB1 := Lib.hid (HB.out.below hb1 (Nat.le_refl _))
    have HR1 := Lib.hid (HR.out.below hb1 (Nat.le_refl _))
    go_wp2_with fail
    go_loop [13, 14] (fun c i => ∃ k : Nat, k ≤ bs.length ∧ i = .int .i64 k ∧ c = .int .i64 (seenAt bs name k)) (fun _ i => bs.length - (intOf i).toNat)
    case atStart => exact ⟨0, Nat.zero_le _, rfl, rfl⟩
    case round =>
      obtain ⟨k, hk, rfl, rfl⟩ := hrel
      by_cases hlt : k < bs.length
      · obtain ⟨c, hx⟩ := get_of_lt hlt
        obtain ⟨b, off, rfl⟩ := HB1.out.cells.addr (chs_ne (by omega))
        have c0 := HB1.out.cells.at (chs_get hx).1
        have hss := seenAt_succ (name := name) hx
        cases hs : sameName c.name name
        · have s1 : (c.name.toList == name.toList) = false := hs
          rw [hs, if_neg (by simp)] at hss
          have HSS := Lib.hid hss
          clear hs hss hx
          generalize seenAt bs name k = sk at *
          go_wp2
          go_round
          case rel => exact ⟨k + 1, by omega, by go_num, by rw [HSS.out]⟩
          case measure => simp [intOf]; omega
        · have s1 : (c.name.toList == name.toList) = true := hs
          rw [hs, if_pos rfl] at hss
          have HSS := Lib.hid hss
          clear hs hss hx
          generalize seenAt bs name k = sk at *
          go_wp2
          go_round
          case rel => exact ⟨k + 1, by omega, by go_num, by rw [HSS.out]⟩
          case measure => simp [intOf]; omega
      · obtain rfl : k = bs.length := by omega
        rcases seenAt_any HOK.out name with ⟨ha, hse⟩ | ⟨ha, hse⟩
        · have he : serE bs l name fr tt = 2 := by rw [serE, if_neg (by rw [H1.out]; decide), ha]; rfl
          have hres : serR bs l name fr tt = [] := by rw [serR, he]; rfl
          have HE := Lib.hid he; have HS := Lib.hid hres
          rw [hse]
          clear he hres ha hse
          go_wp2
          go_ret2
          exact ⟨⟨_, by rw [HE.out]; rfl, by rw [HS.out]; exact World.ownsRow_nil _ _ _ _⟩, hb1⟩
        · rw [hse]
          have hk2 : chI bs name < bs.length := by
            obtain ⟨c0, hc0, _, _⟩ := chI_spec ha
            exact (List.getElem?_eq_some_iff.1 hc0).1
          have hk16 : chI bs name < 16 := by have := book_len HOK.out; omega
          have hrow : ∀ f ∈ l, ∃ xs, f.xss[chI bs name]? = some xs ∧ 1 ≤ xs.length ∧ xs.length ≤ 64 := fun f hf => frTo_row (Z6.out f hf) HOK.out hk2
          have hser : ∀ n, n ≤ l.length → (serOf (chI bs name) fr tt (l.take n)).length ≤ 64 * n := fun n hn => by
            have := serOf_length (chI bs name) fr tt (l.take n) (fun f hf => by
              obtain ⟨xs, h1, _, h2⟩ := hrow f (List.mem_of_mem_take hf)
              rw [List.getD_eq_getElem?_getD, h1]; exact h2)
            rw [List.length_take, Nat.min_eq_left hn] at this; exact this
          have he : serE bs l name fr tt = if (cntOf fr tt l : Int) ≠ tt - fr then 4 else 0 := by rw [serE, if_neg (by rw [H1.out]; decide), ha]; rfl
          have hrr : serR bs l name fr tt = if serE bs l name fr tt = 0 then serOf (chI bs name) fr tt l else [] := rfl
          have HE := Lib.hid he; have HRR := Lib.hid hrr; have HROW := Lib.hid hrow; have HSER := Lib.hid hser
          obtain ⟨ee, hee⟩ : ∃ ee, ee = serE bs l name fr tt := ⟨_, rfl⟩
          obtain ⟨rr, hrr2⟩ : ∃ rr, rr = serR bs l name fr tt := ⟨_, rfl⟩
          rw [← hee] at HE HRR
          rw [← hrr2] at HRR
          have HEE := Lib.hid hee; have HRE := Lib.hid hrr2
          clear ha hse he hrr hrow hser hee hrr2
          generalize chI bs name = ck at *
          have hrf := Below.refl w1.heap.size w1
          go_wp2_with fail
          go_loopw [15, 16, 17] (fun v s i wr => ∃ k : Nat, k ≤ l.length ∧ i = .int .i64 k ∧ s = .int .i64 (cntOf fr tt (l.take k) : Nat) ∧ wr.ownsRow w1.heap.size 3 1 v (serOf ck fr tt (l.take k)).length ((serOf ck fr tt (l.take k)).map (Value.int .i64)) ∧ Below w1.heap.size w1 wr) (fun _ _ i _ => l.length - (intOf i).toNat)
          case atStart => exact ⟨0, Nat.zero_le _, rfl, rfl, World.ownsRow_nil _ _ _ _, hrf⟩
          case round =>
            clear hrf
            obtain ⟨k, hk1, rfl, rfl, hown, hbr⟩ := hrel
            have HO := Lib.hid hown; clear hown
            have hcl := cntOf_le fr tt (l.take k)
            rw [List.length_take, Nat.min_eq_left hk1] at hcl
            by_cases hlt3 : k < l.length
            · obtain ⟨⟨xst, xa, xc, xss⟩, hx⟩ := get_of_lt hlt3
              have hmem := List.mem_of_getElem? hx
              obtain ⟨xs, hxs, hx1, hx2⟩ := HROW.out _ hmem
              obtain ⟨bl, ol, rfl⟩ := HR1.out.cells.addr (frs_ne (by omega))
              have d0 := cell_keep (HR1.out.cells.at (frs_get hx).1) hbr (Nat.le_refl _)
              have d1 := cell_keep (HR1.out.cells.at (frs_get hx).2) hbr (Nat.le_refl _)
              rw [← Nat.add_assoc] at d1
              obtain ⟨_, vs, hvs, hrv⟩ := HR1.out.rows _ hmem
              simp only at hxs hvs hrv d0 d1
              obtain ⟨v, hv⟩ := get_of_lt (show ck < vs.length by have := (List.getElem?_eq_some_iff.1 hxs).1; have := hrv.1; omega)
              obtain ⟨ax, cx, rfl, hax, _⟩ := hrv.2 ck v xs hv hxs
              obtain ⟨bv, ov, rfl⟩ := hvs.addr (List.ne_nil_of_length_pos (by have := (List.getElem?_eq_some_iff.1 hv).1; omega))
              obtain ⟨bx, ox, rfl⟩ := hax.addr (by simpa using List.ne_nil_of_length_pos (by omega))
              have hst : serOf ck fr tt (l.take (k + 1)) = serOf ck fr tt (l.take k) ++ if inF fr tt ⟨xst, some ⟨bv, ov, none⟩, xc, xss⟩ then xs else [] := by
                rw [take_get hx, serOf_snoc, List.getD_eq_getElem?_getD, hxs]; rfl
              have hct : cntOf fr tt (l.take (k + 1)) = cntOf fr tt (l.take k) + if inF fr tt ⟨xst, some ⟨bv, ov, none⟩, xc, xss⟩ then 1 else 0 := by rw [take_get hx, cntOf_snoc]
              have hsl := HSER.out k hk1
              have HST := Lib.hid hst; have HCT := Lib.hid hct
              have hz := hbr.size
              have hkx : ck < xss.length := (List.getElem?_eq_some_iff.1 hxs).1
              have e1 := cell_keep (hvs.at hv) hbr (Nat.le_refl _)
              have HAX := Lib.hid (hax.below hbr (Nat.le_refl _))
              by_cases hin : fr ≤ xst ∧ xst < tt
              · have hi0 : inF fr tt ⟨xst, some ⟨bv, ov, none⟩, xc, xss⟩ = true := by simp [inF, hin.1, hin.2]
                have hib : inB fr xst (tt - 1) = true := by simp [inB]; omega
                rw [hi0] at HST HCT
                have HIB := Lib.hid hib
                clear hst hct hxs hx hv hvs hrv hax hi0 hmem hib hin
                go_wp2_with fail
                refine (in_any _ _ _ _).mono ?_
                rintro e w' ⟨rfl, rfl⟩
                rw [HIB.out]
                go_wp2_with (at_builtin; refine wpList_append_lies _ rfl _ _ _ rfl w1.heap.size 3 i0 (.int .i64 0) 1 8 Tryz.underlying22 hi hz0 hz1 hz2 rfl (by decide) u15 (serOf ck fr tt (l.take k)).length _ rfl HO.out ⟨bx, ox, none⟩ xs.length cx (xs.map (Value.int .i64)) rfl (by simp) (fun j u hu => by rw [Addr.add_lit]; exact HAX.out.at hu) (by intro u hu; obtain ⟨d, _, rfl⟩ := List.mem_map.1 hu; rfl) (by omega) (by unfold maxLen; omega) (by omega) (by omega) wr.heap.size rfl ?_)
                intro gg cp wz hown1 hgrow hat hlt1
                have hfin : wz.ownsRow w1.heap.size 3 1 (.slice (some ⟨gg, 0, none⟩) ((serOf ck fr tt (l.take k)).length + xs.length) cp) (serOf ck fr tt (l.take (k + 1))).length ((serOf ck fr tt (l.take (k + 1))).map (Value.int .i64)) := by
                  rw [HST.out, if_pos trivial, List.length_append, List.map_append]; exact hown1
                have hbz := hbr.grown hgrow (by omega) (fun j e => (HO.out.lt j e).1)
                have HFIN := Lib.hid hfin
                clear hown1 hgrow hat hlt1 hfin
                go_wp2
                go_roundw
                case rel => exact ⟨k + 1, by omega, by go_num, by rw [HCT.out, if_pos trivial]; go_num, HFIN.out, hbz⟩
                case measure => simp [intOf]; omega
              · have hi0 : inF fr tt ⟨xst, some ⟨bv, ov, none⟩, xc, xss⟩ = false := by
                  simp only [inF, Bool.and_eq_false_iff, decide_eq_false_iff_not]; omega
                have hib : inB fr xst (tt - 1) = false := by
                  simp only [inB, decide_eq_false_iff_not]; omega
                rw [hi0] at HST HCT
                have HIB := Lib.hid hib
                have hfin : wr.ownsRow w1.heap.size 3 1 u15 (serOf ck fr tt (l.take (k + 1))).length ((serOf ck fr tt (l.take (k + 1))).map (Value.int .i64)) := by
                  rw [HST.out, if_neg (by simp), List.append_nil]; exact HO.out
                have HFIN := Lib.hid hfin
                have hct2 : cntOf fr tt (l.take (k + 1)) = cntOf fr tt (l.take k) := by rw [HCT.out]; simp
                have HCT2 := Lib.hid hct2
                clear hst hct hxs hx hv hvs hrv hax hi0 hfin hct2 hmem hib hin
                go_wp2_with fail
                refine (in_any _ _ _ _).mono ?_
                rintro e w' ⟨rfl, rfl⟩
                rw [HIB.out]
                go_wp2
                go_roundw
                case rel => exact ⟨k + 1, by omega, by go_num, by rw [HCT2.out], HFIN.out, hbr⟩
                case measure => simp [intOf]; omega
            · obtain rfl : k = l.length := by omega
              rw [List.take_length] at HO hcl ⊢
              have hbf := hb1.trans (hbr.mono hb1.size)
              have hsz2 := hb1.size
              by_cases hcc : (cntOf fr tt l : Int) = tt - fr
              · have he0 : ee = 0 := by rw [HE.out, if_neg (by omega)]
                have hr0 : rr = serOf ck fr tt l := by rw [HRR.out, if_pos he0]
                have HE0 := Lib.hid (HEE.out.symm.trans he0); have HR0 := Lib.hid (HRE.out.symm.trans hr0)
                have hnl : ¬ ((cntOf fr tt l : Int) < tt - fr) := by omega
                clear he0 hr0 hcc
                go_wp2
                go_ret2
                exact ⟨⟨_, by rw [HE0.out]; rfl, by rw [HR0.out]; exact own_base HO.out hsz2⟩, hbf⟩
              · have he0 : ee = 4 := by rw [HE.out, if_pos hcc]
                have hr0 : rr = [] := by rw [HRR.out, if_neg (by rw [he0]; decide)]
                have HE0 := Lib.hid (HEE.out.symm.trans he0); have HR0 := Lib.hid (HRE.out.symm.trans hr0)
                have hnl : (cntOf fr tt l : Int) < tt - fr := by omega
                clear he0 hr0 hcc
                go_wp2
                go_ret2
                exact ⟨⟨_, by rw [HE0.out]; rfl, by rw [HR0.out]; exact World.ownsRow_nil _ _ _ _⟩, hbf⟩
  · have he : serE bs l name fr tt = btwErr bs l fr tt := by rw [serE, if_pos h1]
    have hres : serR bs l name fr tt = [] := by rw [serR, he, if_neg h1]
    have h3 : (btwErr bs l fr tt != 0) = true := by simpa using h1
    have h4 : (btwErr bs l fr tt == 0) = false := by simpa using h1
    have HE := Lib.hid he; have HS := Lib.hid hres
    clear he hres
    go_enter Tryz.func38, Tryz.ntmps38
    go_wp2_with fail
    refine HCK.out.mono ?_
    rintro e w1 ⟨rfl, hb1⟩
    go_wp2
    go_ret2
    exact ⟨⟨_, by rw [HE.out]; rfl, by rw [HS.out]; exact World.ownsRow_nil _ _ _ _⟩, hb1⟩
end Go.Proofs.YtoochleabcjljaaGreatDoor

/- sameSpans. -/
namespace Go.Proofs.YtoochleabcjljaaGreatDoor
open Go.RowKit

/-- sameSpans: are two lists of pairs the same? -/
theorem sameSpans_any (aa ab : Option Addr) (xs ys : List (Int × Int)) (ca cb : Nat) (w : World) (ha : Cells w aa (prs xs)) (hb : Cells w ab (prs ys)) (hl : xs.length ≤ 9223372036854775807) (hl' : ys.length ≤ 9223372036854775807) :
    Calls Tryz.prog 36 #[.slice aa xs.length ca, .slice ab ys.length cb] w fun e w' => e = .returned (.bool (decide (xs = ys))) ∧ Below w.heap.size w w' := by
  by_cases hlen : xs.length = ys.length
  · have h1 : ((xs.length : Int) != ys.length) = false := by simp [hlen]
    have hlt : (ys.length : Int) ≤ xs.length := by omega
    have HL := Lib.hid hlen; clear hlen
    go_enter Tryz.func36, Tryz.ntmps36
    go_wp2
    go_loopw [5] (fun i wr => ∃ k : Nat, k ≤ xs.length ∧ i = .int .i64 k ∧ xs.take k = ys.take k ∧ Below w.heap.size w wr) (fun i _ => xs.length - (intOf i).toNat)
    case atStart => exact ⟨0, Nat.zero_le _, rfl, rfl, Below.refl _ _⟩
    case round =>
      obtain ⟨k, hk, rfl, heq, hbe⟩ := hrel
      have HQ := Lib.hid heq; clear heq
      by_cases hlt : k < xs.length
      · have hlt2 : k < ys.length := by have := HL.out; omega
        obtain ⟨⟨x1, x2⟩, hx⟩ := get_of_lt hlt
        obtain ⟨⟨y1, y2⟩, hy⟩ := get_of_lt hlt2
        obtain ⟨b, off, rfl⟩ := ha.addr (prs_ne (by omega))
        obtain ⟨b2, off2, rfl⟩ := hb.addr (prs_ne (by omega))
        have c1 := cell_keep (ha.at (prs_fst hx)) hbe (Nat.le_refl _)
        have c2 := cell_keep (ha.at (prs_snd hx)) hbe (Nat.le_refl _)
        have c3 := cell_keep (hb.at (prs_fst hy)) hbe (Nat.le_refl _)
        have c4 := cell_keep (hb.at (prs_snd hy)) hbe (Nat.le_refl _)
        rw [← Nat.add_assoc] at c2 c4
        simp only at c1 c2 c3 c4
        have i1 : (k : Int) < xs.length := by omega
        have i2 : (k : Int) < ys.length := by omega
        have i3 : (0 : Int) ≤ k := by omega
        by_cases hxy : x1 = y1 ∧ x2 = y2
        · obtain ⟨rfl, rfl⟩ := hxy
          have ht : xs.take (k + 1) = ys.take (k + 1) := by rw [take_get hx, take_get hy, HQ.out]
          have HT := Lib.hid ht; clear ht hx hy
          go_wp2
          go_quiet (fail)
          go_wp2
          go_roundw
          case rel => exact ⟨k + 1, by omega, by go_num, HT.out, bel_drewN hbe _⟩
          case measure => simp [intOf]; omega
        · have hne : decide (xs = ys) = false := by
            rw [decide_eq_false_iff_not]; rintro rfl
            rw [hx] at hy; simp at hy; exact hxy hy
          have HNE := Lib.hid hne; clear hne hx hy
          by_cases hx1 : x1 = y1
          · obtain rfl := hx1
            have hb1 : (x2 == y2) = false := by simpa using hxy
            go_wp2
            go_quiet (fail)
            go_wp2
            go_ret
            exact ⟨ret_bool HNE.out.symm, bel_drewN hbe _⟩
          · have hb1 : (x1 == y1) = false := by simpa using hx1
            go_wp2
            go_quiet (fail)
            go_wp2
            go_ret
            exact ⟨ret_bool HNE.out.symm, bel_drewN hbe _⟩
      · obtain rfl : k = xs.length := by omega
        have he : decide (xs = ys) = true := by
          rw [decide_eq_true_iff]
          have := HQ.out
          rw [List.take_length, HL.out, List.take_length] at this; exact this
        have HE := Lib.hid he; clear he
        go_wp2
        go_ret
        exact ⟨ret_bool HE.out.symm, hbe⟩
  · have h1 : ((xs.length : Int) != ys.length) = true := by simp; omega
    have he : decide (xs = ys) = false := by
      rw [decide_eq_false_iff_not]; rintro rfl; exact hlen rfl
    have HE := Lib.hid he; clear he
    go_enter Tryz.func36, Tryz.ntmps36
    go_wp2
    go_ret
    exact ⟨ret_bool HE.out.symm, Below.refl _ _⟩
end Go.Proofs.YtoochleabcjljaaGreatDoor

/- RecordCodes: the walk. -/
namespace Go.Proofs.YtoochleabcjljaaGreatDoor
open Go.RowKit

theorem DecRes.frm {base : Nat} {res : Option (Int × List (List Int))} {err : Int} {e : Ending} {w' : World} (h : DecRes base res err e w') : ∃ f : Frm, e = .returned (.tuple #[.agg #[.int .i64 f.st, .slice f.a f.xss.length f.c], .int .i64 err]) ∧ FrmIn w' f ∧ Go.Proofs.YtoochleabcjljaaGreatDoor.frm f = res.getD (0, []) := by
  cases res with
  | none => exact ⟨⟨0, none, 0, []⟩, h, ⟨by decide, [], .inl rfl, rfl, by simp⟩, rfl⟩
  | some x =>
    obtain ⟨v, rfl, hfo⟩ := h
    obtain ⟨a, c, vs, rfl, hca, hrv, hl⟩ := hfo.cells
    exact ⟨⟨x.1, a, c, x.2⟩, rfl, ⟨hl, vs, hca, hrv⟩, rfl⟩
theorem FrsRes.recs {base : Nat} {res : Option (List Fr)} {err : Int} {e : Ending} {w' : World} (h : FrsRes base res err e w') : ∃ (a : Option Addr) (fs : List Frm) (c : Nat), e = .returned (.tuple #[.slice a fs.length c, .int .i64 err]) ∧ RecIn w' a fs ∧ fs.map frm = res.getD [] := by
  cases res with
  | none => exact ⟨none, [], 0, h, ⟨.inl rfl, by decide, by simp⟩, rfl⟩
  | some out =>
    obtain ⟨v, fs, h1, rfl, h2⟩ := h
    obtain ⟨a, c, rfl, h3⟩ := h2.recIn
    exact ⟨a, fs, c, rfl, h3, h1⟩
theorem SalRes.all {base : Nat} {bs : List Chan} {l : List Nat} {e : Ending} {w' : World} (h : SalRes base bs l e w') : ∃ (a : Option Addr) (fs : List Frm) (c : Nat) (al : Option Addr) (ss : List (Int × Int)) (cl : Nat), e = .returned (.tuple #[.slice a fs.length c, .slice al ss.length cl, .int .i64 (salErr bs l)]) ∧ RecIn w' a fs ∧ fs.map frm = (if salErr bs l = 0 then (salTo bs l l.length).1 else []) ∧ Cells w' al (prs ss) ∧ ss.length ≤ 9223372036854775807 ∧ ss = (if salErr bs l = 0 then lostTo bs l l.length else []) := by
  unfold SalRes at h
  split at h
  · rename_i h0
    obtain ⟨v, vl, fs, rfl, h1, h2, h3⟩ := h
    obtain ⟨a, c, rfl, h4⟩ := h2.recIn
    obtain ⟨al, cl, rfl, h5, h6, h7⟩ := own_cap h3
    rw [h0, if_pos rfl, if_pos rfl]
    exact ⟨a, fs, c, al, _, cl, rfl, h4, h1, h5, by unfold maxLen at h7; omega, rfl⟩
  · rename_i h0
    rw [if_neg h0, if_neg h0]
    exact ⟨none, [], 0, none, [], 0, h, ⟨.inl rfl, by decide, by simp⟩, rfl, .inl rfl, by decide, rfl⟩
theorem conv_all {w : World} {a : Option Addr} (l : List Nat) (cap : Nat) (hc : Cells w a (bys l)) (hl : ∀ d ∈ l, d < 256) : (convert 48 9 (.slice a l.length cap)).run Tryz.prog w = .ok (.string (bstr l)) w := by
  by_cases h : l = []
  · subst h
    cases a with
    | none => exact Lib.run_convert_nil_bytes w _ _ 5 cap Tryz.underlying48 Tryz.underlying5 Tryz.underlying9
    | some ad => exact run_convert_bytes_back w _ _ 5 ad cap [] Tryz.underlying48 Tryz.underlying5 Tryz.underlying9 (fun j hj => by simp at hj)
  · exact conv_any l cap hc (fun h => hc.addr (bys_ne (List.length_pos_iff.2 h))) hl (fun h0 => absurd h0 h)

set_option maxRecDepth 100000 in
set_option maxHeartbeats 4000000 in
theorem codes_any (ao : Option Addr) (bs : List Chan) (cap : Nat) (ac : Option Addr) (l : List Nat) (cc : Nat) (w : World) (hb : BookIn w ao bs cap) (hc : ByIn w ac l cc) :
    Calls Tryz.prog 6 #[.slice ao bs.length cap, .slice ac l.length cc] w fun e w' => e = .returned (.bool true) ∧ Below w.heap.size w w' := by
  obtain ⟨j0, hj, hy0, hy1, hy2⟩ := info_parts Tryz.infoByte
  have HB := Lib.hid hb; have HC := Lib.hid hc
  have hcl := hc.len
  have hb0 := (Below.refl w.heap.size w).alloc (Nat.le_refl _) (.cells #[] 5)
  clear hb hc
  by_cases h0 : l = []
  · subst h0
    have hz0 : (([] : List Nat).length : Int) = 0 := rfl
    cases ac with
    | none =>
      go_enter Tryz.func6, Tryz.ntmps6
      go_wp2_with fail
      generalize (w.alloc (.cells #[] 5)) = wA at *
      have hbA := hb0
      have hyo : ByIn wA (some ⟨w.heap.size, 0, none⟩) [] 0 := ⟨Cells.nil _ _, by simp, by decide, Nat.le_refl _, by decide⟩
      clear hb0 hz0
      have hzA := hbA.size
      have HBA := Lib.hid hbA; have HYO := Lib.hid hyo
      clear hbA hyo
      refine (decode_any ao bs cap (some ⟨w.heap.size, 0, none⟩) [] 0 wA (HB.out.below HBA.out (Nat.le_refl _)) HYO.out).mono ?_
      rintro e w1 ⟨hd, hb1⟩
      obtain ⟨f, rfl, hf, hff⟩ := hd.frm
      have hz1 := hb1.alloc hb1.size (.cells #[.int .i64 f.st, .slice f.a f.xss.length f.c] 43)
      have hbk := Blk.new w1 43 #[.int .i64 f.st, .slice f.a f.xss.length f.c]
      have hsz1 : (w1.alloc (.cells #[.int .i64 f.st, .slice f.a f.xss.length f.c] 43)).heap.size = w1.heap.size + 1 := by simp
      have hf1 := hf.below ((Below.refl w1.heap.size w1).alloc (Nat.le_refl _) (.cells #[.int .i64 f.st, .slice f.a f.xss.length f.c] 43)) (Nat.le_refl _)
      have HZ1 := Lib.hid hz1; have HBK := Lib.hid hbk; have HSZ1 := Lib.hid hsz1; have HF1 := Lib.hid hf1; have HFF := Lib.hid hff
      clear hb1 hd hz1 hbk hsz1 hf1 hff hf
      go_wp2_with fail
      generalize (w1.alloc (.cells #[.int .i64 f.st, .slice f.a f.xss.length f.c] 43)) = W1 at *
      have hzz1 := HZ1.out.size
      refine (refDecode_any ao bs cap none [] cc W1 (HB.out.below (HBA.out.trans (HZ1.out.mono hzA)) (Nat.le_refl _)) (HC.out.below (HBA.out.trans (HZ1.out.mono hzA)) (Nat.le_refl _))).mono ?_
      rintro e w2 ⟨hd, hb2⟩
      obtain ⟨q, rfl, hq, hqq⟩ := hd.frm
      have hbk2 := HBK.out.below hb2 (by have := HSZ1.out; omega)
      have hf2 := HF1.out.below hb2 (Nat.le_refl _)
      have hal := (Below.refl w2.heap.size w2).alloc (Nat.le_refl _) (.cells #[.int .i64 q.st, .slice q.a q.xss.length q.c] 43)
      have hz2 := (HZ1.out.trans (hb2.mono hzz1)).trans (hal.mono (by have := hb2.size; omega))
      have p0 := (hbk2.alloc (.cells #[.int .i64 q.st, .slice q.a q.xss.length q.c] 43)).c0
      have p1 := (hbk2.alloc (.cells #[.int .i64 q.st, .slice q.a q.xss.length q.c] 43)).c1
      have hbq := Blk.new w2 43 #[.int .i64 q.st, .slice q.a q.xss.length q.c]
      have r0 := hbq.c0
      have r1 := hbq.c1
      have hsf := sameFrame_any f q _ (hf2.below hal (Nat.le_refl _)) (hq.below hal (Nat.le_refl _))
      have hdt : decide (frm f = frm q) = true := by rw [decide_eq_true_iff, HFF.out, hqq]
      have HSF := Lib.hid hsf; have HZ2 := Lib.hid hz2; have HDT := Lib.hid hdt
      clear hb2 hd hbk2 hf2 hal hz2 hbq hsf hdt hq hqq
      generalize decErr bs [] = de at *
      go_wp2_with fail
      generalize (w2.alloc (.cells #[.int .i64 q.st, .slice q.a q.xss.length q.c] 43)) = W2 at *
      refine HSF.out.mono ?_
      rintro e w3 ⟨rfl, hb3⟩
      rw [HDT.out]
      have hz3 := HZ2.out.trans (hb3.mono HZ2.out.size)
      have HZ3 := Lib.hid hz3
      clear p0 p1 r0 r1 hb3 hz3
      go_wp2_with fail
      have hzz3 := HZ3.out.size
      refine (unpack_any ao bs cap (some ⟨w.heap.size, 0, none⟩) [] 0 w3 (HB.out.below (HBA.out.trans (HZ3.out.mono hzA)) (Nat.le_refl _)) (HYO.out.below HZ3.out (Nat.le_refl _))).mono ?_
      rintro e w4 ⟨hd, hb4⟩
      obtain ⟨fa, fs, fc, rfl, hri, hfm⟩ := hd.recs
      have hz4 := HZ3.out.trans (hb4.mono hzz3)
      have HZ4 := Lib.hid hz4; have HRI := Lib.hid hri; have HFM := Lib.hid hfm
      clear hd hb4 hz4 hri hfm
      go_wp2_with fail
      have hzz4 := HZ4.out.size
      refine (refUnpack_any ao bs cap none [] cc w4 (HB.out.below (HBA.out.trans (HZ4.out.mono hzA)) (Nat.le_refl _)) (HC.out.below (HBA.out.trans (HZ4.out.mono hzA)) (Nat.le_refl _))).mono ?_
      rintro e w5 ⟨hd, hb5⟩
      obtain ⟨ra, rs, rc, rfl, hrj, hrm⟩ := hd.recs
      have hz5 := HZ4.out.trans (hb5.mono hzz4)
      have hsf := sameFrames_any fa ra fs rs fc rc w5 (HRI.out.below hb5 (Nat.le_refl _)) hrj
      have hdt : decide (fs.map frm = rs.map frm) = true := by rw [decide_eq_true_iff, HFM.out, hrm]
      have HSF2 := Lib.hid hsf; have HZ5 := Lib.hid hz5; have HDT2 := Lib.hid hdt
      clear hd hb5 hz5 hrj hrm hsf hdt
      generalize unpErr bs [] = ue at *
      go_wp2_with fail
      refine HSF2.out.mono ?_
      rintro e w6 ⟨rfl, hb6⟩
      rw [HDT2.out]
      have hzz5 := HZ5.out.size
      have hz6 := HZ5.out.trans (hb6.mono hzz5)
      have HZ6 := Lib.hid hz6
      clear hb6 hz6
      go_wp2_with fail
      have hzz6 := HZ6.out.size
      refine (salvage_any ao bs cap (some ⟨w.heap.size, 0, none⟩) [] 0 w6 (HB.out.below (HBA.out.trans (HZ6.out.mono hzA)) (Nat.le_refl _)) (HYO.out.below HZ6.out (Nat.le_refl _))).mono ?_
      rintro e w7 ⟨hd, hb7⟩
      obtain ⟨ga, gs, gc, ha, hs, hcp, rfl, hgi, hgm, hgc, hgl, hgs⟩ := hd.all
      have hz7 := HZ6.out.trans (hb7.mono hzz6)
      have HZ7 := Lib.hid hz7; have HGI := Lib.hid hgi; have HGM := Lib.hid hgm; have HGC := Lib.hid hgc; have HGS := Lib.hid hgs
      clear hd hb7 hz7 hgi hgm hgc hgs
      go_wp2_with fail
      have hzz7 := HZ7.out.size
      refine (refSalvage_any ao bs cap none [] cc w7 (HB.out.below (HBA.out.trans (HZ7.out.mono hzA)) (Nat.le_refl _)) (HC.out.below (HBA.out.trans (HZ7.out.mono hzA)) (Nat.le_refl _))).mono ?_
      rintro e w8 ⟨hd, hb8⟩
      obtain ⟨ka, ks, kc, la, ls, lcp, rfl, hki, hkm, hkc, hkl, hks⟩ := hd.all
      have hz8 := HZ7.out.trans (hb8.mono hzz7)
      have hsf := sameFrames_any ga ka gs ks gc kc w8 (HGI.out.below hb8 (Nat.le_refl _)) hki
      have hdt : decide (gs.map frm = ks.map frm) = true := by rw [decide_eq_true_iff, HGM.out, hkm]
      have hdt2 : decide (hs = ls) = true := by rw [decide_eq_true_iff, HGS.out, hks]
      have HSF3 := Lib.hid hsf; have HZ8 := Lib.hid hz8; have HDT3 := Lib.hid hdt; have HDT4 := Lib.hid hdt2
      have HGC8 := Lib.hid (HGC.out.below hb8 (Nat.le_refl _)); have HKC := Lib.hid hkc
      clear hd hb8 hz8 hki hkm hkc hks hsf hdt hdt2
      generalize salErr bs [] = se at *
      go_wp2_with fail
      refine HSF3.out.mono ?_
      rintro e w9 ⟨rfl, hb9⟩
      rw [HDT3.out]
      have hzz8 := HZ8.out.size
      have hz9 := HZ8.out.trans (hb9.mono hzz8)
      have hss := sameSpans_any ha la hs ls hcp lcp w9 (HGC8.out.below hb9 (Nat.le_refl _)) (HKC.out.below hb9 (Nat.le_refl _)) hgl hkl
      have HSS := Lib.hid hss; have HZ9 := Lib.hid hz9
      clear hb9 hz9 hss
      go_wp2_with fail
      refine HSS.out.mono ?_
      rintro e w10 ⟨rfl, hb10⟩
      rw [HDT4.out]
      have hz10 := HZ9.out.trans (hb10.mono HZ9.out.size)
      have hcv1 := conv_all (w := w10) [] 0 ((HYO.out.below hz10 (Nat.le_refl _)).cells) HYO.out.byte
      have hcv2 := conv_all (w := w10) [] cc ((HC.out.below (HBA.out.trans (hz10.mono hzA)) (Nat.le_refl _)).cells) HC.out.byte
      have HZ10 := Lib.hid hz10
      (try rw [List.length_nil] at hcv1 hcv2)
      clear hb10 hz10
      generalize bstr [] = str at *
      have hstr : (str.toList == str.toList) = true := by simp
      go_wp2_with fail
      clear hcv1 hcv2
      refine (works_any _).mono ?_
      rintro e w11 ⟨rfl, hb11⟩
      have hfin := HBA.out.trans ((HZ10.out.trans (hb11.mono HZ10.out.size)).mono hzA)
      clear hb11
      go_wp2
      go_ret
      exact ⟨rfl, hfin⟩
    | some ad =>
      go_enter Tryz.func6, Tryz.ntmps6
      go_wp2_with fail
      generalize (w.alloc (.cells #[] 5)) = wA at *
      have hbA := hb0
      have hyo : ByIn wA (some ⟨w.heap.size, 0, none⟩) [] 0 := ⟨Cells.nil _ _, by simp, by decide, Nat.le_refl _, by decide⟩
      clear hb0 hz0
      have hzA := hbA.size
      have HBA := Lib.hid hbA; have HYO := Lib.hid hyo
      clear hbA hyo
      refine (decode_any ao bs cap (some ⟨w.heap.size, 0, none⟩) [] 0 wA (HB.out.below HBA.out (Nat.le_refl _)) HYO.out).mono ?_
      rintro e w1 ⟨hd, hb1⟩
      obtain ⟨f, rfl, hf, hff⟩ := hd.frm
      have hz1 := hb1.alloc hb1.size (.cells #[.int .i64 f.st, .slice f.a f.xss.length f.c] 43)
      have hbk := Blk.new w1 43 #[.int .i64 f.st, .slice f.a f.xss.length f.c]
      have hsz1 : (w1.alloc (.cells #[.int .i64 f.st, .slice f.a f.xss.length f.c] 43)).heap.size = w1.heap.size + 1 := by simp
      have hf1 := hf.below ((Below.refl w1.heap.size w1).alloc (Nat.le_refl _) (.cells #[.int .i64 f.st, .slice f.a f.xss.length f.c] 43)) (Nat.le_refl _)
      have HZ1 := Lib.hid hz1; have HBK := Lib.hid hbk; have HSZ1 := Lib.hid hsz1; have HF1 := Lib.hid hf1; have HFF := Lib.hid hff
      clear hb1 hd hz1 hbk hsz1 hf1 hff hf
      go_wp2_with fail
      generalize (w1.alloc (.cells #[.int .i64 f.st, .slice f.a f.xss.length f.c] 43)) = W1 at *
      have hzz1 := HZ1.out.size
      refine (refDecode_any ao bs cap (some ad) [] cc W1 (HB.out.below (HBA.out.trans (HZ1.out.mono hzA)) (Nat.le_refl _)) (HC.out.below (HBA.out.trans (HZ1.out.mono hzA)) (Nat.le_refl _))).mono ?_
      rintro e w2 ⟨hd, hb2⟩
      obtain ⟨q, rfl, hq, hqq⟩ := hd.frm
      have hbk2 := HBK.out.below hb2 (by have := HSZ1.out; omega)
      have hf2 := HF1.out.below hb2 (Nat.le_refl _)
      have hal := (Below.refl w2.heap.size w2).alloc (Nat.le_refl _) (.cells #[.int .i64 q.st, .slice q.a q.xss.length q.c] 43)
      have hz2 := (HZ1.out.trans (hb2.mono hzz1)).trans (hal.mono (by have := hb2.size; omega))
      have p0 := (hbk2.alloc (.cells #[.int .i64 q.st, .slice q.a q.xss.length q.c] 43)).c0
      have p1 := (hbk2.alloc (.cells #[.int .i64 q.st, .slice q.a q.xss.length q.c] 43)).c1
      have hbq := Blk.new w2 43 #[.int .i64 q.st, .slice q.a q.xss.length q.c]
      have r0 := hbq.c0
      have r1 := hbq.c1
      have hsf := sameFrame_any f q _ (hf2.below hal (Nat.le_refl _)) (hq.below hal (Nat.le_refl _))
      have hdt : decide (frm f = frm q) = true := by rw [decide_eq_true_iff, HFF.out, hqq]
      have HSF := Lib.hid hsf; have HZ2 := Lib.hid hz2; have HDT := Lib.hid hdt
      clear hb2 hd hbk2 hf2 hal hz2 hbq hsf hdt hq hqq
      generalize decErr bs [] = de at *
      go_wp2_with fail
      generalize (w2.alloc (.cells #[.int .i64 q.st, .slice q.a q.xss.length q.c] 43)) = W2 at *
      refine HSF.out.mono ?_
      rintro e w3 ⟨rfl, hb3⟩
      rw [HDT.out]
      have hz3 := HZ2.out.trans (hb3.mono HZ2.out.size)
      have HZ3 := Lib.hid hz3
      clear p0 p1 r0 r1 hb3 hz3
      go_wp2_with fail
      have hzz3 := HZ3.out.size
      refine (unpack_any ao bs cap (some ⟨w.heap.size, 0, none⟩) [] 0 w3 (HB.out.below (HBA.out.trans (HZ3.out.mono hzA)) (Nat.le_refl _)) (HYO.out.below HZ3.out (Nat.le_refl _))).mono ?_
      rintro e w4 ⟨hd, hb4⟩
      obtain ⟨fa, fs, fc, rfl, hri, hfm⟩ := hd.recs
      have hz4 := HZ3.out.trans (hb4.mono hzz3)
      have HZ4 := Lib.hid hz4; have HRI := Lib.hid hri; have HFM := Lib.hid hfm
      clear hd hb4 hz4 hri hfm
      go_wp2_with fail
      have hzz4 := HZ4.out.size
      refine (refUnpack_any ao bs cap (some ad) [] cc w4 (HB.out.below (HBA.out.trans (HZ4.out.mono hzA)) (Nat.le_refl _)) (HC.out.below (HBA.out.trans (HZ4.out.mono hzA)) (Nat.le_refl _))).mono ?_
      rintro e w5 ⟨hd, hb5⟩
      obtain ⟨ra, rs, rc, rfl, hrj, hrm⟩ := hd.recs
      have hz5 := HZ4.out.trans (hb5.mono hzz4)
      have hsf := sameFrames_any fa ra fs rs fc rc w5 (HRI.out.below hb5 (Nat.le_refl _)) hrj
      have hdt : decide (fs.map frm = rs.map frm) = true := by rw [decide_eq_true_iff, HFM.out, hrm]
      have HSF2 := Lib.hid hsf; have HZ5 := Lib.hid hz5; have HDT2 := Lib.hid hdt
      clear hd hb5 hz5 hrj hrm hsf hdt
      generalize unpErr bs [] = ue at *
      go_wp2_with fail
      refine HSF2.out.mono ?_
      rintro e w6 ⟨rfl, hb6⟩
      rw [HDT2.out]
      have hzz5 := HZ5.out.size
      have hz6 := HZ5.out.trans (hb6.mono hzz5)
      have HZ6 := Lib.hid hz6
      clear hb6 hz6
      go_wp2_with fail
      have hzz6 := HZ6.out.size
      refine (salvage_any ao bs cap (some ⟨w.heap.size, 0, none⟩) [] 0 w6 (HB.out.below (HBA.out.trans (HZ6.out.mono hzA)) (Nat.le_refl _)) (HYO.out.below HZ6.out (Nat.le_refl _))).mono ?_
      rintro e w7 ⟨hd, hb7⟩
      obtain ⟨ga, gs, gc, ha, hs, hcp, rfl, hgi, hgm, hgc, hgl, hgs⟩ := hd.all
      have hz7 := HZ6.out.trans (hb7.mono hzz6)
      have HZ7 := Lib.hid hz7; have HGI := Lib.hid hgi; have HGM := Lib.hid hgm; have HGC := Lib.hid hgc; have HGS := Lib.hid hgs
      clear hd hb7 hz7 hgi hgm hgc hgs
      go_wp2_with fail
      have hzz7 := HZ7.out.size
      refine (refSalvage_any ao bs cap (some ad) [] cc w7 (HB.out.below (HBA.out.trans (HZ7.out.mono hzA)) (Nat.le_refl _)) (HC.out.below (HBA.out.trans (HZ7.out.mono hzA)) (Nat.le_refl _))).mono ?_
      rintro e w8 ⟨hd, hb8⟩
      obtain ⟨ka, ks, kc, la, ls, lcp, rfl, hki, hkm, hkc, hkl, hks⟩ := hd.all
      have hz8 := HZ7.out.trans (hb8.mono hzz7)
      have hsf := sameFrames_any ga ka gs ks gc kc w8 (HGI.out.below hb8 (Nat.le_refl _)) hki
      have hdt : decide (gs.map frm = ks.map frm) = true := by rw [decide_eq_true_iff, HGM.out, hkm]
      have hdt2 : decide (hs = ls) = true := by rw [decide_eq_true_iff, HGS.out, hks]
      have HSF3 := Lib.hid hsf; have HZ8 := Lib.hid hz8; have HDT3 := Lib.hid hdt; have HDT4 := Lib.hid hdt2
      have HGC8 := Lib.hid (HGC.out.below hb8 (Nat.le_refl _)); have HKC := Lib.hid hkc
      clear hd hb8 hz8 hki hkm hkc hks hsf hdt hdt2
      generalize salErr bs [] = se at *
      go_wp2_with fail
      refine HSF3.out.mono ?_
      rintro e w9 ⟨rfl, hb9⟩
      rw [HDT3.out]
      have hzz8 := HZ8.out.size
      have hz9 := HZ8.out.trans (hb9.mono hzz8)
      have hss := sameSpans_any ha la hs ls hcp lcp w9 (HGC8.out.below hb9 (Nat.le_refl _)) (HKC.out.below hb9 (Nat.le_refl _)) hgl hkl
      have HSS := Lib.hid hss; have HZ9 := Lib.hid hz9
      clear hb9 hz9 hss
      go_wp2_with fail
      refine HSS.out.mono ?_
      rintro e w10 ⟨rfl, hb10⟩
      rw [HDT4.out]
      have hz10 := HZ9.out.trans (hb10.mono HZ9.out.size)
      have hcv1 := conv_all (w := w10) [] 0 ((HYO.out.below hz10 (Nat.le_refl _)).cells) HYO.out.byte
      have hcv2 := conv_all (w := w10) [] cc ((HC.out.below (HBA.out.trans (hz10.mono hzA)) (Nat.le_refl _)).cells) HC.out.byte
      have HZ10 := Lib.hid hz10
      (try rw [List.length_nil] at hcv1 hcv2)
      clear hb10 hz10
      generalize bstr [] = str at *
      have hstr : (str.toList == str.toList) = true := by simp
      go_wp2_with fail
      clear hcv1 hcv2
      refine (works_any _).mono ?_
      rintro e w11 ⟨rfl, hb11⟩
      have hfin := HBA.out.trans ((HZ10.out.trans (hb11.mono HZ10.out.size)).mono hzA)
      clear hb11
      go_wp2
      go_ret
      exact ⟨rfl, hfin⟩
  · have hlp : 0 < l.length := List.length_pos_iff.2 h0
    obtain ⟨b, off, rfl⟩ := HC.out.cells.addr (bys_ne hlp)
    have hlit : (w.alloc (.cells #[] 5)).ownsRow w.heap.size 5 1 (.slice (some ⟨w.heap.size, 0, none⟩) 0 0) 0 [] := own_lit w [] 5 w.heap.size (Nat.le_refl _) (by decide)
    have hcell : ∀ (j : Nat) (u : Value), (bys l)[j]? = some u → (w.alloc (.cells #[] 5)).cell? ((⟨b, off, none⟩ : Addr).add j) = some u := by
      intro j u hu
      rw [Addr.add_lit]
      exact cell_keep (HC.out.cells.at hu) hb0 (Nat.le_refl _)
    have HLIT := Lib.hid hlit; have HCELL := Lib.hid hcell
    clear hlit hcell h0
    go_enter Tryz.func6, Tryz.ntmps6
    go_wp2_with (at_builtin; refine wpList_append_lies _ rfl _ _ _ rfl w.heap.size 5 j0 (.int .u8 0) 1 1 Tryz.underlying48 hj hy0 hy1 hy2 rfl (by decide) (.slice (some ⟨w.heap.size, 0, none⟩) 0 0) 0 [] rfl HLIT.out ⟨b, off, none⟩ l.length cc (bys l) rfl (by rw [bys_length, Nat.mul_one]) HCELL.out (bys_one l) (by omega) (by unfold maxLen; omega) (by omega) (by simp) (w.heap.size + 1) (by simp) ?_)
    intro g oc wA hown hgrow hat hlt1
    have hbA : Below w.heap.size w wA := hb0.grown hgrow (by simp) (fun j e => (HLIT.out.lt j e).1)
    have hyo : ByIn wA (some ⟨g, 0, none⟩) l oc := by
      obtain ⟨a', c', he, hca, hc1, hc2⟩ := own_cap hown
      simp only [Value.slice.injEq, true_and] at he
      obtain ⟨rfl, rfl⟩ := he
      exact ⟨hca, HC.out.byte, hcl, hc1, by unfold maxLen at hc2; omega⟩
    clear hown hgrow hat hlt1 hb0
    have hzA := hbA.size
    have HBA := Lib.hid hbA; have HYO := Lib.hid hyo
    clear hbA hyo
    go_wp2_with fail
    refine (decode_any ao bs cap (some ⟨g, 0, none⟩) l oc wA (HB.out.below HBA.out (Nat.le_refl _)) HYO.out).mono ?_
    rintro e w1 ⟨hd, hb1⟩
    obtain ⟨f, rfl, hf, hff⟩ := hd.frm
    have hz1 := hb1.alloc hb1.size (.cells #[.int .i64 f.st, .slice f.a f.xss.length f.c] 43)
    have hbk := Blk.new w1 43 #[.int .i64 f.st, .slice f.a f.xss.length f.c]
    have hsz1 : (w1.alloc (.cells #[.int .i64 f.st, .slice f.a f.xss.length f.c] 43)).heap.size = w1.heap.size + 1 := by simp
    have hf1 := hf.below ((Below.refl w1.heap.size w1).alloc (Nat.le_refl _) (.cells #[.int .i64 f.st, .slice f.a f.xss.length f.c] 43)) (Nat.le_refl _)
    have HZ1 := Lib.hid hz1; have HBK := Lib.hid hbk; have HSZ1 := Lib.hid hsz1; have HF1 := Lib.hid hf1; have HFF := Lib.hid hff
    clear hb1 hd hz1 hbk hsz1 hf1 hff hf
    go_wp2_with fail
    generalize (w1.alloc (.cells #[.int .i64 f.st, .slice f.a f.xss.length f.c] 43)) = W1 at *
    have hzz1 := HZ1.out.size
    refine (refDecode_any ao bs cap (some ⟨b, off, none⟩) l cc W1 (HB.out.below (HBA.out.trans (HZ1.out.mono hzA)) (Nat.le_refl _)) (HC.out.below (HBA.out.trans (HZ1.out.mono hzA)) (Nat.le_refl _))).mono ?_
    rintro e w2 ⟨hd, hb2⟩
    obtain ⟨q, rfl, hq, hqq⟩ := hd.frm
    have hbk2 := HBK.out.below hb2 (by have := HSZ1.out; omega)
    have hf2 := HF1.out.below hb2 (Nat.le_refl _)
    have hal := (Below.refl w2.heap.size w2).alloc (Nat.le_refl _) (.cells #[.int .i64 q.st, .slice q.a q.xss.length q.c] 43)
    have hz2 := (HZ1.out.trans (hb2.mono hzz1)).trans (hal.mono (by have := hb2.size; omega))
    have p0 := (hbk2.alloc (.cells #[.int .i64 q.st, .slice q.a q.xss.length q.c] 43)).c0
    have p1 := (hbk2.alloc (.cells #[.int .i64 q.st, .slice q.a q.xss.length q.c] 43)).c1
    have hbq := Blk.new w2 43 #[.int .i64 q.st, .slice q.a q.xss.length q.c]
    have r0 := hbq.c0
    have r1 := hbq.c1
    have hsf := sameFrame_any f q _ (hf2.below hal (Nat.le_refl _)) (hq.below hal (Nat.le_refl _))
    have hdt : decide (frm f = frm q) = true := by rw [decide_eq_true_iff, HFF.out, hqq]
    have HSF := Lib.hid hsf; have HZ2 := Lib.hid hz2; have HDT := Lib.hid hdt
    clear hb2 hd hbk2 hf2 hal hz2 hbq hsf hdt hq hqq
    generalize decErr bs l = de at *
    go_wp2_with fail
    generalize (w2.alloc (.cells #[.int .i64 q.st, .slice q.a q.xss.length q.c] 43)) = W2 at *
    refine HSF.out.mono ?_
    rintro e w3 ⟨rfl, hb3⟩
    rw [HDT.out]
    have hz3 := HZ2.out.trans (hb3.mono HZ2.out.size)
    have HZ3 := Lib.hid hz3
    clear p0 p1 r0 r1 hb3 hz3
    go_wp2_with fail
    have hzz3 := HZ3.out.size
    refine (unpack_any ao bs cap (some ⟨g, 0, none⟩) l oc w3 (HB.out.below (HBA.out.trans (HZ3.out.mono hzA)) (Nat.le_refl _)) (HYO.out.below HZ3.out (Nat.le_refl _))).mono ?_
    rintro e w4 ⟨hd, hb4⟩
    obtain ⟨fa, fs, fc, rfl, hri, hfm⟩ := hd.recs
    have hz4 := HZ3.out.trans (hb4.mono hzz3)
    have HZ4 := Lib.hid hz4; have HRI := Lib.hid hri; have HFM := Lib.hid hfm
    clear hd hb4 hz4 hri hfm
    go_wp2_with fail
    have hzz4 := HZ4.out.size
    refine (refUnpack_any ao bs cap (some ⟨b, off, none⟩) l cc w4 (HB.out.below (HBA.out.trans (HZ4.out.mono hzA)) (Nat.le_refl _)) (HC.out.below (HBA.out.trans (HZ4.out.mono hzA)) (Nat.le_refl _))).mono ?_
    rintro e w5 ⟨hd, hb5⟩
    obtain ⟨ra, rs, rc, rfl, hrj, hrm⟩ := hd.recs
    have hz5 := HZ4.out.trans (hb5.mono hzz4)
    have hsf := sameFrames_any fa ra fs rs fc rc w5 (HRI.out.below hb5 (Nat.le_refl _)) hrj
    have hdt : decide (fs.map frm = rs.map frm) = true := by rw [decide_eq_true_iff, HFM.out, hrm]
    have HSF2 := Lib.hid hsf; have HZ5 := Lib.hid hz5; have HDT2 := Lib.hid hdt
    clear hd hb5 hz5 hrj hrm hsf hdt
    generalize unpErr bs l = ue at *
    go_wp2_with fail
    refine HSF2.out.mono ?_
    rintro e w6 ⟨rfl, hb6⟩
    rw [HDT2.out]
    have hzz5 := HZ5.out.size
    have hz6 := HZ5.out.trans (hb6.mono hzz5)
    have HZ6 := Lib.hid hz6
    clear hb6 hz6
    go_wp2_with fail
    have hzz6 := HZ6.out.size
    refine (salvage_any ao bs cap (some ⟨g, 0, none⟩) l oc w6 (HB.out.below (HBA.out.trans (HZ6.out.mono hzA)) (Nat.le_refl _)) (HYO.out.below HZ6.out (Nat.le_refl _))).mono ?_
    rintro e w7 ⟨hd, hb7⟩
    obtain ⟨ga, gs, gc, ha, hs, hcp, rfl, hgi, hgm, hgc, hgl, hgs⟩ := hd.all
    have hz7 := HZ6.out.trans (hb7.mono hzz6)
    have HZ7 := Lib.hid hz7; have HGI := Lib.hid hgi; have HGM := Lib.hid hgm; have HGC := Lib.hid hgc; have HGS := Lib.hid hgs
    clear hd hb7 hz7 hgi hgm hgc hgs
    go_wp2_with fail
    have hzz7 := HZ7.out.size
    refine (refSalvage_any ao bs cap (some ⟨b, off, none⟩) l cc w7 (HB.out.below (HBA.out.trans (HZ7.out.mono hzA)) (Nat.le_refl _)) (HC.out.below (HBA.out.trans (HZ7.out.mono hzA)) (Nat.le_refl _))).mono ?_
    rintro e w8 ⟨hd, hb8⟩
    obtain ⟨ka, ks, kc, la, ls, lcp, rfl, hki, hkm, hkc, hkl, hks⟩ := hd.all
    have hz8 := HZ7.out.trans (hb8.mono hzz7)
    have hsf := sameFrames_any ga ka gs ks gc kc w8 (HGI.out.below hb8 (Nat.le_refl _)) hki
    have hdt : decide (gs.map frm = ks.map frm) = true := by rw [decide_eq_true_iff, HGM.out, hkm]
    have hdt2 : decide (hs = ls) = true := by rw [decide_eq_true_iff, HGS.out, hks]
    have HSF3 := Lib.hid hsf; have HZ8 := Lib.hid hz8; have HDT3 := Lib.hid hdt; have HDT4 := Lib.hid hdt2
    have HGC8 := Lib.hid (HGC.out.below hb8 (Nat.le_refl _)); have HKC := Lib.hid hkc
    clear hd hb8 hz8 hki hkm hkc hks hsf hdt hdt2
    generalize salErr bs l = se at *
    go_wp2_with fail
    refine HSF3.out.mono ?_
    rintro e w9 ⟨rfl, hb9⟩
    rw [HDT3.out]
    have hzz8 := HZ8.out.size
    have hz9 := HZ8.out.trans (hb9.mono hzz8)
    have hss := sameSpans_any ha la hs ls hcp lcp w9 (HGC8.out.below hb9 (Nat.le_refl _)) (HKC.out.below hb9 (Nat.le_refl _)) hgl hkl
    have HSS := Lib.hid hss; have HZ9 := Lib.hid hz9
    clear hb9 hz9 hss
    go_wp2_with fail
    refine HSS.out.mono ?_
    rintro e w10 ⟨rfl, hb10⟩
    rw [HDT4.out]
    have hz10 := HZ9.out.trans (hb10.mono HZ9.out.size)
    have hcv1 := conv_all (w := w10) l oc ((HYO.out.below hz10 (Nat.le_refl _)).cells) HYO.out.byte
    have hcv2 := conv_all (w := w10) l cc ((HC.out.below (HBA.out.trans (hz10.mono hzA)) (Nat.le_refl _)).cells) HC.out.byte
    have HZ10 := Lib.hid hz10
    (try rw [List.length_nil] at hcv1 hcv2)
    clear hb10 hz10
    generalize bstr l = str at *
    have hstr : (str.toList == str.toList) = true := by simp
    go_wp2_with fail
    clear hcv1 hcv2
    refine (works_any _).mono ?_
    rintro e w11 ⟨rfl, hb11⟩
    have hfin := HBA.out.trans ((HZ10.out.trans (hb11.mono HZ10.out.size)).mono hzA)
    clear hb11
    go_wp2
    go_ret
    exact ⟨rfl, hfin⟩
end Go.Proofs.YtoochleabcjljaaGreatDoor

/- Arguments read as data, over this program: what their cells hold; and that they read the same behind a call that writes nothing old. -/
namespace Go.Proofs.YtoochleabcjljaaGreatDoor
open Go.RowKit Go.WideShapes Go.ChangeShapes Go.Deep Go.Joins

section
variable {H : Type} {enc : TypeId × Value → H} {P : Program}
theorem sameAt_below {W W' : World} (hb : Below W.heap.size W W') {p : MemPlace} (hp : p.block < W.heap.size) : W.sameAt W' p := by
  cases p with
  | cell b off => exact hb.cell (p := ⟨b, off, none⟩) hp
  | map b => exact hb.block b hp
theorem trodAll_carry {W W' : World} {base : Nat} {sp : Nat → Bool} {held : Bool} : ∀ {ts : List TypeId} {vs : List Value} {ds : List (DataW H)} {ps : List MemPlace}, DataW.TrodAll enc P W base sp held ts vs ds ps → (∀ p ∈ ps, W.sameAt W' p) → DataW.TrodAll enc P W' base sp held ts vs ds ps
  | [], [], [], _, h, _ => h
  | _ :: _, _ :: _, _ :: _, _, ⟨p, q, ⟨n, h1⟩, h2, e⟩, hs => ⟨p, q, ⟨n, DataW.trod_carry n _ _ _ h1 fun x hx => hs x (by rw [e]; exact List.mem_append_left _ hx)⟩, trodAll_carry h2 fun x hx => hs x (by rw [e]; exact List.mem_append_right _ hx), e⟩

/-- behind a call that leaves all old blocks alone and answers true, of a law whose data read again as they did -/
theorem law_post {f : Func} {s : ChangeSpec} {W W' : World} {args : Array Value} {ds : List (DataW H)} {before : List MemPlace} (K : Kids P (· < P.types.size))
    (full : ∀ t e, t < P.types.size → P.underlying t = some (.slice e) → 0 < P.cellsOf e) (hT : ∀ t ∈ f.params.toList, t < P.types.size) (hv : s.vars = [])
    (hW : DataW.Whole enc P f.params.toList s.vars false W args.toList ds [] before) (hA : DataW.TrodAll enc P W 0 (fun _ => true) true f.params.toList args.toList ds before)
    (hfn : s.fn H (ds ++ []) = { results := [.lit (.bool true)], args := ds }) (hr : f.resultTypes = #[4]) (hu : P.underlying 4 = some .bool) (hb : Below W.heap.size W W') :
    s.post enc P f false true false false W args (.bool true) W' := by
  have hlt : ∀ p ∈ before, p.block < W.heap.size := fun p hp => hW.lt p hp
  have hold : ∀ p ∈ before, (fun b => decide (b < W.heap.size)) p.block = true := fun p hp => by simpa using hlt p hp
  have hargs : ∀ sp : Nat → Bool, (∀ p ∈ before, sp p.block = true) → DataW.TrodAll enc P W' 0 sp true f.params.toList args.toList (s.fn H (ds ++ [])).args before := by
    intro sp hsp
    rw [hfn]
    exact trodAll_carry (DataW.TrodAll.respare K full hT hA hsp) fun p hp => sameAt_below hb (hlt p hp)
  have hres : ∀ (b : Nat) (sp : Nat → Bool) (hd : Bool), DataW.TrodAll enc P W' b sp hd f.resultTypes.toList ((Value.bool true).resultList f.resultTypes.size) (s.fn H (ds ++ [])).results [] := by
    intro b sp hd
    rw [hfn, hr]
    exact trodAll_cons_mk (shut_bool hu _) trodAll_mk0
  have hvars : ∀ sp : Nat → Bool, DataW.TrodVars enc P W' sp s.vars (s.fn H (ds ++ [])).vars [] := by
    intro sp
    rw [hfn, hv]
    rfl
  refine ⟨ds, [], before, [], before, [], hW, hres _ _ _, hargs _ hold, hvars _, World.keptBut_mono (fun p hp => ⟨hp, Or.inr (Or.inl hp)⟩) (hb.frame (· ∈ before)), fun _ => ?_⟩
  obtain ⟨_, _, _, _, _, hz, hn⟩ := hW
  refine ⟨?_, _, _, ([] ++ before) ++ [], ⟨[] ++ before, [], trodAll_append (hargs _ (fun _ _ => rfl)) (hres _ _ _), hvars _, rfl, ?_, ?_⟩, ?_⟩
  · exact ok_one hr rfl (okWide_bool_mk hu _)
  · intro b off hp
    have hin : MemPlace.cell b off ∈ before := by simpa using hp
    rw [hb.frozen (hlt _ hin)]
    exact hz b off hin
  · intro ha
    have := hn ha
    simpa using this
  · intro p hp _
    simpa using hp

/-- a slice of numbers, as read -/
theorem rd_ints {W : World} {base : Nat} {sp : Nat → Bool} {held : Bool} {t e : TypeId} {fuel : Nat} {cs : List Value} {x : DataW H × List MemPlace} (ht : P.underlying t = some (.slice e)) (he : P.underlying e = some (.int .i64)) (hc : P.cellsOf e = 1)
    (h : DataW.trod enc P W base sp held fuel t cs = some x) :
    ∃ (ao : Option Addr) (xs : List Int) (cap : Nat), cs = [.slice ao xs.length cap] ∧ Cells W ao (xs.map (Value.int .i64)) ∧ xs.length ≤ cap ∧ cap ≤ 9223372036854775807 ∧ ∀ x ∈ xs, (Lit.int .i64 x).wf = true := by
  rcases open_ints ht he hc h with ⟨rfl, _⟩ | ⟨a, len, cap, zs, rfl, _, hl, hm, hz, _, hcell, hwf⟩
  · exact ⟨none, [], 0, rfl, .inl rfl, Nat.le_refl _, by decide, by simp⟩
  · have hzl : len ≤ zs.length := by rw [hz]; split <;> omega
    have htl : (zs.take len).length = len := by simp; omega
    refine ⟨some a, zs.take len, cap, by rw [htl], ?_, by omega, by unfold maxLen at hm; omega, fun x hx => hwf x (List.mem_of_mem_take hx)⟩
    rcases Nat.eq_zero_or_pos len with h0 | h0
    · subst h0; exact .inl (by simp)
    · have hsp := World.cell?_spot (hcell 0 (by omega))
      simp only [Addr.add] at hsp
      obtain ⟨b, off, spot⟩ := a
      simp at hsp
      subst hsp
      refine .inr ⟨b, off, rfl, fun j u hu => ?_⟩
      rw [List.getElem?_map] at hu
      obtain ⟨y, hy, rfl⟩ := Option.map_eq_some_iff.1 hu
      have hj : j < len := by have := (List.getElem?_eq_some_iff.1 hy).1; omega
      have := hcell j (by omega)
      rw [Addr.add_lit] at this
      rw [this]
      have hg : zs.getD j 0 = y := by
        rw [List.getElem?_take] at hy
        rw [if_pos hj] at hy
        rw [List.getD_eq_getElem?_getD, hy]; rfl
      rw [hg]

/-- a slice of pairs of numbers, as read -/
theorem rd_pairs {W : World} {base : Nat} {sp : Nat → Bool} {held : Bool} {t e : TypeId} {f0 f1 : Field} {fuel : Nat} {cs : List Value} {x : DataW H × List MemPlace} (ht : P.underlying t = some (.slice e)) (he : P.underlying e = some (.struct #[f0, f1]))
    (ce : P.cellsOf e = 2) (o0 : f0.offset = 0) (o1 : f1.offset = 1) (c0 : P.cellsOf f0.type = 1) (c1 : P.cellsOf f1.type = 1) (k0 : P.underlying f0.type = some (.int .i64)) (k1 : P.underlying f1.type = some (.int .i64))
    (h : DataW.trod enc P W base sp held fuel t cs = some x) :
    ∃ (ao : Option Addr) (xs : List (Int × Int)) (cap : Nat), cs = [.slice ao xs.length cap] ∧ Cells W ao (prs xs) ∧ xs.length ≤ cap ∧ cap ≤ 9223372036854775807 ∧ ∀ t ∈ xs, (Lit.int .i64 t.1).wf = true ∧ (Lit.int .i64 t.2).wf = true := by
  rcases open_slice_pairs ht he ce o0 o1 c0 c1 h with ⟨rfl, _⟩ | ⟨a, len, cap, m, n, V0, V1, D0, D1, P0, P1, rfl, _, hl, hm, hmm, _, hcell⟩
  · exact ⟨none, [], 0, rfl, .inl rfl, Nat.le_refl _, by decide, by simp⟩
  · have hlm : len ≤ m := by rw [hmm]; split <;> omega
    have each : ∀ i, i < len → ∃ q : Int × Int, W.cell? (a.add (i * 2)) = some (.int .i64 q.1) ∧ W.cell? (a.add (i * 2 + 1)) = some (.int .i64 q.2) ∧ (Lit.int .i64 q.1).wf = true ∧ (Lit.int .i64 q.2).wf = true := by
      intro i hi
      obtain ⟨h1, h2, h3, h4⟩ := hcell i (by omega)
      obtain ⟨z0, e0, _, w0⟩ := DataW.trod_int k0 h3
      obtain ⟨z1, e1, _, w1⟩ := DataW.trod_int k1 h4
      simp only [List.cons.injEq, and_true] at e0 e1
      rw [e0] at h1; rw [e1] at h2
      exact ⟨(z0, z1), h1, h2, w0, w1⟩
    let F : Nat → Int × Int := fun i => if hi : i < len then (each i hi).choose else (0, 0)
    have hF : ∀ i, i < len → W.cell? (a.add (i * 2)) = some (.int .i64 (F i).1) ∧ W.cell? (a.add (i * 2 + 1)) = some (.int .i64 (F i).2) ∧ (Lit.int .i64 (F i).1).wf = true ∧ (Lit.int .i64 (F i).2).wf = true := by
      intro i hi
      have := (each i hi).choose_spec
      simp only [F, dif_pos hi]
      exact this
    have htl : ((List.range len).map F).length = len := by simp
    refine ⟨some a, (List.range len).map F, cap, by rw [htl], ?_, by omega, by unfold maxLen at hm; omega, ?_⟩
    · rcases Nat.eq_zero_or_pos len with h0 | h0
      · subst h0; exact .inl (by simp [prs])
      · have hsp := World.cell?_spot (hF 0 h0).1
        simp only [Addr.add] at hsp
        obtain ⟨b, off, spot⟩ := a
        simp at hsp
        subst hsp
        refine .inr ⟨b, off, rfl, fun j u hu => ?_⟩
        have hj : j < len * 2 := by
          have := (List.getElem?_eq_some_iff.1 hu).1
          rw [prs_length, htl] at this; exact this
        have hg : ((List.range len).map F)[j / 2]? = some (F (j / 2)) := by
          rw [List.getElem?_map, List.getElem?_range (by omega)]; rfl
        have h1 := prs_fst hg
        have h2 := prs_snd hg
        obtain ⟨g1, g2, _⟩ := hF (j / 2) (by omega)
        rw [Addr.add_lit] at g1 g2
        rcases Nat.mod_two_eq_zero_or_one j with hm | hm
        · have e : j / 2 * 2 = j := by omega
          rw [e] at h1 g1
          rw [h1] at hu; rw [g1]; exact hu
        · have e : j / 2 * 2 + 1 = j := by omega
          rw [e] at h2 g2
          rw [h2] at hu; rw [g2]; exact hu
    · intro t ht2
      obtain ⟨i, hi, rfl⟩ := List.mem_map.1 ht2
      have := hF i (List.mem_range.1 hi)
      exact ⟨this.2.2.1, this.2.2.2⟩
end
end Go.Proofs.YtoochleabcjljaaGreatDoor

/- Bytes as arguments: what their cells hold, and how many they are. -/
namespace Go.Proofs.YtoochleabcjljaaGreatDoor
open Go.RowKit Go.WideShapes Go.ChangeShapes Go.Deep Go.Joins

section
variable {H : Type} {enc : TypeId × Value → H} {P : Program}
/-- how many elements a reading has -/
def dlen : DataW H → Nat
  | .slice elems _ => elems.length
  | _ => 0
theorem rd_bytes {W : World} {base : Nat} {sp : Nat → Bool} {held : Bool} {t e : TypeId} {fuel : Nat} {cs : List Value} {x : DataW H × List MemPlace} (ht : P.underlying t = some (.slice e)) (he : P.underlying e = some (.int .u8)) (hc : P.cellsOf e = 1)
    (h : DataW.trod enc P W base sp held fuel t cs = some x) :
    ∃ (ao : Option Addr) (l : List Nat) (cap : Nat), cs = [.slice ao l.length cap] ∧ Cells W ao (bys l) ∧ l.length ≤ cap ∧ cap ≤ 9223372036854775807 ∧ (∀ d ∈ l, d < 256) ∧ l.length ≤ dlen x.1 := by
  rcases open_ints ht he hc h with ⟨rfl, _⟩ | ⟨a, len, cap, zs, rfl, _, hl, hm, hz, hx, hcell, hwf⟩
  · exact ⟨none, [], 0, rfl, .inl rfl, Nat.le_refl _, by decide, by simp, Nat.zero_le _⟩
  · have hzl : len ≤ zs.length := by rw [hz]; split <;> omega
    have htl : ((zs.take len).map Int.toNat).length = len := by simp; omega
    have hbd : ∀ n ∈ zs, 0 ≤ n ∧ n < 256 := fun n hn => by
      have := hwf n hn
      simp only [Lit.wf, Bool.and_eq_true, IntKind.min, IntKind.max, IntKind.signed, IntKind.bits] at this
      simp at this
      omega
    refine ⟨some a, (zs.take len).map Int.toNat, cap, by rw [htl], ?_, by omega, by unfold maxLen at hm; omega, fun d hd => ?_, ?_⟩
    · rcases Nat.eq_zero_or_pos len with h0 | h0
      · subst h0; exact .inl (by simp [bys])
      · have hsp := World.cell?_spot (hcell 0 (by omega))
        simp only [Addr.add] at hsp
        obtain ⟨b, off, spot⟩ := a
        simp at hsp
        subst hsp
        refine .inr ⟨b, off, rfl, fun j u hu => ?_⟩
        rw [bys, List.getElem?_map, List.getElem?_map] at hu
        obtain ⟨y, hy, rfl⟩ := Option.map_eq_some_iff.1 hu
        obtain ⟨z, hz2, rfl⟩ := Option.map_eq_some_iff.1 hy
        have hj : j < len := by have := (List.getElem?_eq_some_iff.1 hz2).1; simp at this; omega
        have h3 := hcell j (by omega)
        rw [Addr.add_lit] at h3
        rw [h3]
        have hg : zs.getD j 0 = z := by
          rw [List.getElem?_take] at hz2
          rw [if_pos hj] at hz2
          rw [List.getD_eq_getElem?_getD, hz2]; rfl
        have := hbd z (List.mem_of_mem_take (List.mem_of_getElem? hz2))
        rw [hg]
        congr 2
        omega
    · obtain ⟨z, hz2, rfl⟩ := List.mem_map.1 hd
      have := hbd z (List.mem_of_mem_take hz2)
      omega
    · rw [htl, hx]
      simp [dlen, lits]
      omega
end
end Go.Proofs.YtoochleabcjljaaGreatDoor

/- The narrower form's bound: a reading's elements are no more than its bulk. -/
namespace Go.Proofs.YtoochleabcjljaaGreatDoor
open Go.RowKit Go.WideShapes Go.ChangeShapes Go.Deep Go.Joins

section
variable {H : Type}
theorem bulk_pos (d : DataW H) : 1 ≤ Rows.uptoBulk d := by
  cases d with
  | lit l => cases l <;> simp [Rows.uptoBulk]
  | _ => simp [Rows.uptoBulk]
theorem bulkAll_len : ∀ l : List (DataW H), l.length ≤ Rows.uptoBulkAll l
  | [] => Nat.zero_le _
  | d :: r => by
    have h1 := bulk_pos d
    have h2 := bulkAll_len r
    simp only [Rows.uptoBulkAll, List.length_cons]; omega
theorem dlen_bulk (d : DataW H) : dlen d ≤ Rows.uptoBulk d := by
  cases d with
  | slice elems spare =>
    have := bulkAll_len elems
    simp only [dlen, Rows.uptoBulk]; omega
  | _ => simp [dlen]
theorem bulk_mem {d : DataW H} : ∀ {ds : List (DataW H)}, d ∈ ds → Rows.uptoBulk d ≤ Rows.uptoBulkAll ds
  | x :: r, h => by
    simp only [Rows.uptoBulkAll]
    rcases List.mem_cons.1 h with rfl | h2
    · omega
    · have := bulk_mem h2; omega
theorem upto_len {ds : List (DataW H)} (h : Rows.uptoSmall H ds = true) {d : DataW H} (hd : d ∈ ds) : dlen d ≤ 1048576 := by
  have h1 : Rows.uptoBulkAll ds ≤ 1048576 := by simpa [Rows.uptoSmall] using h
  have h2 := dlen_bulk d
  have h3 := bulk_mem hd
  omega
end
end Go.Proofs.YtoochleabcjljaaGreatDoor

/- Arguments read as data: channels, rows of numbers, frames. -/
namespace Go.Proofs.YtoochleabcjljaaGreatDoor
open Go.RowKit Go.WideShapes Go.ChangeShapes Go.Deep Go.Joins

theorem flatMap_at {α : Type} (f : α → List Value) (C : Nat) (hC : ∀ x, (f x).length = C) (l : List α) (j : Nat) (u : Value) (h : (l.flatMap f)[j]? = some u) : ∃ x, l[j / C]? = some x ∧ (f x)[j % C]? = some u := by
  induction l generalizing j with
  | nil => simp at h
  | cons a l ih =>
    rw [List.flatMap_cons] at h
    by_cases hj : j < C
    · rw [List.getElem?_append_left (by rw [hC]; exact hj)] at h
      exact ⟨a, by rw [Nat.div_eq_of_lt hj]; rfl, by rw [Nat.mod_eq_of_lt hj]; exact h⟩
    · rw [List.getElem?_append_right (by rw [hC]; omega), hC] at h
      obtain ⟨x, h1, h2⟩ := ih _ h
      rcases Nat.eq_zero_or_pos C with h0 | h0
      · have := hC x
        rw [h0] at this
        rw [List.length_eq_zero_iff.1 this] at h2
        simp at h2
      · have e1 : j / C = (j - C) / C + 1 := by rw [← Nat.sub_add_cancel (show C ≤ j by omega), Nat.add_div_right _ h0, Nat.add_sub_cancel]
        have e2 : j % C = (j - C) % C := (Nat.mod_eq_sub_mod (by omega))
        exact ⟨x, by rw [e1, List.getElem?_cons_succ]; exact h1, by rw [e2]; exact h2⟩

/-- elements of C cells each, one behind the other -/
theorem rd_list {α : Type} {W : World} (f : α → List Value) (C : Nat) (hC : ∀ x, (f x).length = C) (hC0 : 0 < C) (Q : α → Prop) (a : Addr) (len : Nat)
    (each : ∀ i, i < len → ∃ x, (∀ j u, (f x)[j]? = some u → W.cell? (a.add (i * C + j)) = some u) ∧ Q x) : ∃ xs : List α, xs.length = len ∧ Cells W (some a) (xs.flatMap f) ∧ ∀ x ∈ xs, Q x := by
  have key : ∃ xs : List α, xs.length = len ∧ ∀ i x, xs[i]? = some x → (∀ j u, (f x)[j]? = some u → W.cell? (a.add (i * C + j)) = some u) ∧ Q x := by
    induction len with
    | zero => exact ⟨[], rfl, by simp⟩
    | succ n ih =>
      obtain ⟨xs, h1, h2⟩ := ih fun i hi => each i (by omega)
      obtain ⟨y, hy⟩ := each n (by omega)
      refine ⟨xs ++ [y], by simp [h1], fun i x hx => ?_⟩
      rcases Nat.lt_or_ge i n with hi | hi
      · rw [List.getElem?_append_left (by omega)] at hx
        exact h2 i x hx
      · by_cases hin : i = n
        · subst hin
          rw [List.getElem?_append_right (by omega), h1, Nat.sub_self] at hx
          simp at hx
          subst hx
          exact hy
        · rw [List.getElem?_eq_none (by simp; omega)] at hx
          simp at hx
  obtain ⟨xs, h1, h2⟩ := key
  refine ⟨xs, h1, ?_, fun x hx => ?_⟩
  · rcases xs with _ | ⟨x0, r⟩
    · exact .inl rfl
    · have h3 := (h2 0 x0 rfl).1 0 ((f x0)[0]'(by rw [hC]; exact hC0)) (by simp [hC, hC0])
      rw [Nat.zero_mul, Nat.zero_add] at h3
      have hsp := World.cell?_spot h3
      simp only [Addr.add] at hsp
      obtain ⟨b, off, spot⟩ := a
      simp at hsp
      subst hsp
      refine .inr ⟨b, off, rfl, fun j u hu => ?_⟩
      obtain ⟨x, g1, g2⟩ := flatMap_at f C hC _ _ _ hu
      have := (h2 _ x g1).1 _ u g2
      rw [Addr.add_lit, Nat.mul_comm, Nat.div_add_mod] at this
      exact this
  · obtain ⟨i, hi, rfl⟩ := List.mem_iff_getElem.1 hx
    exact (h2 i _ (List.getElem?_eq_getElem hi)).2

section
variable {H : Type} {enc : TypeId × Value → H}
theorem wf_bd {x : Int} (h : (Lit.int .i64 x).wf = true) : -9223372036854775808 ≤ x ∧ x ≤ 9223372036854775807 := by
  simp only [Lit.wf, Bool.and_eq_true, decide_eq_true_eq] at h
  exact h

set_option maxRecDepth 100000 in
theorem rd_chans {W : World} {base : Nat} {sp : Nat → Bool} {held : Bool} {fuel : Nat} {cs : List Value} {x : DataW H × List MemPlace} (h : DataW.trod enc Tryz.prog W base sp held fuel 37 cs = some x) :
    ∃ (ao : Option Addr) (bs : List Chan) (cap : Nat), cs = [.slice ao bs.length cap] ∧ BookIn W ao bs cap := by
  rcases open_slice Tryz.underlying37 h with ⟨rfl, _⟩ | ⟨a, len, cap, m, n, D, Pl, rfl, _, hl, hm, hmm, _, hx⟩
  · exact ⟨none, [], 0, rfl, .inl rfl, by decide, Nat.le_refl _, by decide, by simp, by simp⟩
  · have hlm : len ≤ m := by rw [hmm]; split <;> omega
    have hce : Tryz.prog.cellsOf 106 = 3 := by kernel_rfl
    obtain ⟨bs, h1, h2, h3⟩ := rd_list (W := W) (fun c : Chan => [.string c.name, .int .i64 c.rate, .int .i64 c.bits]) 3 (fun _ => rfl) (by decide) (fun c => c.name.size ≤ 9223372036854775807 ∧ -9223372036854775808 ≤ c.rate) a len (fun i hi => by
      obtain ⟨cs', g1, g2⟩ := hx i (by omega)
      rw [hce] at g1
      obtain ⟨_, hlen, hat⟩ := World.cells?_some g1
      obtain ⟨y0, y1, y2, k, _, _, t0, t1, t2⟩ := trod_struct3 Tryz.underlying106 g2
      match cs', hlen with
      | [c0, c1, c2], _ =>
        have e1 : Tryz.prog.cellsOf 3 = 1 := by kernel_rfl
        have e2 : Tryz.prog.cellsOf 9 = 1 := by kernel_rfl
        simp only [e1, e2, List.drop_zero, List.take_succ_cons, List.take_zero, List.drop_succ_cons] at t0 t1 t2
        obtain ⟨s, q0, _, ws⟩ := DataW.trod_string Tryz.underlying9 t0
        obtain ⟨r, q1, _, wr⟩ := DataW.trod_int Tryz.underlying3 t1
        obtain ⟨b, q2, _, wb⟩ := DataW.trod_int Tryz.underlying3 t2
        simp only [List.cons.injEq, and_true] at q0 q1 q2
        subst q0 q1 q2
        refine ⟨⟨s, r, b⟩, fun j u hu => ?_, by unfold maxLen at ws; exact ws, (wf_bd wr).1⟩
        have hj : j < 3 := (List.getElem?_eq_some_iff.1 hu).1
        have := hat j hj
        rw [← Deep.add_add, this]; exact hu)
    refine ⟨some a, bs, cap, by rw [h1], h2, by unfold maxLen at hm; omega, by omega, by unfold maxLen at hm; omega, fun c hc => (h3 c hc).1, fun c hc => (h3 c hc).2⟩

theorem rd_rows {W : World} {base : Nat} {sp : Nat → Bool} {held : Bool} {fuel : Nat} {cs : List Value} {x : DataW H × List MemPlace} (h : DataW.trod enc Tryz.prog W base sp held fuel 41 cs = some x) :
    ∃ (ao : Option Addr) (xss : List (List Int)) (cap : Nat), cs = [.slice ao xss.length cap] ∧ xss.length ≤ 9223372036854775807 ∧ ∃ vs, Cells W ao vs ∧ RowsV W vs xss := by
  rcases open_slice1 Tryz.underlying41 (by kernel_rfl) h with ⟨rfl, _⟩ | ⟨a, len, cap, m, n, V, D, Pl, rfl, _, hl, hm, hmm, _, hx⟩
  · exact ⟨none, [], 0, rfl, by decide, [], .inl rfl, rfl, by simp⟩
  · have hlm : len ≤ m := by rw [hmm]; split <;> omega
    obtain ⟨ps, h1, h2, h3⟩ := rd_list (W := W) (fun p : Value × List Int => [p.1]) 1 (fun _ => rfl) (by decide) (fun p => RowV W p.1 p.2) a len (fun i hi => by
      obtain ⟨g1, g2⟩ := hx i (by omega)
      obtain ⟨ax, xs, cx, e, hc, hl1, hl2, _⟩ := rd_ints Tryz.underlying22 Tryz.underlying3 (by kernel_rfl) g2
      simp only [List.cons.injEq, and_true] at e
      refine ⟨(V i, xs), fun j u hu => ?_, ax, cx, e, hc, by show xs.length ≤ _; omega⟩
      have hj : j = 0 := by have : j < 1 := (List.getElem?_eq_some_iff.1 hu).1; omega
      subst hj
      simp at hu
      rw [Nat.mul_one, Nat.add_zero, g1, hu])
    have hfm : ps.flatMap (fun p : Value × List Int => [p.1]) = ps.map (·.1) := by
      clear h1 h2 h3; induction ps with
      | nil => rfl
      | cons p ps ih => simp only [List.flatMap_cons, List.map_cons, ih]; rfl
    rw [hfm] at h2
    refine ⟨some a, ps.map (·.2), cap, by rw [List.length_map, h1], by rw [List.length_map, h1]; unfold maxLen at hm; omega, ps.map (·.1), h2, by simp, fun i v xs hv hxs => ?_⟩
    rw [List.getElem?_map] at hv hxs
    obtain ⟨p, hp, rfl⟩ := Option.map_eq_some_iff.1 hv
    rw [hp] at hxs
    simp at hxs
    subst hxs
    exact h3 p (List.mem_of_getElem? hp)

set_option maxRecDepth 100000 in
theorem rd_frames {W : World} {base : Nat} {sp : Nat → Bool} {held : Bool} {fuel : Nat} {cs : List Value} {x : DataW H × List MemPlace} (h : DataW.trod enc Tryz.prog W base sp held fuel 38 cs = some x) :
    ∃ (al : Option Addr) (l : List Frm) (cap : Nat), cs = [.slice al l.length cap] ∧ RecIn W al l := by
  rcases open_slice Tryz.underlying38 h with ⟨rfl, _⟩ | ⟨a, len, cap, m, n, D, Pl, rfl, _, hl, hm, hmm, _, hx⟩
  · exact ⟨none, [], 0, rfl, .inl rfl, by decide, by simp⟩
  · have hlm : len ≤ m := by rw [hmm]; split <;> omega
    have hce : Tryz.prog.cellsOf 43 = 2 := by kernel_rfl
    obtain ⟨l, h1, h2, h3⟩ := rd_list (W := W) (fun f : Frm => [.int .i64 f.st, .slice f.a f.xss.length f.c]) 2 (fun _ => rfl) (by decide) (fun f => FrmIn W f) a len (fun i hi => by
      obtain ⟨cs', g1, g2⟩ := hx i (by omega)
      rw [hce] at g1
      obtain ⟨_, hlen, hat⟩ := World.cells?_some g1
      obtain ⟨y0, y1, k, _, _, t0, t1⟩ := trod_struct2 Tryz.underlying43 g2
      match cs', hlen with
      | [c0, c1], _ =>
        have e1 : Tryz.prog.cellsOf 3 = 1 := by kernel_rfl
        have e2 : Tryz.prog.cellsOf 41 = 1 := by kernel_rfl
        simp only [e1, e2, List.drop_zero, List.take_succ_cons, List.take_zero, List.drop_succ_cons] at t0 t1
        obtain ⟨r, q0, _, wr⟩ := DataW.trod_int Tryz.underlying3 t0
        obtain ⟨as', xss, cs2, q1, hl1, hv⟩ := rd_rows t1
        simp only [List.cons.injEq, and_true] at q0 q1
        subst q0 q1
        refine ⟨⟨r, as', cs2, xss⟩, fun j u hu => ?_, hl1, hv⟩
        have hj : j < 2 := (List.getElem?_eq_some_iff.1 hu).1
        have := hat j hj
        rw [← Deep.add_add, this]; exact hu)
    exact ⟨some a, l, cap, by rw [h1], h2, by unfold maxLen at hm; omega, h3⟩
end
end Go.Proofs.YtoochleabcjljaaGreatDoor
