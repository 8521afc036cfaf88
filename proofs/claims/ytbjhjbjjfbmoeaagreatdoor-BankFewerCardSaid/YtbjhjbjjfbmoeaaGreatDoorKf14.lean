/- Parts of a proof, in build order: YD, YE, YF, YG, YK. -/
import Derived.Test.YtbjhjbjjfbmoeaaGreatDoorKf13
import Derived.Deep.RegionHeld

/- A cover: covering of package bank. -/
namespace Go.Proofs.YtbjhjbjjfbmoeaaGreatDoor
open Go.RowKit Go.Shelf

/-- what covering says of a family, a bank and a least match -/
def covE (L a b c d : Int) (cs : List (Int × Int)) (s : ByteArray) : Int := if famOK L a b c d = false then 71 else if bankOK L cs = false then 72 else if barS s = none then 74 else 0
def CovRes (L a b c d : Int) (cs : List (Int × Int)) (s : ByteArray) (w : World) (e : Ending) (w' : World) : Prop :=
  ((covE L a b c d cs s = 0 ∧ famOK L a b c d = true ∧ bankOK L cs = true ∧ ∃ (C : Nat) (bo : Option Addr) (cb N D : Nat), e = .returned (.tuple #[.pointer (some ⟨C, 0, none⟩), .int .i64 0]) ∧ barS s = some (N, D) ∧ w'.heap[C]? = some (.cells #[.int .i64 L, .int .i64 a, .int .i64 b, .int .i64 c, .int .i64 d, .slice bo cs.length cb, .int .i64 N, .int .i64 D] 185 (0, 0)) ∧ Cells w' bo (shpL L (wvs L cs)))
    ∨ (covE L a b c d cs s ≠ 0 ∧ e = .returned (.tuple #[.pointer none, .int .i64 (covE L a b c d cs s)]))) ∧ Below w.heap.size w w'
theorem covE_0 {L a b c d : Int} {cs : List (Int × Int)} {s : ByteArray} (h : covE L a b c d cs s = 0) : famOK L a b c d = true ∧ bankOK L cs = true ∧ ∃ N D, barS s = some (N, D) := by
  unfold covE at h
  split at h
  · cases h
  · rename_i h1
    split at h
    · cases h
    · rename_i h2
      split at h
      · cases h
      · rename_i h3
        refine ⟨by simpa using h1, by simpa using h2, ?_⟩
        rcases hb : barS s with _ | ⟨N, D⟩
        · exact absurd hb h3
        · exact ⟨N, D, rfl⟩
theorem cov_no {L a b c d : Int} {cs : List (Int × Int)} {s : ByteArray} {w w' : World} {v : Int} (h : covE L a b c d cs s = v) (h0 : v ≠ 0) (hb : Below w.heap.size w w') : CovRes L a b c d cs s w (.returned (.tuple #[.pointer none, .int .i64 v])) w' := by subst h; exact ⟨.inr ⟨h0, rfl⟩, hb⟩

set_option maxRecDepth 100000 in
set_option maxHeartbeats 2000000 in
theorem covering_any (L a b c d : Int) (cs : List (Int × Int)) (ao : Option Addr) (cap : Nat) (s : ByteArray) (w : World) (ht : Tab w) (hs : s.size ≤ 140737488351232) (hc : Cells w ao (prs cs)) (hl : cs.length ≤ 9223372036854775807) (hcap : cs.length ≤ cap) (hcap2 : cap ≤ 9223372036854775807) :
    Calls Tryz.prog 106 #[.agg #[.int .i64 L, .int .i64 a, .int .i64 b, .int .i64 c, .int .i64 d], .slice ao cs.length cap, .string s] w (CovRes L a b c d cs s w) := by
  obtain ⟨W0, hW0⟩ : ∃ W0, w.alloc (.cells #[.int .i64 L, .int .i64 a, .int .i64 b, .int .i64 c, .int .i64 d] 81) = W0 := ⟨_, rfl⟩
  have hB0 : Below w.heap.size w W0 := by rw [← hW0]; exact (Below.refl _ w).alloc (Nat.le_refl _) _
  have hs0 : W0.heap.size = w.heap.size + 1 := by rw [← hW0]; simp
  have r0 : Blk W0 w.heap.size 81 #[.int .i64 L, .int .i64 a, .int .i64 b, .int .i64 c, .int .i64 d] := by rw [← hW0]; exact heap_alloc_new w _
  have HKB : Hid (∀ wx, Below W0.heap.size W0 wx → Blk wx w.heap.size 81 #[.int .i64 L, .int .i64 a, .int .i64 b, .int .i64 c, .int .i64 d] ∧ Below w.heap.size w wx ∧ Tab wx ∧ Cells wx ao (prs cs)) := Lib.hid (fun wx hb => by
    have hbw := hB0.trans (hb.mono (by omega))
    exact ⟨r0.below hb (by omega), hbw, ht.below hbw (Nat.le_refl _), hc.below hbw (Nat.le_refl _)⟩)
  have hfo := fun W => familyOK_any L a b c d W
  have hwv := fun (W : World) (h : Cells W ao (prs cs)) => waves_any L cs ao cap W h hl hcap hcap2
  have hbr := fun (W : World) (h : Tab W) => barOf_any s W h hs
  have hE : covE L a b c d cs s = if famOK L a b c d = false then 71 else if bankOK L cs = false then 72 else if barS s = none then 74 else 0 := rfl
  have r0' := r0
  have q0 : W0.cell? ⟨w.heap.size, 0, none⟩ = some (.int .i64 L) := r0.cell 0
  have q1 : W0.cell? ⟨w.heap.size, 1, none⟩ = some (.int .i64 a) := r0.cell 1
  have q2 : W0.cell? ⟨w.heap.size, 2, none⟩ = some (.int .i64 b) := r0.cell 2
  have q3 : W0.cell? ⟨w.heap.size, 3, none⟩ = some (.int .i64 c) := r0.cell 3
  have q4 : W0.cell? ⟨w.heap.size, 4, none⟩ = some (.int .i64 d) := r0.cell 4
  have HW0 := Lib.hid hW0; have HWV := Lib.hid hwv; have HBR := Lib.hid hbr; have HE := Lib.hid hE; have HB0 := Lib.hid hB0
  clear hW0 hwv hbr hE r0 r0' hc ht hs hs0 hB0
  cases hf : famOK L a b c d with
  | false =>
    rw [hf] at hfo
    have HFO := Lib.hid hfo; have HF := Lib.hid hf
    clear hfo hf
    go_enter Tryz.func106, Tryz.ntmps106
    go_wp2_with (go_at_call 114; refine (HFO.out _).mono ?_; rintro e w1 ⟨rfl, hb1⟩)
    rw [HW0.out] at hb1
    go_ret2
    exact cov_no (by rw [HE.out, HF.out]; rfl) (by decide) (HB0.out.trans (hb1.mono HB0.out.size))
  | true =>
    rw [hf] at hfo
    have HFO := Lib.hid hfo; have HF := Lib.hid hf
    clear hfo hf
    go_enter Tryz.func106, Tryz.ntmps106
    go_wp2_with fail
    rw [HW0.out]
    refine (HFO.out _).mono ?_
    rintro e w1 ⟨rfl, hb1⟩
    have p0 := cell_keep q0 hb1 (Nat.le_refl _)
    go_wp2_with fail
    refine (HWV.out _ (HKB.out _ hb1).2.2.2).mono ?_
    rintro e w2 ⟨hr2, hb2⟩
    have hb02 := hb1.trans (hb2.mono hb1.size)
    cases hbk : bankOK L cs with
    | false =>
      rw [hbk] at hr2
      obtain rfl : e = _ := hr2
      have HBK := Lib.hid hbk
      clear hbk
      go_wp2_with fail
      go_ret2
      exact cov_no (by rw [HE.out, HF.out, HBK.out]; rfl) (by decide) (HKB.out _ hb02).2.1
    | true =>
      rw [hbk] at hr2
      obtain ⟨bo, cb, rfl, hcs⟩ := hr2
      have HBK := Lib.hid hbk; have HCS := Lib.hid hcs
      clear hbk hcs p0 q0 q1 q2 q3 q4
      go_wp2_with fail
      refine (HBR.out _ (HKB.out _ hb02).2.2.1).mono ?_
      rintro e w3 ⟨hr3, hb3⟩
      have hb03 := hb02.trans (hb3.mono hb02.size)
      cases hbs : barS s with
      | none =>
        rw [hbs] at hr3
        obtain ⟨N, D, rfl⟩ := hr3
        have HBS := Lib.hid hbs
        clear hbs
        go_wp2_with fail
        go_ret2
        have hbw := (HKB.out _ hb03).2.1
        exact cov_no (by rw [HE.out, HF.out, HBK.out, if_neg (by decide), if_neg (by decide), if_pos HBS.out]) (by decide) (hbw.alloc hbw.size _)
      | some t =>
        obtain ⟨N, D⟩ := t
        rw [hbs] at hr3
        obtain rfl : e = _ := hr3
        have HBS := Lib.hid hbs
        obtain ⟨hk, hbw, -, -⟩ := HKB.out _ hb03
        have q0 := hk.cell 0
        have q1 := hk.cell 1
        have q2 := hk.cell 2
        have q3 := hk.cell 3
        have q4 := hk.cell 4
        simp only [List.getElem?_toArray, List.getElem?_cons_succ, List.getElem?_cons_zero] at q0 q1 q2 q3 q4
        have hlt := hk.lt
        have HCS3 := Lib.hid (HCS.out.below hb3 (Nat.le_refl _))
        clear hbs hk hb1 hb2 hb3 hb02 hb03
        go_wp2_with fail
        go_ret2
        have hal : Below w3.heap.size w3 ((w3.alloc (.cells #[.int .i64 N, .int .i64 D] 183)).alloc (.cells #[.int .i64 L, .int .i64 a, .int .i64 b, .int .i64 c, .int .i64 d, .slice bo cs.length cb, .int .i64 N, .int .i64 D] 185)) := ((Below.refl _ _).alloc (Nat.le_refl _) _).alloc (by simp) _
        refine ⟨.inl ⟨?_, HF.out, HBK.out, w3.heap.size + 1, bo, cb, N, D, rfl, HBS.out, heap_alloc2_new w3 _ _, HCS3.out.below hal (Nat.le_refl _)⟩, hbw.trans (hal.mono hbw.size)⟩
        rw [HE.out, HF.out, HBK.out, if_neg (by decide), if_neg (by decide), if_neg (by rw [HBS.out]; intro h; cases h)]
end Go.Proofs.YtbjhjbjjfbmoeaaGreatDoor

/- The bank: Misses and Prove. -/
namespace Go.Proofs.YtbjhjbjjfbmoeaaGreatDoor
open Go.RowKit Go.Shelf

/-- the points that a bank misses -/
def misR (L a b c d : Int) (cs : List (Int × Int)) (s : ByteArray) : List Int :=
  if covE L a b c d cs s = 0 then (match barS s with | some (N, D) => misP N D L (wvs L cs) (ptsAll L a c (d - c + 1).toNat (b - a + 1).toNat) | none => []) else []
/-- the fits of all points -/
def prfR (L a b c d : Int) (cs : List (Int × Int)) (s : ByteArray) : List (Int × Int) :=
  if covE L a b c d cs s = 0 then (match barS s with | some (N, D) => prfL N D L (wvs L cs) (ptsAll L a c (d - c + 1).toNat (b - a + 1).toNat) | none => []) else []
theorem misR_no {L a b c d : Int} {cs : List (Int × Int)} {s : ByteArray} (h : covE L a b c d cs s ≠ 0) : misR L a b c d cs s = [] ∧ prfR L a b c d cs s = [] := ⟨if_neg h, if_neg h⟩
theorem misR_yes {L a b c d : Int} {cs : List (Int × Int)} {s : ByteArray} {N D : Nat} (h : covE L a b c d cs s = 0) (hb : barS s = some (N, D)) : misR L a b c d cs s = misP N D L (wvs L cs) (ptsAll L a c (d - c + 1).toNat (b - a + 1).toNat) ∧ prfR L a b c d cs s = prfL N D L (wvs L cs) (ptsAll L a c (d - c + 1).toNat (b - a + 1).toNat) := by
  unfold misR prfR
  rw [if_pos h, if_pos h, hb]
  exact ⟨rfl, rfl⟩
theorem wvs_bd (L : Int) (cs : List (Int × Int)) : ∀ y ∈ wvs L cs, y.length = 64 ∧ ∀ x ∈ y, -127 ≤ x ∧ x ≤ 127 := by
  intro y hy
  obtain ⟨c, _, rfl⟩ := List.mem_map.1 hy
  exact ⟨wav_length _ _ _, wav_bd _ _ _⟩
/-- fits, of a cover that covering made -/
theorem fits_cov {L a b c d : Int} {cs : List (Int × Int)} {s : ByteArray} {C : Nat} {bo : Option Addr} {cb N D : Nat} {w : World} (h : covE L a b c d cs s = 0) (hbs : barS s = some (N, D)) (hf : famOK L a b c d = true) (hbk : bankOK L cs = true)
    (hC : w.heap[C]? = some (.cells #[.int .i64 L, .int .i64 a, .int .i64 b, .int .i64 c, .int .i64 d, .slice bo cs.length cb, .int .i64 N, .int .i64 D] 185 (0, 0))) (hc : Cells w bo (shpL L (wvs L cs))) :
    Calls Tryz.prog 107 #[.pointer (some ⟨C, 0, none⟩)] w fun r w' => (∃ p k cp m cm, r = .returned (.tuple #[.slice p k cp, .slice m (misR L a b c d cs s).length cm]) ∧ k = (prfR L a b c d cs s).length ∧ Cells w' p (prs (prfR L a b c d cs s)) ∧ Cells w' m ((misR L a b c d cs s).map (Value.int .i64))) ∧ Below w.heap.size w w' := by
  obtain ⟨h1, h2⟩ := misR_yes h hbs
  obtain ⟨_, _, hN, hD, _, _⟩ := barS_some hbs
  have hlen : (wvs L cs).length = cs.length := by simp [wvs]
  have h64 : cs.length ≤ 64 := by
    simp only [bankOK, Bool.and_eq_true, decide_eq_true_eq] at hbk
    exact hbk.1.1
  have := fits_any (N : Int) (D : Int) a b c d L (wvs L cs) C bo cb w hf (wvs_bd L cs) (by omega) (by omega) (by omega) (by omega) (by omega) (by rw [hlen]; exact hC) hc
  refine this.mono ?_
  rintro r w' ⟨⟨p, cp, m, cm, rfl, hp, hm⟩, hb⟩
  rw [h1, h2]
  exact ⟨⟨p, _, cp, m, cm, rfl, by simp [prfL], hp, hm⟩, hb⟩

set_option maxRecDepth 100000 in
set_option maxHeartbeats 2000000 in
theorem Misses_any (L a b c d : Int) (cs : List (Int × Int)) (ao : Option Addr) (cap : Nat) (s : ByteArray) (w : World) (ht : Tab w) (hs : s.size ≤ 140737488351232) (hc : Cells w ao (prs cs)) (hl : cs.length ≤ 9223372036854775807) (hcap : cs.length ≤ cap) (hcap2 : cap ≤ 9223372036854775807) :
    Calls Tryz.prog 55 #[.agg #[.int .i64 L, .int .i64 a, .int .i64 b, .int .i64 c, .int .i64 d], .slice ao cs.length cap, .string s] w fun e w' => (∃ m cm, e = .returned (.tuple #[.slice m (misR L a b c d cs s).length cm, .int .i64 (covE L a b c d cs s)]) ∧ Cells w' m ((misR L a b c d cs s).map (Value.int .i64))) ∧ Below w.heap.size w w' := by
  obtain ⟨W0, hW0⟩ : ∃ W0, w.alloc (.cells #[.int .i64 L, .int .i64 a, .int .i64 b, .int .i64 c, .int .i64 d] 81) = W0 := ⟨_, rfl⟩
  have hB0 : Below w.heap.size w W0 := by rw [← hW0]; exact (Below.refl _ w).alloc (Nat.le_refl _) _
  have hcv := covering_any L a b c d cs ao cap s W0 (ht.below hB0 (Nat.le_refl _)) hs (hc.below hB0 (Nat.le_refl _)) hl hcap hcap2
  have HW0 := Lib.hid hW0; have HCV := Lib.hid hcv; have HB0 := Lib.hid hB0
  clear hW0 hcv ht hc hB0
  go_enter Tryz.func55, Tryz.ntmps55
  go_wp2_with fail
  rw [HW0.out]
  refine HCV.out.mono ?_
  rintro e w1 ⟨⟨hE, hf, hbk, C, bo, cb, N, D, rfl, hbs, hC, hcs⟩ | ⟨hE, rfl⟩, hb1⟩
  · have hft := fits_cov hE hbs hf hbk hC hcs
    have HFT := Lib.hid hft; have HE := Lib.hid hE
    have hbw := HB0.out.trans (hb1.mono HB0.out.size)
    clear hft hE hf hbk hbs hC hcs hb1
    go_wp2_with fail
    refine HFT.out.mono ?_
    rintro e w2 ⟨⟨p, k, cp, m, cm, rfl, -, -, hm⟩, hb2⟩
    have hbw2 := hbw.trans (hb2.mono hbw.size)
    have HM := Lib.hid hm
    clear hm hb2
    go_wp2_with fail
    go_ret2
    refine ⟨⟨m, cm, ?_, HM.out⟩, hbw2⟩
    rw [HE.out]; rfl
  · have hbw := HB0.out.trans (hb1.mono HB0.out.size)
    obtain ⟨e1, -⟩ := misR_no hE
    have HE1 := Lib.hid e1
    clear e1 hb1
    generalize hvv : covE L a b c d cs s = v at hE ⊢
    have HVV := Lib.hid hvv
    clear hvv
    have hv : (v != 0) = true := by simpa using hE
    go_wp2_with fail
    go_ret2
    rw [HE1.out, HVV.out]
    exact ⟨⟨none, 0, rfl, Cells.nil _ _⟩, hbw⟩
end Go.Proofs.YtbjhjbjjfbmoeaaGreatDoor

/- The bank's covers in plain words: more chirps never miss more, a greater least match never less; an accepted proof means that nothing is missed. -/
namespace Go.Proofs.YtbjhjbjjfbmoeaaGreatDoor
open Go.RowKit Go.Shelf

theorem misI_mem {α : Type} {f : α → Bool} {l : List α} : ∀ {k : Nat} {v : Int}, v ∈ misI f k l ↔ ∃ (i : Nat) (u : α), v = ((k + i : Nat) : Int) ∧ l[i]? = some u ∧ f u = false := by
  induction l with
  | nil => intro k v; simp [misI]
  | cons x r ih =>
    intro k v
    have hs : v ∈ misI f (k + 1) r ↔ ∃ (i : Nat) (u : α), v = ((k + (i + 1) : Nat) : Int) ∧ (x :: r)[i + 1]? = some u ∧ f u = false := by
      rw [ih]
      refine exists_congr fun i => exists_congr fun u => ?_
      rw [List.getElem?_cons_succ, show k + 1 + i = k + (i + 1) by omega]
    simp only [misI]
    split
    · rename_i hx
      rw [hs]
      constructor
      · rintro ⟨i, u, h1, h2, h3⟩; exact ⟨i + 1, u, h1, h2, h3⟩
      · rintro ⟨i, u, h1, h2, h3⟩
        cases i with
        | zero => simp only [List.getElem?_cons_zero, Option.some.injEq] at h2; subst h2; rw [hx] at h3; cases h3
        | succ i => exact ⟨i, u, h1, h2, h3⟩
    · rename_i hx
      rw [List.mem_cons, hs]
      constructor
      · rintro (h | ⟨i, u, h1, h2, h3⟩)
        · exact ⟨0, x, by simpa using h, rfl, by simpa using hx⟩
        · exact ⟨i + 1, u, h1, h2, h3⟩
      · rintro ⟨i, u, h1, h2, h3⟩
        cases i with
        | zero => exact .inl (by simpa using h1)
        | succ i => exact .inr ⟨i, u, h1, h2, h3⟩
theorem misI_sub {α : Type} {f g : α → Bool} {l : List α} {k : Nat} (h : ∀ x ∈ l, f x = true → g x = true) {v : Int} (hv : v ∈ misI g k l) : v ∈ misI f k l := by
  obtain ⟨i, u, h1, h2, h3⟩ := misI_mem.1 hv
  refine misI_mem.2 ⟨i, u, h1, h2, ?_⟩
  rw [Bool.eq_false_iff]
  intro hf
  rw [h u (List.mem_of_getElem? h2) hf] at h3
  cases h3
theorem misI_nil {α : Type} {f : α → Bool} {l : List α} {k : Nat} (h : ∀ x ∈ l, f x = true) : misI f k l = [] := by
  rw [List.eq_nil_iff_forall_not_mem]
  intro v hv
  obtain ⟨i, u, _, h2, h3⟩ := misI_mem.1 hv
  rw [h u (List.mem_of_getElem? h2)] at h3
  cases h3
/-- a point that is served: by one of the waves -/
theorem fitF_is {g : List Int → Option Sh} {ys : List (List Int)} : (fitF g ys).isSome = true ↔ ∃ y ∈ ys, (g y).isSome = true := by
  induction ys with
  | nil => simp [fitF]
  | cons y r ih =>
    simp only [fitF]
    rcases hg : g y with _ | s
    · simp only [Option.isSome_map, ih]
      constructor
      · rintro ⟨z, h1, h2⟩; exact ⟨z, List.mem_cons_of_mem _ h1, h2⟩
      · rintro ⟨z, h1, h2⟩
        rcases List.mem_cons.1 h1 with rfl | h1
        · rw [hg] at h2; cases h2
        · exact ⟨z, h1, h2⟩
    · simp only [Option.isSome_some, true_iff]
      exact ⟨y, by simp, by rw [hg]; rfl⟩
theorem srv_is {n d : Int} {L : Nat} (hL : L ≤ 64) {xs ys : List Int} : (srv n d L xs ys).isSome = true ↔ ∃ s : Int, 1 - (L : Int) ≤ s ∧ s ≤ (L : Int) - 1 ∧ rchB n d xs ys L s = true := by
  unfold srv fstS
  rw [List.find?_isSome]
  constructor
  · rintro ⟨x, hx, h⟩
    obtain ⟨h1, h2⟩ := (shl_mem hL).1 hx
    exact ⟨x.1, h1, h2, h⟩
  · rintro ⟨s, h1, h2, h⟩
    refine ⟨⟨s, by omega, by omega⟩, (shl_mem hL).2 ⟨h1, h2⟩, h⟩
/-- a less least match is reached where a greater one is -/
theorem rchB_le {n1 d1 n2 d2 L s : Int} {xs ys : List Int} (hd2 : 0 < d2) (hd1 : 0 ≤ d1) (hle : n1 * d2 ≤ n2 * d1) (h : rchB n2 d2 xs ys L s = true) : rchB n1 d1 xs ys L s = true := by
  unfold rchB at h ⊢
  rw [Bool.and_eq_true, decide_eq_true_eq, decide_eq_true_eq] at h ⊢
  refine ⟨h.1, ?_⟩
  have h2 := h.2
  have hA : 0 ≤ ovl xs xs L 0 * ovl ys ys L 0 := Int.mul_nonneg (norm_nn _ _) (norm_nn _ _)
  generalize ovl xs xs L 0 * ovl ys ys L 0 = A at *
  generalize ovl xs ys L s * ovl xs ys L s = O at *
  refine Int.le_of_mul_le_mul_right ?_ hd2
  have e1 := Int.mul_le_mul_of_nonneg_left hle hA
  have e2 := Int.mul_le_mul_of_nonneg_right h2 hd1
  calc A * n1 * d2 = A * (n1 * d2) := Int.mul_assoc _ _ _
    _ ≤ A * (n2 * d1) := e1
    _ = A * n2 * d1 := (Int.mul_assoc _ _ _).symm
    _ ≤ O * d2 * d1 := e2
    _ = O * d1 * d2 := by rw [Int.mul_assoc, Int.mul_comm d2 d1, ← Int.mul_assoc]

/-- more waves serve more -/
theorem mis_more {n d L : Int} {y : List Int} {ys : List (List Int)} {l : List (Pt L)} : ∀ v ∈ misP n d L (y :: ys) l, v ∈ misP n d L ys l := fun v hv => misI_sub (fun x _ h => by
  obtain ⟨z, h1, h2⟩ := fitF_is.1 h
  exact fitF_is.2 ⟨z, List.mem_cons_of_mem _ h1, h2⟩) hv
/-- a greater least match is missed more -/
theorem mis_bar {n1 d1 n2 d2 L : Int} {ys : List (List Int)} {l : List (Pt L)} (hL : L ≤ 64) (hd2 : 0 < d2) (hd1 : 0 ≤ d1) (hle : n1 * d2 ≤ n2 * d1) : ∀ v ∈ misP n1 d1 L ys l, v ∈ misP n2 d2 L ys l := fun v hv => misI_sub (fun x _ h => by
  obtain ⟨z, h1, h2⟩ := fitF_is.1 h
  refine fitF_is.2 ⟨z, h1, ?_⟩
  obtain ⟨s, h3, h4, h5⟩ := (srv_is (by omega)).1 h2
  exact (srv_is (by omega)).2 ⟨s, h3, h4, rchB_le hd2 hd1 hle h5⟩) hv

theorem bankOK_tail {L : Int} {c : Int × Int} {r : List (Int × Int)} (h : bankOK L (c :: r) = true) : bankOK L r = true := by
  simp only [bankOK, Bool.and_eq_true, decide_eq_true_eq, List.all_cons, List.length_cons, List.nodup_cons] at h ⊢
  exact ⟨⟨by omega, h.1.2.2⟩, h.2.2⟩
theorem covE_tail {L a b c d : Int} {x : Int × Int} {r : List (Int × Int)} {s : ByteArray} (h : covE L a b c d (x :: r) s = 0) : covE L a b c d r s = 0 := by
  obtain ⟨h1, h2, N, D, h3⟩ := covE_0 h
  rw [covE, h1, bankOK_tail h2, if_neg (by decide), if_neg (by decide), if_neg (by rw [h3]; intro h; cases h)]
theorem few_law {L a b c d : Int} {x : Int × Int} {r : List (Int × Int)} {s : ByteArray} (h : covE L a b c d (x :: r) s = 0) : ∀ v ∈ misR L a b c d (x :: r) s, v ∈ misR L a b c d r s := by
  obtain ⟨_, _, N, D, h3⟩ := covE_0 h
  rw [(misR_yes h h3).1, (misR_yes (covE_tail h) h3).1]
  exact mis_more
/-- how two least matches compare -/
theorem bar_cmp {s t : ByteArray} {N D M E : Nat} (hs : barS s = some (N, D)) (ht : barS t = some (M, E)) : cmpE s t = 0 ∧ cmpV s t = (if (N : Int) * E = (M : Int) * D then 0 else if (N : Int) * E < (M : Int) * D then -1 else 1) := by
  obtain ⟨_, h1, _⟩ := barS_some hs
  obtain ⟨_, h2, _⟩ := barS_some ht
  unfold cmpE cmpV
  rw [h1, h2]
  exact ⟨rfl, rfl⟩
theorem bar_law {L a b c d : Int} {cs : List (Int × Int)} {s t : ByteArray} (h1 : covE L a b c d cs s = 0) (h2 : covE L a b c d cs t = 0) :
    cmpE s t = 0 ∧ (cmpV s t ≤ 0 → ∀ v ∈ misR L a b c d cs s, v ∈ misR L a b c d cs t) ∧ (0 ≤ cmpV s t → ∀ v ∈ misR L a b c d cs t, v ∈ misR L a b c d cs s) := by
  obtain ⟨hf, _, N, D, hs⟩ := covE_0 h1
  obtain ⟨_, _, M, E, ht⟩ := covE_0 h2
  obtain ⟨e0, ev⟩ := bar_cmp hs ht
  have hD := (barS_some hs).2.2.2.2.2
  have hE := (barS_some ht).2.2.2.2.2
  have hL := (fam_true hf)
  rw [(misR_yes h1 hs).1, (misR_yes h2 ht).1, ev]
  refine ⟨e0, fun hc => mis_bar (by omega) (by omega) (by omega) ?_, fun hc => mis_bar (by omega) (by omega) (by omega) ?_⟩
  · split at hc
    · omega
    · split at hc <;> omega
  · split at hc
    · omega
    · split at hc <;> omega
/-- what Proves says -/
def prvI (n d L : Int) (ys : List (List Int)) (x : Pt L) (f : Int × Int) : Bool := inB 0 f.1 ((ys.length : Int) - 1) && inB (1 - L) f.2 (L - 1) && rchB n d (wav L x.1.1 x.1.2) (ys.getD f.1.toNat []) L f.2
def prvL (n d L : Int) (ys : List (List Int)) : List (Pt L) → List (Int × Int) → Bool
  | [], fs => decide (fs.length = 0)
  | _ :: _, [] => false
  | x :: r, f :: fs => prvI n d L ys x f && prvL n d L ys r fs
theorem prvL_all {n d L : Int} {ys : List (List Int)} (hL1 : 1 ≤ L) (hL : L ≤ 64) : ∀ {l : List (Pt L)} {fs : List (Int × Int)}, prvL n d L ys l fs = true → ∀ x ∈ l, (fitP n d L ys x).isSome = true := by
  intro l
  induction l with
  | nil => intro fs _ x hx; cases hx
  | cons y r ih =>
    intro fs h x hx
    cases fs with
    | nil => cases h
    | cons f fs =>
      simp only [prvL, Bool.and_eq_true] at h
      rcases List.mem_cons.1 hx with rfl | hx
      · have h1 := h.1
        simp only [prvI, Bool.and_eq_true, inB, decide_eq_true_eq] at h1
        obtain ⟨⟨⟨a1, a2⟩, a3, a4⟩, a5⟩ := h1
        refine fitF_is.2 ⟨ys.getD f.1.toNat [], ?_, (srv_is (by omega)).2 ⟨f.2, by omega, by omega, ?_⟩⟩
        · rw [List.getD_eq_getElem?_getD, List.getElem?_eq_getElem (by omega)]
          exact List.getElem_mem _
        · rw [show ((L.toNat : Nat) : Int) = L by omega]; exact a5
      · exact ih h.2 x hx
/-- what Proves returns -/
def prvR (L a b c d : Int) (cs : List (Int × Int)) (s : ByteArray) (fs : List (Int × Int)) : Bool :=
  if covE L a b c d cs s = 0 then (match barS s with | some (N, D) => prvL N D L (wvs L cs) (ptsAll L a c (d - c + 1).toNat (b - a + 1).toNat) fs | none => false) else false
theorem prv_law {L a b c d : Int} {cs : List (Int × Int)} {s : ByteArray} {fs : List (Int × Int)} (h : prvR L a b c d cs s fs = true) : misR L a b c d cs s = [] := by
  unfold prvR at h
  split at h
  · rename_i h0
    obtain ⟨hf, _, N, D, hs⟩ := covE_0 h0
    have hL := fam_true hf
    rw [hs] at h
    rw [(misR_yes h0 hs).1]
    exact misI_nil (prvL_all (by omega) (by omega) h)
  · cases h
end Go.Proofs.YtbjhjbjjfbmoeaaGreatDoor

/- A region that draws its order, in a round of a range over a function: what is shown of it outside a fence holds inside the wide one. -/
namespace Go.Proofs.YtbjhjbjjfbmoeaaGreatDoor
open Go.RowKit

theorem upon_in {l n : Nat} {P : Program} {o : Oper} {a : Act} {next : Act → World → Prop} {Q : Exit → Act → World → Prop} {r : Result Next} (h : o.upon P a next Q r) :
    o.uponIn (Fence.wide.inRound l) n P a next Q r := by
  cases r with
  | ok x w' =>
    cases x with
    | value v => exact h
    | skip => exact h
    | defer d => exact h
    | enter f args => exact ⟨(fun h => by cases h), CallsIn.inRound l (callsIn_wide.2 h)⟩
    | row r args => exact ⟨(fun h => by cases h), fun c cs _ => let ⟨v, w', hr, s⟩ := h c cs; ⟨v, w', hr, stepsIn_wide.2 s⟩⟩
    | _ => exact h.elim
  | halt x w' =>
    cases x with
    | panic v => exact h
    | _ => exact h.elim

theorem wpOp_in {l n : Nat} {P : Program} {ops : Array Oper} {Q : Exit → Act → World → Prop} {i : Nat} {K K' : Act → World → Prop} {a : Act} {w : World} (hd : ∀ o, ops[i]? = some o → ∀ c, o.op ≠ .defer c) (hq : ¬ LetsOut Q) (hK : ∀ a w, K a w → K' a w) (h : wpOp P ops Q i K a w) :
    wpOpIn (Fence.wide.inRound l) n P ops Q i K' a w := by
  unfold wpOp at h
  refine wpOpIn_mono hK ?_
  unfold wpOpIn
  cases ho : ops[i]? with
  | none => rw [ho] at h; exact h
  | some o =>
    rw [ho] at h
    simp only at h ⊢
    split
    · rename_i hw
      rw [if_pos hw] at h
      rcases h with h | h
      · refine ⟨fun _ _ => trivial, ?_⟩
        rw [Oper.semAt_eq _ _ _ (hd o ho)]
        exact upon_in h
      · exact absurd h.2 hq
    · rename_i hw
      rw [if_neg hw] at h
      exact ⟨fun _ _ => trivial, h⟩

theorem wpAny_in {l n : Nat} {P : Program} {md : Region.Mode} {ops : Array Oper} {Q : Exit → Act → World → Prop} (hd : ∀ (i : Nat) (o : Oper), ops[i]? = some o → ∀ c, o.op ≠ .defer c) (hq : ¬ LetsOut Q) : ∀ (fuel : Nat) (listed : Array Bool) (a : Act) (w : World), wpAny P md ops Q fuel listed a w → wpAnyIn (Fence.wide.inRound l) n P md ops Q fuel listed a w := by
  intro fuel
  induction fuel with
  | zero => intro listed a w h; exact h
  | succ fuel ih =>
    intro listed a w h
    exact ⟨h.1, fun i hi => wpOp_in (hd i) hq (fun a w h => ih _ a w h) (h.2 i hi)⟩

/-- no operation defers -/
def noDefer (ops : Array Oper) : Bool := ops.all fun o => match o.op with | .defer _ => false | _ => true
theorem noDefer_spec {ops : Array Oper} (h : noDefer ops = true) : ∀ (i : Nat) (o : Oper), ops[i]? = some o → ∀ c, o.op ≠ .defer c := by
  intro i o ho c hc
  unfold noDefer at h
  rw [Array.all_eq_true] at h
  obtain ⟨hi, hx⟩ := Array.getElem?_eq_some_iff.1 ho
  have := h i hi
  rw [hx, hc] at this
  cases this

/-- THE WAY IN: a region that draws, in a round. -/
theorem wpIn_region_round {l n : Nat} {P : Program} {ops : Array Oper} {Q : Exit → Act → World → Prop} {S : World → Prop} {id : Nat} {a : Act} {w : World} (hm : P.follows .mixedOrders = true) (hd : noDefer ops = true) (hq : ¬ LetsOut Q) (hS : S w.drew)
    (h : S w.drew → wpAnyH P .any ops Q S ops.size (Array.replicate ops.size false) a w.drew) : (Code.region id ops true).wpIn (Fence.wide.inRound l) n P Q a w :=
  wpIn_region_any hm (wpAny_in (noDefer_spec hd) hq _ _ _ _ (wpAny_of_held _ _ _ _ (h hS)))
end Go.Proofs.YtbjhjbjjfbmoeaaGreatDoor

/- A load of a struct at any address, for the takes of a region that draws. -/
namespace Go.Proofs.YtbjhjbjjfbmoeaaGreatDoor
open Go.RowKit

theorem exec_load_arr {P : Program} {o : Oper} {a : Act} {w' : World} (ty : TypeId) (x : Operand) (ho : o.op = .load ty x) (p : Addr) (hx : a.eval x = .pointer (some p)) (V : Array Value) (d : TypeDesc) (hc : ∀ j v, V[j]? = some v → w'.cell? (p.add j) = some v)
    (hu : P.underlying ty = some d) (hd : (match d with | .struct _ | .array _ _ => true | _ => false) = true) (hi : (P.info? ty).map (·.size) = some V.size) :
    (execOp a.eval o).run P w' = .ok (.value (.agg V)) w' := by
  unfold execOp
  have h := run_loadVar_list w' p ty V.toList d (fun j v hj => hc j v (by simpa using hj)) hu hd (by simpa using hi)
  simp only [ho, hx, Instr.loadAt, Instr.sureAddr, Sem.run_bind, Sem.run_pure, Result.andThen_ok, h, Array.toArray_toList]
end Go.Proofs.YtbjhjbjjfbmoeaaGreatDoor
