/- Parts of a proof, in build order: P2, P3, P8, P4, P5, P9. -/
import Derived.Test.YtbjhjbjjfbmoeaaGreatDoorKp0

/- Sure, of the reference. -/
namespace Go.Proofs.YtbjhjbjjfbmoeaaGreatDoor
open Go.RowKit

theorem enoB_mono {us : List Int} {L : Nat} {a b ns bd : Int} (h : enoB us L a ns bd = true) (hab : a ≤ b) : enoB us L b ns bd = true := by
  unfold enoB at *
  rw [Bool.and_eq_true, decide_eq_true_iff, decide_eq_true_iff] at *
  obtain ⟨h1, h2⟩ := h
  have hs := sqTo_nn us 0 L
  have hm := Int.mul_le_mul_of_nonneg_right hab hs
  have hN : a * sqTo us 0 L - ns * abS us L ≤ b * sqTo us 0 L - ns * abS us L := by omega
  generalize a * sqTo us 0 L - ns * abS us L = N at *
  generalize b * sqTo us 0 L - ns * abS us L = N' at *
  refine ⟨by omega, Int.le_trans h2 (Int.mul_le_mul hN hN (by omega) (by omega))⟩
theorem enoB_zero {us : List Int} (h1 : ∀ x ∈ us, -127 ≤ x ∧ x ≤ 127) (L : Nat) {ns bd : Int} (hn : 0 ≤ ns) : enoB us L 0 ns bd = false := by
  unfold enoB
  rw [Bool.and_eq_false_iff]; left
  rw [decide_eq_false_iff_not]
  have := Int.mul_nonneg hn (abS_bd h1 L).1
  omega
/-- what a search gives: the least amplitude that is enough -/
def Sur (f : Int → Bool) (v e : Int) : Prop := (e = 0 ∧ 1 ≤ v ∧ v ≤ 1048576 ∧ f v = true ∧ ∀ a, 0 ≤ a → a < v → f a = false) ∨ (e = 4 ∧ v = 0 ∧ ∀ a, 0 ≤ a → a ≤ 1048576 → f a = false)
theorem Sur.one {f : Int → Bool} {v e v' e' : Int} (h : Sur f v e) (h' : Sur f v' e') : v = v' ∧ e = e' := by
  rcases h with ⟨a1, a2, a3, a4, a5⟩ | ⟨a1, a2, a3⟩ <;> rcases h' with ⟨b1, b2, b3, b4, b5⟩ | ⟨b1, b2, b3⟩
  · refine ⟨?_, by omega⟩
    rcases (show v < v' ∨ v = v' ∨ v' < v by omega) with h | h | h
    · rw [b5 v (by omega) h] at a4; simp at a4
    · exact h
    · rw [a5 v' (by omega) h] at b4; simp at b4
  · rw [b3 v (by omega) (by omega)] at a4; simp at a4
  · rw [a3 v' (by omega) (by omega)] at b4; simp at b4
  · omega
/-- what Sure returns -/
def SurT (L p q ns va fl v e : Int) : Prop :=
  if waveOK L p q = false then v = 0 ∧ e = 70 else if silentB (wav L p q) = true then v = 0 ∧ e = 4 else if (inB 0 ns 32768 && inB 1 va 1048576 && inB 0 fl 65536) = false then v = 0 ∧ e = 8 else Sur (fun a => enoB (wav L p q) L.toNat a ns (fl * va * sqTo (wav L p q) 0 L.toNat)) v e
theorem SurT.one {L p q ns va fl v e v' e' : Int} (h : SurT L p q ns va fl v e) (h' : SurT L p q ns va fl v' e') : v = v' ∧ e = e' := by
  unfold SurT at *
  split at h
  · rename_i h0; rw [if_pos h0] at h'; omega
  · rename_i h0; rw [if_neg h0] at h'
    split at h
    · rename_i h0; rw [if_pos h0] at h'; omega
    · rename_i h0; rw [if_neg h0] at h'
      split at h
      · rename_i h0; rw [if_pos h0] at h'; omega
      · rename_i h0; rw [if_neg h0] at h'; exact h.one h'

set_option maxRecDepth 100000 in
set_option maxHeartbeats 4000000 in
theorem refSure_any (L p q ns va fl : Int) (w : World) :
    Calls Tryz.prog 33 #[.int .i64 L, .agg #[.int .i64 p, .int .i64 q], .int .i64 ns, .int .i64 va, .int .i64 fl] w fun e w' => (∃ v x, e = .returned (.tuple #[.int .i64 v, .int .i64 x]) ∧ SurT L p q ns va fl v x) ∧ Below w.heap.size w w' := by
  have hck := fun w => refCheckChirp_any L p q w
  cases h : waveOK L p q
  · have hE : wavE L p q = 70 := by simp [wavE, h]
    have hT : SurT L p q ns va fl 0 70 := by unfold SurT; rw [if_pos h]; exact ⟨rfl, rfl⟩
    rw [hE] at hck
    have HC := Lib.hid hck; have HT := Lib.hid hT; clear hck hE hT h
    go_enter Tryz.func33, Tryz.ntmps33
    go_wp2_with (go_at_call 19; refine (HC.out _).mono ?_; rintro e w1 ⟨rfl, hb1⟩)
    go_ret2
    exact ⟨⟨_, _, rfl, HT.out⟩, ((Below.refl _ _).alloc (Nat.le_refl _) _).trans (hb1.mono (by simp))⟩
  · have hE : wavE L p q = 0 := by simp [wavE, h]
    have hL := waveOK_true h
    have l1 : 4 ≤ L := by omega
    have l2 : L ≤ 64 := by omega
    obtain ⟨M, hM⟩ : ∃ M : Nat, M = L.toNat := ⟨_, rfl⟩
    have m2 : M ≤ 64 := by omega
    have hwv := fun w => refWaveL_any L p q w h
    have hnm := fun ao cap wx hc => refNorm_any (wav L p q) M ao cap wx (wav_length _ _ _) (by omega) (wav_bd _ _ _) hc
    have hT : ∀ v e, SurT L p q ns va fl v e ↔ if silentB (wav L p q) = true then v = 0 ∧ e = 4 else if (inB 0 ns 32768 && inB 1 va 1048576 && inB 0 fl 65536) = false then v = 0 ∧ e = 8 else Sur (fun a => enoB (wav L p q) M a ns (fl * va * sqTo (wav L p q) 0 M)) v e := by
      intro v e; unfold SurT; rw [if_neg (by rw [h]; decide), hM]
    have hsz := fun h => silent_zero (xs := wav L p q) h M
    rw [ovl_sqTo] at hsz
    have hnp := norm_pos (L := L) (p := p) (q := q)
    rw [show ovl (wav L p q) (wav L p q) L 0 = sqTo (wav L p q) 0 M by rw [← ovl_sqTo]; congr 1; omega] at hnp
    have hsb := sqTo_bd (wav_bd L p q) 0 M
    have hsn := sqTo_nn (wav L p q) 0 M
    have hen := fun a bd ao ca W a1 a2 b1 b2 c1 c2 hc => refEnough_any (wav L p q) M a ns bd ao ca W (wav_length _ _ _) m2 (wav_bd _ _ _) a1 a2 b1 b2 c1 c2 hc
    have hmo := fun a b bd h1 h2 => enoB_mono (us := wav L p q) (L := M) (a := a) (b := b) (ns := ns) (bd := bd) h1 h2
    have hze := fun bd h1 => enoB_zero (us := wav L p q) (wav_bd _ _ _) M (ns := ns) (bd := bd) h1
    rw [← hM] at hwv
    rw [hE] at hck
    generalize silentB (wav L p q) = SB at *
    generalize hS : sqTo (wav L p q) 0 M = S at *
    generalize enoB (wav L p q) M = F at *
    generalize wav L p q = xs at *
    have HC := Lib.hid hck; have HW := Lib.hid hwv; have HN := Lib.hid hnm; have HT := Lib.hid hT; have HEN := Lib.hid hen; have HMO := Lib.hid hmo; have HZE := Lib.hid hze; have HSZ := Lib.hid hsz; have HNP := Lib.hid hnp
    clear hck hwv hnm hT hen hmo hze hsz hnp hE h hL hM hS
    go_enter Tryz.func33, Tryz.ntmps33
    go_wp2_with fail
    refine (HC.out _).mono ?_
    rintro e w1 ⟨rfl, hb1⟩
    have y0 : w1.cell? ⟨w.heap.size, 0, none⟩ = some (.int .i64 p) := box_keep hb1 (by simp) 0
    have y1 : w1.cell? ⟨w.heap.size, 1, none⟩ = some (.int .i64 q) := box_keep hb1 (by simp) 1
    have g1 := ((Below.refl w.heap.size w).alloc (Nat.le_refl _) _).trans (hb1.mono (by simp))
    go_wp2_with fail
    refine (HW.out _).mono ?_
    rintro e w2 ⟨⟨b, c, rfl, hc⟩, hb2⟩
    have HCC := Lib.hid hc; clear hc y0 y1
    have g2 := g1.trans (hb2.mono g1.size)
    go_wp2_with fail
    refine (HN.out _ _ _ HCC.out).mono ?_
    rintro e w3 ⟨rfl, hb3⟩
    have g3 := g2.trans (hb3.mono g2.size)
    have HC3 := Lib.hid (HCC.out.below hb3 (Nat.le_refl _))
    cases SB
    · have hS1 := HNP.out rfl
      have d1 : (S == 0) = false := by rw [beq_eq_false_iff_ne]; omega
      have hin1 := fun w => rin_any ns 0 32768 w
      have hin2 := fun w => rin_any va 1 1048576 w
      have hin3 := fun w => rin_any fl 0 65536 w
      by_cases hr : (inB 0 ns 32768 && inB 1 va 1048576 && inB 0 fl 65536) = true
      · obtain ⟨hr12, hr3⟩ := Bool.and_eq_true_iff.1 hr
        obtain ⟨hr1, hr2⟩ := Bool.and_eq_true_iff.1 hr12
        have n1 : 0 ≤ ns ∧ ns ≤ 32768 := by simpa [inB] using hr1
        have n2 : 1 ≤ va ∧ va ≤ 1048576 := by simpa [inB] using hr2
        have n3 : 0 ≤ fl ∧ fl ≤ 65536 := by simpa [inB] using hr3
        have hT : ∀ v e, Sur (fun a => F a ns (fl * va * S)) v e → SurT L p q ns va fl v e := by
          intro v e hs
          rw [HT.out v e, if_neg (by decide), if_neg (by rw [hr]; decide)]
          exact hs
        rw [hr1] at hin1
        rw [hr2] at hin2
        rw [hr3] at hin3
        have p1 := Int.mul_le_mul n3.2 n2.2 (by omega) (by omega)
        have p2 := Int.mul_nonneg n3.1 (show 0 ≤ va by omega)
        have p3 := Int.mul_le_mul p1 (show S ≤ 1032256 by omega) (by omega) (by omega)
        have p4 := Int.mul_nonneg p2 (show 0 ≤ S by omega)
        have q1 : IntKind.i64.wrap (fl * va) = fl * va := IntWalk.i64_in _ (by omega)
        have q2 : IntKind.i64.wrap (fl * va * S) = fl * va * S := IntWalk.i64_in _ (by omega)
        have hen := fun a ao ca W a1 a2 hc => HEN.out a (fl * va * S) ao ca W a1 a2 n1.1 n1.2 p4 (by omega) hc
        have hmo := fun a b h1 h2 => HMO.out a b (fl * va * S) h1 h2
        have hze := HZE.out (fl * va * S) n1.1
        have HI1 := Lib.hid hin1; have HI2 := Lib.hid hin2; have HI3 := Lib.hid hin3; have HTT := Lib.hid hT; have HE := Lib.hid hen; have HM := Lib.hid hmo; have HZ := Lib.hid hze
        clear hin1 hin2 hin3 hT hen hmo hze p1 p2 p3 p4 hr hr1 hr2 hr3 hr12
        go_wp2_with (first
          | (go_at_call 42; (with_reducible refine Calls.mono (HI1.out _) ?_); rintro e w' ⟨rfl, rfl⟩)
          | (go_at_call 42; (with_reducible refine Calls.mono (HI2.out _) ?_); rintro e w' ⟨rfl, rfl⟩)
          | (go_at_call 42; (with_reducible refine Calls.mono (HI3.out _) ?_); rintro e w' ⟨rfl, rfl⟩)
          | (go_at_call 67; refine (HN.out _ _ _ HC3.out).mono ?_; rintro e w4 ⟨rfl, hb4⟩))
        have g4 := g3.trans (hb4.mono g3.size)
        have HC4 := Lib.hid (HC3.out.below hb4 (Nat.le_refl _))
        clear q1 q2
        generalize fl * va * S = BD at *
        go_loopw [15, 16] (fun lo hi wr => ∃ l h : Int, lo = .int .i64 l ∧ hi = .int .i64 h ∧ 0 ≤ l ∧ l < h ∧ h ≤ 1048577 ∧ F l ns BD = false ∧ (h = 1048577 ∨ F h ns BD = true) ∧ Below w4.heap.size w4 wr) (fun lo hi _ => (intOf hi - intOf lo).toNat)
        case atStart => exact ⟨0, 1048577, rfl, rfl, by omega, by omega, by omega, HZ.out, .inl rfl, Below.refl _ _⟩
        case round =>
          obtain ⟨l, h, rfl, rfl, b0, b1, b2, hf, hh, hb⟩ := hrel
          have g5 := g4.trans (hb.mono g4.size)
          by_cases hd : 1 < h - l
          · obtain ⟨m, hm⟩ : ∃ m, m = (l + h) / 2 := ⟨_, rfl⟩
            have hmt : Int.tdiv (l + h) 2 = m := by rw [Int.tdiv_eq_ediv_of_nonneg (by omega)]; exact hm.symm
            have hm' : (l + h) / 2 = m := hm.symm
            have hm1 : l < m ∧ m < h := by omega
            have he := HE.out m _ c wr (by omega) (by omega) (HC4.out.below hb (Nat.le_refl _))
            cases hfm : F m ns BD
            · rw [hfm] at he
              have HEE := Lib.hid he; have HFM := Lib.hid hfm
              clear he hfm hm
              go_wp2_with (go_at_call 90; refine HEE.out.mono ?_; rintro e w5 ⟨rfl, hb5⟩)
              go_roundw
              case rel => exact ⟨m, h, rfl, rfl, by omega, by omega, by omega, HFM.out, hh, hb.trans (hb5.mono hb.size)⟩
              case measure => simp [intOf]; omega
            · rw [hfm] at he
              have HEE := Lib.hid he; have HFM := Lib.hid hfm
              clear he hfm hm
              go_wp2_with (go_at_call 90; refine HEE.out.mono ?_; rintro e w5 ⟨rfl, hb5⟩)
              go_roundw
              case rel => exact ⟨l, m, rfl, rfl, by omega, by omega, by omega, hf, .inr HFM.out, hb.trans (hb5.mono hb.size)⟩
              case measure => simp [intOf]; omega
          · obtain rfl : h = l + 1 := by omega
            have hlow : ∀ a, 0 ≤ a → a ≤ l → F a ns BD = false := by
              intro a ha hal
              cases hfa : F a ns BD
              · rfl
              · have := HM.out a l hfa hal
                rw [hf] at this; simp at this
            by_cases hbig : 1048576 < l + 1
            · have hs : Sur (fun a => F a ns BD) 0 4 := .inr ⟨rfl, rfl, fun a h1 h2 => hlow a h1 (by omega)⟩
              have HS := Lib.hid (HTT.out _ _ hs)
              clear hs hlow
              go_wp2
              go_ret2
              exact ⟨⟨_, _, rfl, HS.out⟩, g5⟩
            · have hs : Sur (fun a => F a ns BD) (l + 1) 0 := .inl ⟨rfl, by omega, by omega, hh.resolve_left (by omega), fun a h1 h2 => hlow a h1 (by omega)⟩
              have HS := Lib.hid (HTT.out _ _ hs)
              clear hs hlow
              go_wp2
              go_ret2
              exact ⟨⟨_, _, rfl, HS.out⟩, g5⟩
      · have hr' : (inB 0 ns 32768 && inB 1 va 1048576 && inB 0 fl 65536) = false := by simpa using hr
        have hT8 : SurT L p q ns va fl 0 8 := by rw [HT.out 0 8, if_neg (by decide), if_pos hr']; exact ⟨rfl, rfl⟩
        have HT8 := Lib.hid hT8
        clear hT8 hr
        cases hr1 : inB 0 ns 32768
        · rw [hr1] at hin1
          have HI1 := Lib.hid hin1
          clear hin1 hin2 hin3 hr' hr1
          go_wp2_with (go_at_call 42; (with_reducible refine Calls.mono (HI1.out _) ?_); rintro e w' ⟨rfl, rfl⟩)
          go_ret2
          exact ⟨⟨_, _, rfl, HT8.out⟩, g3⟩
        · cases hr2 : inB 1 va 1048576
          · rw [hr1] at hin1
            rw [hr2] at hin2
            have HI1 := Lib.hid hin1; have HI2 := Lib.hid hin2
            clear hin1 hin2 hin3 hr' hr1 hr2
            go_wp2_with (first
              | (go_at_call 42; (with_reducible refine Calls.mono (HI1.out _) ?_); rintro e w' ⟨rfl, rfl⟩)
              | (go_at_call 42; (with_reducible refine Calls.mono (HI2.out _) ?_); rintro e w' ⟨rfl, rfl⟩))
            go_ret2
            exact ⟨⟨_, _, rfl, HT8.out⟩, g3⟩
          · have hr3 : inB 0 fl 65536 = false := by rw [hr1, hr2] at hr'; simpa using hr'
            rw [hr1] at hin1
            rw [hr2] at hin2
            rw [hr3] at hin3
            have HI1 := Lib.hid hin1; have HI2 := Lib.hid hin2; have HI3 := Lib.hid hin3
            clear hin1 hin2 hin3 hr' hr1 hr2 hr3
            go_wp2_with (first
              | (go_at_call 42; (with_reducible refine Calls.mono (HI1.out _) ?_); rintro e w' ⟨rfl, rfl⟩)
              | (go_at_call 42; (with_reducible refine Calls.mono (HI2.out _) ?_); rintro e w' ⟨rfl, rfl⟩)
              | (go_at_call 42; (with_reducible refine Calls.mono (HI3.out _) ?_); rintro e w' ⟨rfl, rfl⟩))
            go_ret2
            exact ⟨⟨_, _, rfl, HT8.out⟩, g3⟩
    · have hz := HSZ.out rfl
      have hT4 : SurT L p q ns va fl 0 4 := by rw [HT.out 0 4, if_pos rfl]; exact ⟨rfl, rfl⟩
      have HT4 := Lib.hid hT4
      clear hT4
      subst hz
      go_wp2
      go_ret2
      exact ⟨⟨_, _, rfl, HT4.out⟩, g3⟩
end Go.Proofs.YtbjhjbjjfbmoeaaGreatDoor

/- Sure, of the program. -/
namespace Go.Proofs.YtbjhjbjjfbmoeaaGreatDoor
open Go.RowKit

theorem run_loadVar_list {P : Program} (w : World) (p : Addr) (ty : TypeId) (cs : List Value) (d : TypeDesc) (hc : ∀ j v, cs[j]? = some v → w.cell? (p.add j) = some v)
    (hu : P.underlying ty = some d) (hd : (match d with | .struct _ | .array _ _ => true | _ => false) = true) (hi : (P.info? ty).map (·.size) = some cs.length) :
    (loadVar ty p).run P w = .ok (.agg cs.toArray) w := by
  have hl : (loadCells p cs.length).run P w = .ok cs.toArray w := run_loadCells_list (P := P) w p cs hc
  cases hq : P.info? ty with
  | none => simp [hq] at hi
  | some i =>
    have hs : i.size = cs.length := by simpa [hq] using hi
    have hagg : (isAgg ty).run P w = .ok true w := by
      unfold isAgg
      rw [Sem.run_bind, run_underlying hu w]
      cases d <;> simp_all
    simp [loadVar, Sem.run_bind, hagg, sizeOf, typeInfo, hq, hs, hl]
theorem wpList_load_list {P : Program} {ops : Array Oper} {rest : List Oper} {o : Oper} {a : Act} {w : World} {Q : Exit → Act → World → Prop} (hgd : o.guard = none) (ty : TypeId) (x : Operand) (ho : o.op = .load ty x)
    (p : Addr) (hx : a.eval x = .pointer (some p)) (cs : List Value) (d : TypeDesc) (hc : ∀ j v, cs[j]? = some v → w.cell? (p.add j) = some v)
    (hu : P.underlying ty = some d) (hd : (match d with | .struct _ | .array _ _ => true | _ => false) = true) (hi : (P.info? ty).map (·.size) = some cs.length)
    (h : wpList P ops Q rest (a.put o.dst (.agg cs.toArray)) w) : wpList P ops Q (o :: rest) a w :=
  wpList_plain hgd fun K hK => by
    unfold Oper.wp execOp
    simp only [ho, hx, Instr.loadAt, Instr.sureAddr, Sem.run_bind, Sem.run_pure, Result.andThen_ok, run_loadVar_list w p ty cs d hc hu hd hi]
    exact hK _ _ h

theorem wav_zero (L p q : Int) (i : Nat) (h : L.toNat ≤ i) : (wav L p q).getD i 0 = 0 := by
  unfold wav
  rw [List.getD_eq_getElem?_getD]
  by_cases hi : i < 64
  · rw [smp_at _ _ _ _ hi, if_neg (by omega)]; rfl
  · rw [List.getElem?_eq_none (by rw [smp_length]; omega)]; rfl
theorem abS_zero {xs : List Int} {M : Nat} (h : ∀ i, M ≤ i → xs.getD i 0 = 0) (n : Nat) : abS xs (M + n) = abS xs M := by
  induction n with
  | zero => rfl
  | succ n ih => rw [← Nat.add_assoc]; simp only [abS, ih, h (M + n) (by omega)]; simp

set_option maxRecDepth 100000 in
set_option maxHeartbeats 4000000 in
theorem found_any (M : Nat) (xs : List Int) (a ns va fl : Int) (bv bn br bf ba : Nat) (w : World) (hx : xs.length = 64) (hM1 : 1 ≤ M) (hM : M ≤ 64) (h1 : ∀ x ∈ xs, -127 ≤ x ∧ x ≤ 127)
    (a1 : 0 ≤ a) (a2 : a ≤ 1048576) (n1 : 0 ≤ ns) (n2 : ns ≤ 32768) (v1 : 1 ≤ va) (v2 : va ≤ 1048576) (f1 : 0 ≤ fl) (f2 : fl ≤ 65536)
    (hv : w.heap[bv]? = some (.cells (shp M xs) 101 (0, 0))) (c1 : w.cell? ⟨bn, 0, none⟩ = some (.int .i64 ns)) (c2 : w.cell? ⟨br, 0, none⟩ = some (.int .i64 (abS xs M))) (c3 : w.cell? ⟨bf, 0, none⟩ = some (.int .i64 fl)) (c4 : w.cell? ⟨ba, 0, none⟩ = some (.int .i64 va)) :
    Calls Tryz.prog 89 #[.int .i64 a, .pointer (some ⟨bv, 0, none⟩), .pointer (some ⟨bn, 0, none⟩), .pointer (some ⟨br, 0, none⟩), .pointer (some ⟨bf, 0, none⟩), .pointer (some ⟨ba, 0, none⟩)] w fun e w' => e = .returned (.bool (enoB xs M a ns (fl * va * sqTo xs 0 M))) ∧ Below w.heap.size w w' := by
  have ho := fun w => norm_any M xs w hx (by omega) (by omega) h1
  rw [ovl_sqTo] at ho
  have hi : (Tryz.prog.info? 101).map (·.size) = some (shp M xs).size := by rw [shp_size, hx]; kernel_rfl
  have hlt := (Array.getElem?_eq_some_iff.1 hv).1
  have hsb := sqTo_bd h1 0 M
  have hab := abS_bd h1 M
  have eB : enoB xs M a ns (fl * va * sqTo xs 0 M) = (decide (0 < a * sqTo xs 0 M - ns * abS xs M) && decide (fl * va * sqTo xs 0 M ≤ (a * sqTo xs 0 M - ns * abS xs M) * (a * sqTo xs 0 M - ns * abS xs M))) := rfl
  rw [eB]
  clear eB
  generalize sqTo xs 0 M = S at *
  generalize abS xs M = R at *
  generalize shp M xs = V at ho hi hv
  have HI := Lib.hid hi; have HO := Lib.hid ho; have HV := Lib.hid hv
  clear hi ho hv h1 hx
  have pa := mul_bd (A := 1048577) (X := 1032256) (show -1048577 ≤ a by omega) (by omega) (show -1032256 ≤ S by omega) (by omega)
  have pb := mul_bd (A := 32768) (X := 8128) (show -32768 ≤ ns by omega) n2 (show -8128 ≤ R by omega) (by omega)
  have q1 : IntKind.i64.wrap (a * S) = a * S := IntWalk.i64_in _ (by omega)
  have q2 : IntKind.i64.wrap (ns * R) = ns * R := IntWalk.i64_in _ (by omega)
  obtain ⟨N, hN⟩ : ∃ N, N = a * S - ns * R := ⟨_, rfl⟩
  have q3 : IntKind.i64.wrap (a * S - ns * R) = N := by rw [hN]; exact IntWalk.i64_in _ (by omega)
  rw [← hN]
  have hNb : -2000000000000 ≤ N ∧ N ≤ 2000000000000 := by omega
  have p1 := Int.mul_le_mul f2 v2 (by omega) (by omega)
  have p2 := Int.mul_nonneg f1 (show 0 ≤ va by omega)
  have p3 := Int.mul_le_mul p1 (show S ≤ 1032256 by omega) (by omega) (by omega)
  have p4 := Int.mul_nonneg p2 (show 0 ≤ S by omega)
  have q5 : IntKind.i64.wrap (fl * va) = fl * va := IntWalk.i64_in _ (by omega)
  have q6 : IntKind.i64.wrap (fl * va * S) = fl * va * S := IntWalk.i64_in _ (by omega)
  have HN := Lib.hid hN
  clear pa pb hN hsb hab
  go_enter Tryz.func89, Tryz.ntmps89
  go_wp2_with fail
  refine wp_region_quiet (C := fun w' => Below w.heap.size w w') (by kernel_rfl) (by kernel_rfl) (Below.refl _ w).drew ?_
  simp only
  repeat
    (refine wpQuiet_step (fun K hK => ?_)
     first
       | (refine quiet_load_row (by rfl) 101 _ (by with_reducible rfl) bv (by rfl) 101 V (0, 0) _ (fun w' hw' => (hw'.block _ hlt).trans HV.out) Tryz.underlying101 (by rfl) HI.out ?_; refine hK _ ?_; clear hK K; simp only [Act.put, List.setIfInBounds_toArray, List.set_cons_succ, List.set_cons_zero])
       | (go_simp
          first
            | (refine hK _ ?_; clear hK K)
            | (apply Exists.intro
               refine ⟨fun w' hw' => ?_, hK _ ?_⟩
               (first
                 | rfl
                 | (have z1 := cell_keep c1 hw' (Nat.le_refl _); go_simp; rfl)
                 | (have z2 := cell_keep c2 hw' (Nat.le_refl _); go_simp; rfl)
                 | (with_reducible refine Calls.mono (HO.out w') ?_; exact fun e w'' ⟨he, hb⟩ => ⟨he, hw'.trans (hb.mono hw'.size)⟩))
               clear hK K)))
  refine wpQuiet_nil ?_
  intro w1 hb1
  have hlt1 : bv < w1.heap.size := Nat.lt_of_lt_of_le hlt hb1.size
  have hV1 := Lib.hid ((hb1.block _ hlt).trans HV.out)
  have d3 := cell_keep c3 hb1 (Nat.le_refl _)
  have d4 := cell_keep c4 hb1 (Nat.le_refl _)
  clear q1 q2 q3 c1 c2 c3 c4
  by_cases hp : 0 < N
  · have d1 : decide (0 < N) = true := decide_eq_true hp
    by_cases hg : 1073741824 ≤ N
    · have e1 : decide (1073741824 ≤ N) = true := decide_eq_true hg
      have hfin : (decide (0 < N) && decide (fl * va * S ≤ N * N)) = true := by
        have := Int.mul_le_mul hg hg (by omega) (by omega)
        rw [d1, Bool.true_and, decide_eq_true_iff]; omega
      have HF := Lib.hid hfin
      clear hfin p1 p2 p3 p4 q5 q6 hNb d3 d4 a1 a2 n1 n2 v1 v2 f1 f2
      go_wp2_with fail
      go_quiet (fail)
      go_wp2
      go_ret
      exact ⟨by rw [HF.out]; rfl, bel_drewN hb1 _⟩
    · have e1 : decide (1073741824 ≤ N) = false := decide_eq_false hg
      have hNN := Int.mul_le_mul (show N ≤ 1073741824 by omega) (show N ≤ 1073741824 by omega) (by omega) (by omega)
      have hN0 := Int.mul_nonneg (show 0 ≤ N by omega) (show 0 ≤ N by omega)
      have q4 : IntKind.i64.wrap (N * N) = N * N := IntWalk.i64_in _ (by omega)
      have HD1 := Lib.hid d1
      clear hNN hN0 p1 p2 p3 p4 hNb a1 a2 n1 n2 v1 v2 f1 f2
      go_wp2_with fail
      refine wp_region_quiet (C := fun w' => Below w1.heap.size w1 w') (by kernel_rfl) (by kernel_rfl) (Below.refl _ w1).drew ?_
      simp only
      repeat
        (refine wpQuiet_step (fun K hK => ?_)
         first
           | (refine quiet_load_row (by rfl) 101 _ (by with_reducible rfl) bv (by rfl) 101 V (0, 0) _ (fun w' hw' => (hw'.block _ hlt1).trans hV1.out) Tryz.underlying101 (by rfl) HI.out ?_; refine hK _ ?_; clear hK K; simp only [Act.put, List.setIfInBounds_toArray, List.set_cons_succ, List.set_cons_zero])
           | (go_simp
              first
                | (refine hK _ ?_; clear hK K)
                | (apply Exists.intro
                   refine ⟨fun w' hw' => ?_, hK _ ?_⟩
                   (first
                     | rfl
                     | (have z1 := cell_keep d3 hw' (Nat.le_refl _); go_simp; rfl)
                     | (have z2 := cell_keep d4 hw' (Nat.le_refl _); go_simp; rfl)
                     | (with_reducible refine Calls.mono (HO.out w') ?_; exact fun e w'' ⟨he, hb⟩ => ⟨he, hw'.trans (hb.mono hw'.size)⟩))
                   clear hK K)))
      refine wpQuiet_nil ?_
      intro w2 hb2
      go_wp2
      go_ret
      exact ⟨by rw [HD1.out]; rfl, hb1.trans (hb2.mono hb1.size)⟩
  · have d1 : decide (0 < N) = false := decide_eq_false hp
    have HD1 := Lib.hid d1
    clear p1 p2 p3 p4 q5 q6 hNb d3 d4 a1 a2 n1 n2 v1 v2 f1 f2
    go_wp2_with fail
    go_quiet (fail)
    go_wp2
    go_ret
    exact ⟨by rw [HD1.out]; rfl, bel_drewN hb1 _⟩
end Go.Proofs.YtbjhjbjjfbmoeaaGreatDoor

/- Sure, of the program: the whole. -/
namespace Go.Proofs.YtbjhjbjjfbmoeaaGreatDoor
open Go.RowKit

/-- boxes of Sure's arguments -/
theorem sure_box (p q ns va fl : Int) (w : World) :
    ∃ W0, (((w.alloc (.cells #[.int .i64 p, .int .i64 q] 23)).alloc (.cells #[.int .i64 ns] 3)).alloc (.cells #[.int .i64 va] 3)).alloc (.cells #[.int .i64 fl] 3) = W0 ∧ W0.heap.size = w.heap.size + 4 ∧ ∀ wx, Below W0.heap.size W0 wx →
      (wx.cell? ⟨w.heap.size, 0, none⟩ = some (.int .i64 p) ∧ wx.cell? ⟨w.heap.size, 1, none⟩ = some (.int .i64 q)) ∧ wx.cell? ⟨w.heap.size + 1, 0, none⟩ = some (.int .i64 ns) ∧ wx.cell? ⟨w.heap.size + 1 + 1, 0, none⟩ = some (.int .i64 va) ∧ wx.cell? ⟨w.heap.size + 1 + 1 + 1, 0, none⟩ = some (.int .i64 fl) ∧ Below w.heap.size w wx := by
  refine ⟨_, rfl, by simp, ?_⟩
  obtain ⟨W2, hW2⟩ : ∃ W2, W2 = (w.alloc (.cells #[.int .i64 p, .int .i64 q] 23)).alloc (.cells #[.int .i64 ns] 3) := ⟨_, rfl⟩
  have hs2 : W2.heap.size = w.heap.size + 1 + 1 := by rw [hW2]; simp
  have r0 : W2.heap[w.heap.size]? = some (.cells #[.int .i64 p, .int .i64 q] 23 (0, 0)) := by rw [hW2]; exact heap_alloc2_old w _ _
  have r1 : W2.heap[w.heap.size + 1]? = some (.cells #[.int .i64 ns] 3 (0, 0)) := by rw [hW2]; exact heap_alloc2_new w _ _
  have hB2 : Below w.heap.size w W2 := by rw [hW2]; exact ((Below.refl _ w).alloc (Nat.le_refl _) _).alloc (by simp) _
  rw [← hW2]
  clear hW2
  have s0 : ((W2.alloc (.cells #[.int .i64 va] 3)).alloc (.cells #[.int .i64 fl] 3)).heap[w.heap.size]? = _ := (hold_old _ _ _ (by simp; omega)).trans ((hold_old _ _ _ (by omega)).trans r0)
  have s1 : ((W2.alloc (.cells #[.int .i64 va] 3)).alloc (.cells #[.int .i64 fl] 3)).heap[w.heap.size + 1]? = _ := (hold_old _ _ _ (by simp; omega)).trans ((hold_old _ _ _ (by omega)).trans r1)
  have s2 : ((W2.alloc (.cells #[.int .i64 va] 3)).alloc (.cells #[.int .i64 fl] 3)).heap[w.heap.size + 1 + 1]? = some (.cells #[.int .i64 va] 3 (0, 0)) := by rw [← hs2]; exact heap_alloc2_old W2 _ _
  have s3 : ((W2.alloc (.cells #[.int .i64 va] 3)).alloc (.cells #[.int .i64 fl] 3)).heap[w.heap.size + 1 + 1 + 1]? = some (.cells #[.int .i64 fl] 3 (0, 0)) := by rw [← hs2]; exact heap_alloc2_new W2 _ _
  have hB0 : Below w.heap.size w ((W2.alloc (.cells #[.int .i64 va] 3)).alloc (.cells #[.int .i64 fl] 3)) := (hB2.alloc (by omega) _).alloc (by simp; omega) _
  have hs0 : ((W2.alloc (.cells #[.int .i64 va] 3)).alloc (.cells #[.int .i64 fl] 3)).heap.size = w.heap.size + 4 := by simp; omega
  generalize (W2.alloc (.cells #[.int .i64 va] 3)).alloc (.cells #[.int .i64 fl] 3) = W0 at *
  intro wx hb
  have e0 := (hb.block _ (by omega)).trans s0
  have e1 := (hb.block _ (by omega)).trans s1
  have e2 := (hb.block _ (by omega)).trans s2
  have e3 := (hb.block _ (by omega)).trans s3
  exact ⟨⟨(cell_of_row wx _ 0 _ _ _ e0).trans rfl, (cell_of_row wx _ 1 _ _ _ e0).trans rfl⟩, (cell_of_row wx _ 0 _ _ _ e1).trans rfl, (cell_of_row wx _ 0 _ _ _ e2).trans rfl, (cell_of_row wx _ 0 _ _ _ e3).trans rfl, hB0.trans (hb.mono (by omega))⟩

/-- a sample of a shape -/
def V_at (V : Array Value) (j : Nat) (v : Value) : Prop := V[1 + j]? = some v

set_option maxRecDepth 100000 in
set_option maxHeartbeats 8000000 in
theorem sure_any (L p q ns va fl : Int) (w : World) :
    Calls Tryz.prog 32 #[.int .i64 L, .agg #[.int .i64 p, .int .i64 q], .int .i64 ns, .int .i64 va, .int .i64 fl] w fun e w' => (∃ v x, e = .returned (.tuple #[.int .i64 v, .int .i64 x]) ∧ SurT L p q ns va fl v x) ∧ Below w.heap.size w w' := by
  obtain ⟨Z, hZ⟩ : ∃ Z, Z = shp 0 (smp 0 0 0) := ⟨_, rfl⟩
  have z : Tryz.zeroCells101 = Z := by rw [hZ]; exact zero101
  have hZs : Z.size = 65 := by rw [hZ, shp_size, smp_length]
  have hw1 := fun w => wave_any L p q w
  have hst := store_shape (waveV L p q) Z (waveV_size L p q) hZs (waveV_one L p q)
  have hVs := waveV_size L p q
  clear hZ
  obtain ⟨W0, hW0, hs0, hFK⟩ := sure_box p q ns va fl w
  cases h : waveOK L p q
  · have hT : SurT L p q ns va fl 0 70 := by unfold SurT; rw [if_pos h]; exact ⟨rfl, rfl⟩
    rw [h] at hw1
    generalize waveV L p q = V at *
    have hne : ¬ V = #[] := by intro h; rw [h] at hVs; simp at hVs
    have HW := Lib.hid hw1; have HT := Lib.hid hT; have HFK := Lib.hid hFK; have HW0 := Lib.hid hW0; have HS0 := Lib.hid hs0
    clear hw1 hT h hFK hW0 hs0
    obtain ⟨⟨y0, y1⟩, -, -, -, -⟩ := HFK.out W0 (Below.refl _ _)
    go_enter Tryz.func32, Tryz.ntmps32
    go_wp2_with fail
    rw [HW0.out]
    refine (HW.out _).mono ?_
    rintro e w1 ⟨rfl, hb1⟩
    obtain ⟨-, -, -, -, g1⟩ := HFK.out w1 hb1
    go_wp2
    go_ret2
    exact ⟨⟨_, _, rfl, HT.out⟩, g1.alloc g1.size _⟩
  · have hL := waveOK_true h
    obtain ⟨M, hM⟩ : ∃ M : Nat, L = (M : Int) := ⟨L.toNat, by omega⟩
    have hVe : waveV L p q = shp L (wav L p q) := by simp [waveV, h]
    have hsi := fun w => silent_any L (wav L p q) w (wav_length _ _ _)
    rw [← hVe] at hsi
    have hT : ∀ v e, (if silentB (wav L p q) = true then v = 0 ∧ e = 4 else if (inB 0 ns 32768 && inB 1 va 1048576 && inB 0 fl 65536) = false then v = 0 ∧ e = 8 else Sur (fun a => enoB (wav L p q) M a ns (fl * va * sqTo (wav L p q) 0 M)) v e) → SurT L p q ns va fl v e := by
      intro v e hh; unfold SurT; rw [if_neg (by rw [h]; decide), show L.toNat = M by omega]; exact hh
    have hfd := fun a bv bn br bf ba W a1 a2 n1 n2 v1 v2 f1 f2 hv c1 c2 c3 c4 => found_any M (wav L p q) a ns va fl bv bn br bf ba W (wav_length _ _ _) (by omega) (by omega) (wav_bd _ _ _) a1 a2 n1 n2 v1 v2 f1 f2 hv c1 c2 c3 c4
    rw [← hM, ← hVe] at hfd
    have hmo := fun a b bd h1 h2 => enoB_mono (us := wav L p q) (L := M) (a := a) (b := b) (ns := ns) (bd := bd) h1 h2
    have hze := fun bd h1 => enoB_zero (us := wav L p q) (wav_bd _ _ _) M (ns := ns) (bd := bd) h1
    have ha64 : abS (wav L p q) 64 = abS (wav L p q) M := by
      have := abS_zero (xs := wav L p q) (M := M) (fun i hi => wav_zero L p q i (by omega)) (64 - M)
      rwa [show M + (64 - M) = 64 by omega] at this
    have hcl : ∀ j v, ((wav L p q).map (Value.int .i64))[j]? = some v → V_at (waveV L p q) j v := by
      intro j v hj
      rw [List.getElem?_map, Option.map_eq_some_iff] at hj
      obtain ⟨x, hx, rfl⟩ := hj
      unfold V_at
      rw [hVe]
      exact shp_succ L _ _ _ hx
    have hbs := abS_bd (wav_bd L p q)
    have hbw := wav_bd L p q
    have hln := wav_length L p q
    rw [h] at hw1
    generalize silentB (wav L p q) = SB at *
    generalize sqTo (wav L p q) 0 M = S at *
    generalize enoB (wav L p q) M = F at *
    generalize wav L p q = xs at *
    generalize waveV L p q = V at *
    have hne : ¬ V = #[] := by intro h; rw [h] at hVs; simp at hVs
    have hi : (Tryz.prog.info? 101).map (·.size) = some V.size := by rw [hVs]; kernel_rfl
    have hi2 : (Tryz.prog.info? 99).map (·.size) = some (xs.map (Value.int .i64)).length := by rw [List.length_map, hln]; kernel_rfl
    have HI := Lib.hid hi; have HIA := Lib.hid hi2; have HW := Lib.hid hw1; have HFK := Lib.hid hFK; have HW0 := Lib.hid hW0; have HS0 := Lib.hid hs0
    have HSI := Lib.hid hsi; have HT := Lib.hid hT; have HFD := Lib.hid hfd; have HMO := Lib.hid hmo; have HZE := Lib.hid hze; have HA64 := Lib.hid ha64; have HCL := Lib.hid hcl; have HBS := Lib.hid hbs; have HBW := Lib.hid hbw; have HLN := Lib.hid hln; have HM := Lib.hid hM
    clear hi hi2 hw1 hFK hW0 hs0 hsi hT hfd hmo hze ha64 hcl hbs hbw hln hVe h hM
    obtain ⟨⟨y0, y1⟩, -, -, -, -⟩ := HFK.out W0 (Below.refl _ _)
    go_enter Tryz.func32, Tryz.ntmps32
    go_wp2_with fail
    rw [HW0.out]
    refine (HW.out _).mono ?_
    rintro e w1 ⟨rfl, hb1⟩
    clear y0 y1
    have hs1 := hb1.size
    have FK : ∀ wx, Below (w1.heap.size + 1) (w1.alloc (.cells V 101)) wx → wx.heap[w1.heap.size]? = some (.cells V 101 (0, 0)) ∧ wx.cell? ⟨w.heap.size + 1, 0, none⟩ = some (.int .i64 ns) ∧ wx.cell? ⟨w.heap.size + 1 + 1, 0, none⟩ = some (.int .i64 va) ∧ wx.cell? ⟨w.heap.size + 1 + 1 + 1, 0, none⟩ = some (.int .i64 fl) ∧ Below w.heap.size w wx := by
      intro wx hb
      have g1 : Below W0.heap.size W0 wx := (hb1.alloc hs1 (.cells V 101)).trans (hb.mono (by omega))
      obtain ⟨-, h1, h2, h3, h4⟩ := HFK.out wx g1
      exact ⟨(hb.block _ (by omega)).trans (heap_alloc_new _ _), h1, h2, h3, h4⟩
    have HFK1 := Lib.hid FK
    clear FK
    have hsz1 : (w1.alloc (.cells V 101)).heap.size = w1.heap.size + 1 := by simp
    have HSZ1 := Lib.hid hsz1
    clear hsz1
    go_wp2_with (first
      | (refine wpList_load_row (by rfl) 101 _ (by rfl) w1.heap.size (by rfl) _ V _ _ (HFK1.out _ (Below.refl _ _)).1 Tryz.underlying101 (by rfl) HI.out ?_)
      | (go_at_call 72; refine (HSI.out _).mono ?_; rintro e w2 ⟨rfl, hb2⟩; have hb2 := hb2.mono (Nat.le_of_eq HSZ1.out.symm); refine Hid.out ?_))
    refine Lib.hid ?_
    obtain ⟨_, y1, y2, y3, g2⟩ := HFK1.out w2 hb2
    cases SB
    · have hin1 := fun w => bwithin_any ns 0 32768 w
      have hin2 := fun w => bwithin_any va 1 1048576 w
      have hin3 := fun w => bwithin_any fl 0 65536 w
      by_cases hr : (inB 0 ns 32768 && inB 1 va 1048576 && inB 0 fl 65536) = true
      · obtain ⟨hr12, hr3⟩ := Bool.and_eq_true_iff.1 hr
        obtain ⟨hr1, hr2⟩ := Bool.and_eq_true_iff.1 hr12
        have n1 : 0 ≤ ns ∧ ns ≤ 32768 := by simpa [inB] using hr1
        have n2 : 1 ≤ va ∧ va ≤ 1048576 := by simpa [inB] using hr2
        have n3 : 0 ≤ fl ∧ fl ≤ 65536 := by simpa [inB] using hr3
        have hTS : ∀ v e, Sur (fun a => F a ns (fl * va * S)) v e → SurT L p q ns va fl v e := by
          intro v e hs
          refine HT.out v e ?_
          rw [if_neg (by decide), if_neg (by rw [hr]; decide)]
          exact hs
        rw [hr1] at hin1
        rw [hr2] at hin2
        rw [hr3] at hin3
        have hfd := fun a bv bn br bf ba W a1 a2 hv c1 c2 c3 c4 => HFD.out a bv bn br bf ba W a1 a2 n1.1 n1.2 n2.1 n2.2 n3.1 n3.2 hv c1 c2 c3 c4
        have hmo := fun a b h1 h2 => HMO.out a b (fl * va * S) h1 h2
        have hze := HZE.out (fl * va * S) n1.1
        have HI1 := Lib.hid hin1; have HI2 := Lib.hid hin2; have HI3 := Lib.hid hin3; have HTS := Lib.hid hTS; have HE := Lib.hid hfd; have HMN := Lib.hid hmo; have HZ := Lib.hid hze
        clear hin1 hin2 hin3 hTS hfd hmo hze hr hr1 hr2 hr3 hr12 n1 n2 n3
        generalize fl * va * S = BD at *
        have hR0 : (w2.alloc (.cells #[.int .i64 0] 3)).heap[w2.heap.size]? = some (.cells #[.int .i64 0] 3 (0, 0)) := heap_alloc_new _ _
        have hal := (Below.refl w2.heap.size w2).alloc (Nat.le_refl _) (.cells #[.int .i64 0] 3)
        have hs2 := hb2.size
        rw [HSZ1.out] at hs2
        have hb3 := hb2.trans (hal.mono hs2)
        have hcl2 : ∀ j v, (xs.map (Value.int .i64))[j]? = some v → (w2.alloc (.cells #[.int .i64 0] 3)).cell? ((⟨w1.heap.size, 1, none⟩ : Addr).add j) = some v := by
          intro j v hj
          rw [Addr.add_lit]
          exact (cell_of_row _ _ _ _ _ _ (HFK1.out _ hb3).1).trans (HCL.out j v hj)
        have HCL2 := Lib.hid hcl2
        clear hcl2
        have hRc : Blk (w2.alloc (.cells #[.int .i64 0] 3)) w2.heap.size 3 #[.int .i64 0] := hR0
        have HRC := Lib.hid hRc
        clear hR0 hRc
        go_wp2_with (first
          | (go_at_call 68; (with_reducible refine Calls.mono (HI1.out _) ?_); rintro e w' ⟨rfl, rfl⟩)
          | (go_at_call 68; (with_reducible refine Calls.mono (HI2.out _) ?_); rintro e w' ⟨rfl, rfl⟩)
          | (go_at_call 68; (with_reducible refine Calls.mono (HI3.out _) ?_); rintro e w' ⟨rfl, rfl⟩)
          | (refine wpList_load_list (by rfl) 99 _ (by with_reducible rfl) ⟨w1.heap.size, 1, none⟩ (by rfl) (xs.map (Value.int .i64)) _ HCL2.out Tryz.underlying99 (by rfl) HIA.out ?_))
        clear y1 y2 y3
        generalize hA : (xs.map (Value.int .i64)).toArray = A at *
        have hAs : A.size = 64 := by rw [← hA, List.size_toArray, List.length_map]; exact HLN.out
        have hAx : ∀ (k : Nat) (x : Int), xs[k]? = some x → A[k]? = some (Value.int .i64 x) := fun k x hx => by rw [← hA, List.getElem?_toArray, List.getElem?_map, hx]; rfl
        have HAX := Lib.hid hAx
        clear hA hAx HCL2 HCL
        have HB3 := Lib.hid hb3
        have HG2 := Lib.hid g2
        clear hb3 g2 hal
        generalize hW3 : w2.alloc (.cells #[.int .i64 0] 3) = W3 at *
        have hz3 : W3.heap.size = w2.heap.size + 1 := by rw [← hW3]; simp
        have HZ3 := Lib.hid hz3
        clear hW3 hz3
        go_loopw [49] (fun i wr => ∃ k : Nat, k ≤ 64 ∧ i = .int .i64 (k : Int) ∧ Blk wr w2.heap.size 3 #[.int .i64 (abS xs k)] ∧ Below w2.heap.size W3 wr) (fun i _ => 64 - (intOf i).toNat)
        case atStart => exact ⟨0, Nat.zero_le _, rfl, HRC.out, Below.refl _ _⟩
        case round =>
          obtain ⟨k, hk, rfl, hbk, hb⟩ := hrel
          by_cases hlt : k < 64
          · obtain ⟨x, hx⟩ := get_of_lt (show k < xs.length by rw [HLN.out]; exact hlt)
            have m1 := HBW.out x (List.mem_of_getElem? hx)
            have bs := HBS.out k
            have ax := HAX.out k x hx
            have hvx : ∀ w, (Instr.index 99 (.agg A) (.int .i64 (k : Int))).run Tryz.prog w = .ok (.int .i64 x) w := fun w => run_index_val 99 3 64 _ .i64 k _ Tryz.underlying99 (Tryz.sizeOf3 w) (Tryz.isAgg3 w) (by omega) ax
            clear ax
            have e1 : abS xs (k + 1) = abS xs k + max x (-x) := by simp [abS, hx]; omega
            have c0 := hbk.c0
            have f0 := hbk.free 0
            have hlb := hbk.lt
            have E1 := Lib.hid e1; have HBK := Lib.hid hbk
            clear e1 hx hbk
            have q1 : IntKind.i64.wrap (-x) = -x := IntWalk.i64_in _ (by omega)
            have q2 : IntKind.i64.wrap (abS xs k + max x (-x)) = abS xs k + max x (-x) := IntWalk.i64_in _ (by omega)
            have i1 : (k : Int) < 64 := by omega
            have i2 : (0 : Int) ≤ k := by omega
            go_wp2
            go_roundw
            case rel => exact ⟨k + 1, by omega, by go_num, by rw [E1.out]; exact HBK.out.set0 _, hb.setCell (Nat.le_refl _) _⟩
            case measure => simp [intOf]; omega
          · have hk64 : k = 64 := by omega
            have hkn : ¬ (k : Int) < 64 := by omega
            rw [hk64, HA64.out] at hbk
            clear hk64
            obtain ⟨w3, rfl⟩ : ∃ w3, w3 = wr := ⟨_, rfl⟩
            have hs1c : w1.heap.size + 1 ≤ w2.heap.size := hs2
            have hb4 : Below (w1.heap.size + 1) (w1.alloc (.cells V 101)) w3 := HB3.out.trans (hb.mono hs1c)
            have hlt3 := hbk.lt
            have FKK : ∀ W, Below w3.heap.size w3 W → W.heap[w1.heap.size]? = some (.cells V 101 (0, 0)) ∧ W.cell? ⟨w.heap.size + 1, 0, none⟩ = some (.int .i64 ns) ∧ W.cell? ⟨w.heap.size + 1 + 1, 0, none⟩ = some (.int .i64 va) ∧ W.cell? ⟨w.heap.size + 1 + 1 + 1, 0, none⟩ = some (.int .i64 fl) ∧ W.cell? ⟨w2.heap.size, 0, none⟩ = some (.int .i64 (abS xs M)) ∧ Below w.heap.size w W := by
              intro W hbW
              have h5 := hb4.trans (hbW.mono (by omega))
              obtain ⟨t1, t2, t3, t4, t5⟩ := HFK1.out W h5
              exact ⟨t1, t2, t3, t4, (hbk.below hbW hlt3).c0, t5⟩
            have HFKK := Lib.hid FKK
            clear FKK hbk hb4 hb hlt hk
            go_wp2
            go_loopw [18, 19] (fun lo hi wr => ∃ l h : Int, lo = .int .i64 l ∧ hi = .int .i64 h ∧ 1 ≤ l ∧ l ≤ h ∧ h ≤ 1048576 ∧ (∀ a, 0 ≤ a → a < l → F a ns BD = false) ∧ (h = 1048576 ∨ F h ns BD = true) ∧ Below w3.heap.size w3 wr) (fun lo hi _ => (intOf hi - intOf lo).toNat)
            case atStart => exact ⟨1, 1048576, rfl, rfl, by omega, by omega, by omega, fun a h1 h2 => by rw [show a = 0 by omega]; exact HZ.out, .inl rfl, Below.refl _ _⟩
            case round =>
              obtain ⟨l, h, rfl, rfl, b0, b1, b2, hf, hh, hb⟩ := hrel
              obtain ⟨t1, t2, t3, t4, t5, g5⟩ := HFKK.out wr hb
              by_cases hd : l < h
              · obtain ⟨m, hm⟩ : ∃ m, m = (l + h) / 2 := ⟨_, rfl⟩
                have hmt : Int.tdiv (l + h) 2 = m := by rw [Int.tdiv_eq_ediv_of_nonneg (by omega)]; exact hm.symm
                have hm' : (l + h) / 2 = m := hm.symm
                have hm1 : l ≤ m ∧ m < h := by omega
                have he := HE.out m _ _ _ _ _ wr (by omega) (by omega) t1 t2 t5 t4 t3
                cases hfm : F m ns BD
                · rw [hfm] at he
                  have hnew : ∀ a, 0 ≤ a → a < m + 1 → F a ns BD = false := by
                    intro a h1 h2
                    cases hfa : F a ns BD
                    · rfl
                    · have := HMN.out a m hfa (by omega)
                      rw [hfm] at this; simp at this
                  have HEE := Lib.hid he; have HNEW := Lib.hid hnew
                  clear he hnew hfm hm t1 t2 t3 t4 t5
                  go_wp2_with (go_at_call 89; refine HEE.out.mono ?_; rintro e w5 ⟨rfl, hb5⟩)
                  go_roundw
                  case rel => exact ⟨m + 1, h, rfl, rfl, by omega, by omega, by omega, HNEW.out, hh, hb.trans (hb5.mono hb.size)⟩
                  case measure => simp [intOf]; omega
                · rw [hfm] at he
                  have HEE := Lib.hid he; have HFM := Lib.hid hfm
                  clear he hfm hm t1 t2 t3 t4 t5
                  go_wp2_with (go_at_call 89; refine HEE.out.mono ?_; rintro e w5 ⟨rfl, hb5⟩)
                  go_roundw
                  case rel => exact ⟨l, m, rfl, rfl, by omega, by omega, by omega, hf, .inr HFM.out, hb.trans (hb5.mono hb.size)⟩
                  case measure => simp [intOf]; omega
              · obtain rfl : l = h := by omega
                have he := HE.out l _ _ _ _ _ wr (by omega) (by omega) t1 t2 t5 t4 t3
                cases hfm : F l ns BD
                · have hl : l = 1048576 := hh.resolve_right (by rw [hfm]; simp)
                  have hs : Sur (fun a => F a ns BD) 0 4 := .inr ⟨rfl, rfl, fun a h1 h2 => by
                    rcases Int.lt_or_eq_of_le (show a ≤ l by omega) with h3 | h3
                    · exact hf a h1 h3
                    · rw [h3]; exact hfm⟩
                  have HS := Lib.hid (HTS.out _ _ hs)
                  rw [hfm] at he
                  have HEE := Lib.hid he
                  clear hs he hfm hl hf hh t1 t2 t3 t4 t5
                  go_wp2_with (go_at_call 89; refine HEE.out.mono ?_; rintro e w5 ⟨rfl, hb5⟩)
                  go_ret2
                  exact ⟨⟨_, _, rfl, HS.out⟩, g5.trans (hb5.mono g5.size)⟩
                · have hs : Sur (fun a => F a ns BD) l 0 := .inl ⟨rfl, by omega, by omega, hfm, hf⟩
                  have HS := Lib.hid (HTS.out _ _ hs)
                  rw [hfm] at he
                  have HEE := Lib.hid he
                  clear hs he hfm hf hh t1 t2 t3 t4 t5
                  go_wp2_with (go_at_call 89; refine HEE.out.mono ?_; rintro e w5 ⟨rfl, hb5⟩)
                  go_ret2
                  exact ⟨⟨_, _, rfl, HS.out⟩, g5.trans (hb5.mono g5.size)⟩
      · have hr' : (inB 0 ns 32768 && inB 1 va 1048576 && inB 0 fl 65536) = false := by simpa using hr
        have hT8 : SurT L p q ns va fl 0 8 := HT.out 0 8 (by rw [if_neg (by decide), if_pos hr']; exact ⟨rfl, rfl⟩)
        have HT8 := Lib.hid hT8
        clear hT8 hr
        cases hr1 : inB 0 ns 32768
        · rw [hr1] at hin1
          have HI1 := Lib.hid hin1
          clear hin1 hin2 hin3 hr' hr1
          go_wp2_with (go_at_call 68; (with_reducible refine Calls.mono (HI1.out _) ?_); rintro e w' ⟨rfl, rfl⟩)
          go_ret2
          exact ⟨⟨_, _, rfl, HT8.out⟩, g2⟩
        · cases hr2 : inB 1 va 1048576
          · rw [hr1] at hin1
            rw [hr2] at hin2
            have HI1 := Lib.hid hin1; have HI2 := Lib.hid hin2
            clear hin1 hin2 hin3 hr' hr1 hr2
            go_wp2_with (first
              | (go_at_call 68; (with_reducible refine Calls.mono (HI1.out _) ?_); rintro e w' ⟨rfl, rfl⟩)
              | (go_at_call 68; (with_reducible refine Calls.mono (HI2.out _) ?_); rintro e w' ⟨rfl, rfl⟩))
            go_ret2
            exact ⟨⟨_, _, rfl, HT8.out⟩, g2⟩
          · have hr3 : inB 0 fl 65536 = false := by rw [hr1, hr2] at hr'; simpa using hr'
            rw [hr1] at hin1
            rw [hr2] at hin2
            rw [hr3] at hin3
            have HI1 := Lib.hid hin1; have HI2 := Lib.hid hin2; have HI3 := Lib.hid hin3
            clear hin1 hin2 hin3 hr' hr1 hr2 hr3
            go_wp2_with (first
              | (go_at_call 68; (with_reducible refine Calls.mono (HI1.out _) ?_); rintro e w' ⟨rfl, rfl⟩)
              | (go_at_call 68; (with_reducible refine Calls.mono (HI2.out _) ?_); rintro e w' ⟨rfl, rfl⟩)
              | (go_at_call 68; (with_reducible refine Calls.mono (HI3.out _) ?_); rintro e w' ⟨rfl, rfl⟩))
            go_ret2
            exact ⟨⟨_, _, rfl, HT8.out⟩, g2⟩
    · have hT4 : SurT L p q ns va fl 0 4 := HT.out 0 4 (by rw [if_pos rfl]; exact ⟨rfl, rfl⟩)
      have HT4 := Lib.hid hT4
      clear hT4
      go_wp2
      go_ret2
      exact ⟨⟨_, _, rfl, HT4.out⟩, g2⟩
end Go.Proofs.YtbjhjbjjfbmoeaaGreatDoor

/- Fractions of the reference: sums, the negative, texts. -/
namespace Go.Proofs.YtbjhjbjjfbmoeaaGreatDoor
open Go.RowKit

/-- a fraction of the reference -/
def QF (w : World) (v : Value) (F : Int × Nat) : Prop := Z4.QV w v (redI F.1 F.2).1 (redI F.1 F.2).2.1 (redI F.1 F.2).2.2
theorem QF.below {w w' : World} {B : Nat} {v : Value} {F : Int × Nat} (h : QF w v F) (hb : Below B w w') (hB : w.heap.size ≤ B) : QF w' v F := Z4.QV.below h hb hB
/-- the reduced numerator -/
def rdN (F : Int × Nat) : Int := sgI (redI F.1 F.2).1 (redI F.1 F.2).2.1
theorem rdN_abs (F : Int × Nat) : (rdN F).natAbs = (redI F.1 F.2).2.1 := sgI_abs _ _
theorem rdN_neg {F : Int × Nat} (h : F.2 ≠ 0) : decide (rdN F < 0) = (redI F.1 F.2).1 := by
  obtain ⟨_, _, c, _, _⟩ := redI_gcd (n := F.1) h
  unfold rdN
  rw [sgI_neg]
  cases hs : (redI F.1 F.2).1
  · rfl
  · rw [Bool.true_and, decide_eq_true_iff]
    intro h0
    have := c h0
    rw [hs] at this; cases this
theorem QF.num {w : World} {v : Value} {F : Int × Nat} (hF : F.2 ≠ 0) (h : QF w v F) : Z4.QV w v (decide (rdN F < 0)) (rdN F).natAbs (redI F.1 F.2).2.2 := by
  rw [rdN_neg hF, rdN_abs]; exact h
theorem dig_len_pow {n k : Nat} (h : n < 10 ^ (4 * k)) : (Z4.dig n).length ≤ k := Z4.dig_len_lt (by rw [Nat.pow_mul] at h; exact h)
theorem redI_le (n : Int) (d : Nat) : (redI n d).2.1 ≤ n.natAbs ∧ (redI n d).2.2 ≤ d := ⟨Nat.div_le_self _ _, Nat.div_le_self _ _⟩

theorem qfAdd_any (va vb : Value) (F G : Int × Nat) (w : World) (ha : QF w va F) (hb : QF w vb G) (hF : F.2 ≠ 0) (hG : G.2 ≠ 0) (a1 : F.1.natAbs < 10 ^ 200) (a2 : F.2 < 10 ^ 200) (b1 : G.1.natAbs < 10 ^ 200) (b2 : G.2 < 10 ^ 200) :
    Calls Tryz.prog 86 #[va, vb] w fun e w' => (∃ v, e = .returned v ∧ QF w' v (frStep F G)) ∧ Below w.heap.size w w' := by
  have e1 := redI_add (n1 := F.1) (d1 := F.2) (n2 := G.1) (d2 := G.2) hF hG
  have c1 : (redI F.1 F.2).2.2 ≠ 0 := (redI_gcd hF).1
  have c2 : (redI G.1 G.2).2.2 ≠ 0 := (redI_gcd hG).1
  have m1 := redI_le F.1 F.2
  have m2 := redI_le G.1 G.2
  have n1 := rdN_abs F
  have n2 := rdN_abs G
  have hA := ha.num hF
  have hB := hb.num hG
  have hfin : ∀ w' v, Z4.QV w' v (redI (rdN F * (redI G.1 G.2).2.2 + rdN G * (redI F.1 F.2).2.2) ((redI F.1 F.2).2.2 * (redI G.1 G.2).2.2)).1 (redI (rdN F * (redI G.1 G.2).2.2 + rdN G * (redI F.1 F.2).2.2) ((redI F.1 F.2).2.2 * (redI G.1 G.2).2.2)).2.1 (redI (rdN F * (redI G.1 G.2).2.2 + rdN G * (redI F.1 F.2).2.2) ((redI F.1 F.2).2.2 * (redI G.1 G.2).2.2)).2.2 → QF w' v (frStep F G) := by
    intro w' v h
    unfold QF frStep
    simp only
    rw [← e1]
    exact h
  generalize rdN F = N1 at *
  generalize rdN G = N2 at *
  generalize (redI F.1 F.2).2.2 = d1 at *
  generalize (redI G.1 G.2).2.2 = d2 at *
  have t1 : N1.natAbs < 10 ^ 200 := by omega
  have t2 : N2.natAbs < 10 ^ 200 := by omega
  have t3 : d1 < 10 ^ 200 := by omega
  have t4 : d2 < 10 ^ 200 := by omega
  clear a1 a2 b1 b2 m1 m2
  obtain ⟨X, hX⟩ : ∃ X, X = Z4.B ^ 50 := ⟨_, rfl⟩
  obtain ⟨Y, hY⟩ : ∃ Y, Y = Z4.B ^ 100 := ⟨_, rfl⟩
  have hT : (10 : Nat) ^ 200 = X := by rw [hX, show (200 : Nat) = 4 * 50 from rfl, Nat.pow_mul]; rfl
  have hXY : X * X = Y := by rw [hX, hY, ← Nat.pow_add]
  have hY2 : Y + Y ≤ Z4.B ^ 101 := by rw [Nat.pow_succ, ← hY]; show Y + Y ≤ Y * 10000; omega
  rw [hT] at t1 t2 t3 t4
  have r1 : (N1 * d2).natAbs < Y := by rw [Int.natAbs_mul, Int.natAbs_natCast, ← hXY]; exact Nat.mul_lt_mul'' t1 t4
  have r2 : (N2 * d1).natAbs < Y := by rw [Int.natAbs_mul, Int.natAbs_natCast, ← hXY]; exact Nat.mul_lt_mul'' t2 t3
  have r3 : d1 * d2 < Y := by rw [← hXY]; exact Nat.mul_lt_mul'' t3 t4
  have r4 := Int.natAbs_add_le (N1 * d2) (N2 * d1)
  rw [hX] at t1 t2 t3 t4
  have l1 := Z4.dig_len_lt t1
  have l2 := Z4.dig_len_lt t2
  have l3 := Z4.dig_len_lt t3
  have l4 := Z4.dig_len_lt t4
  have l8 := Z4.dig_len_lt (n := (N1 * d2 + N2 * d1).natAbs) (Nat.lt_of_le_of_lt r4 (Nat.lt_of_lt_of_le (Nat.add_lt_add r1 r2) hY2))
  rw [hY] at r1 r2 r3
  have l5 := Z4.dig_len_lt r1
  have l6 := Z4.dig_len_lt r2
  have l7 := Z4.dig_len_lt r3
  clear hT hXY hY2 t1 t2 t3 t4 r1 r2 r3 r4 hX hY
  refine (Z4.qAdd_any va vb N1 N2 d1 d2 w hA hB c1 c2 (by omega) (by omega) (by omega) (by omega) (by omega) (by omega) (by omega) (by omega)).mono ?_
  rintro e w' ⟨⟨v, rfl, hv⟩, hb⟩
  exact ⟨⟨v, rfl, hfin _ _ hv⟩, hb⟩

theorem qfNeg_any (va : Value) (F : Int × Nat) (w : World) (ha : QF w va F) (hF : F.2 ≠ 0) :
    Calls Tryz.prog 88 #[va] w fun e w' => (∃ v, e = .returned v ∧ QF w' v (-F.1, F.2)) ∧ Below w.heap.size w w' := by
  have h4 := (redI_gcd (n := F.1) hF).2.2.2.1
  have hg : 0 < Nat.gcd F.1.natAbs F.2 := Nat.gcd_pos_of_pos_right _ (by omega)
  have e1 : decide (-rdN F < 0) = decide (-F.1 < 0) := by
    have h4 : rdN F * (Nat.gcd F.1.natAbs F.2 : Nat) = F.1 := h4
    generalize rdN F = N at *
    generalize Nat.gcd F.1.natAbs F.2 = g at *
    rw [Bool.eq_iff_iff, decide_eq_true_iff, decide_eq_true_iff]
    constructor
    · intro h
      have := Int.mul_pos (show 0 < N by omega) (show (0 : Int) < g by omega)
      omega
    · intro h
      rcases Int.lt_or_le 0 N with h1 | h1
      · omega
      · have := Int.mul_nonneg (show 0 ≤ -N by omega) (show (0 : Int) ≤ g by omega)
        rw [Int.neg_mul] at this; omega
  refine (Z4.qNeg_any va (rdN F) _ w (ha.num hF)).mono ?_
  rintro e w' ⟨⟨v, rfl, hv⟩, hb⟩
  refine ⟨⟨v, rfl, ?_⟩, hb⟩
  rw [e1, Int.natAbs_neg, rdN_abs] at hv
  unfold QF redI
  simp only [Int.natAbs_neg]
  exact hv

theorem qfZero_any (w : World) :
    Calls Tryz.prog 84 #[.int .i64 0] w fun e w' => (∃ v, e = .returned v ∧ QF w' v (0, 1)) ∧ Below w.heap.size w w' := by
  refine (Z4.qInt_any 0 w (by omega) (by omega)).mono ?_
  rintro e w' ⟨⟨v, rfl, hv⟩, hb⟩
  exact ⟨⟨v, rfl, hv⟩, hb⟩

theorem qfRatio_any (n : Int) (D : Nat) (w : World) (h1 : -9223372036854775808 ≤ n) (h2 : n ≤ 9223372036854775807) (h3 : 1 ≤ D) (h4 : D ≤ 9223372036854775807) :
    Calls Tryz.prog 87 #[.int .i64 n, .int .i64 D] w fun e w' => (∃ v, e = .returned v ∧ QF w' v (n, D)) ∧ Below w.heap.size w w' :=
  refRatio_any n D w h1 h2 h3 h4

theorem qfReal_any (v : Value) (F : Int × Nat) (w : World) (hv : QF w v F) :
    Calls Tryz.prog 76 #[v] w fun e w' => (∃ v', e = .returned v' ∧ Z4.CR w' v' (redI F.1 F.2).1 (redI F.1 F.2).2.1 (redI F.1 F.2).2.2) ∧ Below w.heap.size w w' :=
  Z4.real_any v _ _ _ w hv

theorem qfPut_any (v : Value) (F : Int × Nat) (w : World) (hv : Z4.CR w v (redI F.1 F.2).1 (redI F.1 F.2).2.1 (redI F.1 F.2).2.2) (hF : F.2 ≠ 0) (a1 : F.1.natAbs < 10 ^ 200) (a2 : F.2 < 10 ^ 200) :
    Calls Tryz.prog 75 #[v] w fun e w' => e = .returned (.tuple #[.string (ofT F.1 F.2), .int .i64 0]) ∧ Below w.heap.size w w' := by
  have hb := redI_small (n := F.1) (d := F.2) (k := 199) a1 a2 (by omega)
  unfold bigQ at hb
  rw [Bool.or_eq_false_iff, decide_eq_false_iff_not, decide_eq_false_iff_not] at hb
  have m := redI_le F.1 F.2
  have l1 := dig_len_pow (k := 50) (Nat.lt_of_le_of_lt m.1 a1)
  have l2 := dig_len_pow (k := 50) (Nat.lt_of_le_of_lt m.2 a2)
  have ht : ofT F.1 F.2 = Z4.qT (redI F.1 F.2).1 (redI F.1 F.2).2.1 (redI F.1 F.2).2.2 := rtext_same F.1 F.2
  rw [ht]
  exact Z4.refPut_small v _ _ _ w hv (redI_gcd hF).1 (by clear a1 a2 m hb; omega) (by clear a1 a2 m hb; omega) (by clear a1 a2 m; omega) (by clear a1 a2 m; omega)
end Go.Proofs.YtbjhjbjjfbmoeaaGreatDoor

/- Misfit, of the reference: preliminaries. -/
namespace Go.Proofs.YtbjhjbjjfbmoeaaGreatDoor
open Go.RowKit

theorem own_cells_cap {w : World} {b : Nat} {e : TypeId} {s : Nat} {v : Value} {n : Nat} {xs : List Value} (h : w.ownsRow b e s v n xs) : ∃ a c, v = .slice a n c ∧ Cells w a xs ∧ n ≤ c := by
  obtain ⟨a, c, rfl, hc⟩ := own_cells h
  refine ⟨a, c, rfl, hc, ?_⟩
  rcases h.2 with ⟨h1, h2⟩ | ⟨g, cap, cur, h1, hb, hg, hn, hm, hs, ht⟩
  · simp only [Value.slice.injEq] at h1; omega
  · simp only [Value.slice.injEq] at h1; omega
/-- a part of a row -/
theorem cells_mid {w : World} {b off : Nat} {xs : List Int} (h : Cells w (some ⟨b, off, none⟩) (xs.map (Value.int .i64))) (t k : Nat) : Cells w (some ⟨b, off + t, none⟩) (((xs.drop t).take k).map (Value.int .i64)) := by
  rcases h with h | ⟨b', off', h1, h2⟩
  · have : xs = [] := by simpa using h
    exact .inl (by rw [this]; simp)
  · simp only [Option.some.injEq, Addr.mk.injEq] at h1
    obtain ⟨rfl, rfl, -⟩ := h1
    refine .inr ⟨b, off + t, rfl, fun j u hu => ?_⟩
    rw [List.map_take, List.map_drop, List.getElem?_take] at hu
    split at hu
    · rw [List.getElem?_drop] at hu
      have := h2 (t + j) u hu
      rw [Nat.add_assoc]; exact this
    · cases hu

set_option maxRecDepth 100000 in
set_option maxHeartbeats 2000000 in
theorem refWaveC_any (L p q : Int) (w : World) (h : waveOK L p q = true) :
    Calls Tryz.prog 65 #[.int .i64 L, .agg #[.int .i64 p, .int .i64 q]] w fun e w' => (∃ b c, e = .returned (.slice b L.toNat c) ∧ L.toNat ≤ c ∧ Cells w' b (((wav L p q).take L.toNat).map (Value.int .i64))) ∧ Below w.heap.size w w' := by
  have hL := waveOK_true h
  obtain ⟨M, hM⟩ : ∃ M : Nat, L = (M : Int) := ⟨L.toNat, by omega⟩
  obtain ⟨P, hP⟩ : ∃ P : Nat, p = (P : Int) := ⟨p.toNat, by omega⟩
  obtain ⟨Q, hQ⟩ : ∃ Q : Nat, q = (Q : Int) := ⟨q.toNat, by omega⟩
  have hMt : L.toNat = M := by omega
  have hw : ∀ k, k < M → (wav L p q).take (k + 1) = (wav L p q).take k ++ [tab (P * k + Q * k * k : Nat)] := by
    intro k hk
    have := wav_take (p := p) (q := q) (show k < L.toNat by omega) (by omega)
    rwa [show p.toNat = P by omega, show q.toNat = Q by omega] at this
  rw [hMt]
  generalize wav L p q = xs at *
  have b0 : P ≤ 63 ∧ Q ≤ 63 ∧ M ≤ 64 ∧ 4 ≤ M := by omega
  subst hM; subst hP; subst hQ
  clear h hL hMt
  obtain ⟨b1, b2, b3, b4⟩ := b0
  obtain ⟨i0, hi, hz0, hz1, hz2⟩ := info_parts Tryz.infoInt
  have HW := Lib.hid hw; clear hw
  go_enter Tryz.func65, Tryz.ntmps65
  go_wp2
  go_loopw [5, 6] (fun v i wr => ∃ k : Nat, k ≤ M ∧ i = .int .i64 (k : Int) ∧ wr.ownsRow (w.heap.size + 1) 3 1 v k ((xs.take k).map (Value.int .i64)) ∧ Below (w.heap.size + 1) (w.alloc (.cells #[.int .i64 (P : Int), .int .i64 (Q : Int)] 23)) wr) (fun _ i _ => M - (intOf i).toNat)
  case atStart => exact ⟨0, Nat.zero_le _, rfl, World.ownsRow_nil _ _ _ _, Below.refl _ _⟩
  case round =>
    obtain ⟨k, hk, rfl, hown, hb⟩ := hrel
    have hc0 : wr.cell? ⟨w.heap.size, 0, none⟩ = some (.int .i64 (P : Int)) := box_keep hb (by simp) 0
    have hc1 : wr.cell? ⟨w.heap.size, 1, none⟩ = some (.int .i64 (Q : Int)) := box_keep hb (by simp) 1
    have hsz : w.heap.size + 1 ≤ wr.heap.size := by have := hb.size; simpa using this
    have hbw : Below w.heap.size w wr := ((Below.refl _ _).alloc (Nat.le_refl _) _).trans (hb.mono (by omega))
    by_cases hlt : k < M
    · have m1 : P * k ≤ 64 * 64 := Nat.mul_le_mul (by omega) (by omega)
      have m2 : Q * k ≤ 64 * 64 := Nat.mul_le_mul (by omega) (by omega)
      have m3 : Q * k * k ≤ 64 * 64 * 64 := Nat.mul_le_mul m2 (by omega)
      have c1 : 0 ≤ (P : Int) * k ∧ (P : Int) * k ≤ 4096 := by rw [← Int.natCast_mul]; omega
      have c2 : 0 ≤ (Q : Int) * k ∧ (Q : Int) * k ≤ 4096 := by rw [← Int.natCast_mul]; omega
      have c3 : 0 ≤ (Q : Int) * k * k ∧ (Q : Int) * k * k ≤ 262144 := by rw [← Int.natCast_mul, ← Int.natCast_mul]; omega
      have q1 : IntKind.i64.wrap ((P : Int) * k) = (P : Int) * k := IntWalk.i64_in _ (by omega)
      have q2 : IntKind.i64.wrap ((Q : Int) * k) = (Q : Int) * k := IntWalk.i64_in _ (by omega)
      have q3 : IntKind.i64.wrap ((Q : Int) * k * k) = (Q : Int) * k * k := IntWalk.i64_in _ (by omega)
      have q4 : IntKind.i64.wrap ((P : Int) * k + (Q : Int) * k * k) = (P : Int) * k + (Q : Int) * k * k := IntWalk.i64_in _ (by omega)
      obtain ⟨t, ht⟩ : ∃ t : Nat, t = (P * k + Q * k * k) % 64 := ⟨_, rfl⟩
      have q5 : ((P : Int) * k + (Q : Int) * k * k) % 64 = (t : Int) := by rw [ht]; push_cast; rfl
      have q6 : Int.tmod ((P : Int) * k + (Q : Int) * k * k) 64 = (t : Int) := by rw [Int.tmod_eq_emod_of_nonneg (by omega)]; exact q5
      have hy : tab (P * k + Q * k * k : Nat) = tab t := by rw [ht, tab_mod]
      have htb := fun w => refTable_any t w (by omega)
      have e1 : (xs.take (k + 1)).map (Value.int .i64) = (xs.take k).map (Value.int .i64) ++ [.int .i64 (tab t)] := by rw [HW.out k hlt, List.map_append, hy]; rfl
      have HT := Lib.hid htb; have E1 := Lib.hid e1
      have HOB : Hid (∀ j, u5.ownBlock = some j → w.heap.size + 1 ≤ j) := fun j e => (hown.lt j e).1
      clear htb e1 hy ht m1 m2 m3
      generalize tab t = y at *
      go_wp2_with (first
        | (go_at_call 125; refine (HT.out _).mono ?_; rintro e w1 ⟨rfl, hb1⟩)
        | (at_builtin; refine wpList_append_own _ rfl _ _ 24 rfl (w.heap.size + 1) 3 i0 (.int .i64 0) 1 8 Tryz.underlying24 hi hz0 hz1 hz2 rfl (by decide) _ _ _ rfl ((own_belowK hown hb1 (Nat.le_refl _)).alloc _) ⟨w1.heap.size, 0, none⟩ 1 1 [.int .i64 y] rfl rfl (news1 _ _ _) (by simp [Value.oneCell']) (by unfold maxLen; omega) (by omega) (by have := hb1.size; simp; omega) ?_; intro v1 wz hown1 hgrow _))
      have hfin := hown1
      rw [← E1.out] at hfin
      have hs1 := hb1.size
      have hbz := ((hb.trans (hb1.mono hsz)).alloc (by omega) (.cells #[.int .i64 y] 3)).grown hgrow (by simp; omega) HOB.out
      clear hown1 hgrow hown
      have HFIN := Lib.hid hfin; clear hfin
      go_roundw
      case rel => exact ⟨k + 1, by omega, by go_num, HFIN.out, hbz⟩
      case measure => simp [intOf]; omega
    · obtain rfl : k = M := by omega
      obtain ⟨g, c, rfl, hcs, hcp⟩ := own_cells_cap hown
      have HCS := Lib.hid hcs; clear hcs hown
      go_wp2
      go_ret
      exact ⟨⟨g, c, rfl, hcp, HCS.out⟩, hbw⟩


set_option maxRecDepth 100000 in
theorem refNormG_any (us : List Int) (ao : Option Addr) (ca : Nat) (w : World) (hL : us.length ≤ 64) (h1 : ∀ x ∈ us, -127 ≤ x ∧ x ≤ 127) (hc : Cells w ao (us.map (Value.int .i64))) :
    Calls Tryz.prog 67 #[.slice ao us.length ca] w fun e w' => e = .returned (.int .i64 (prS us us us.length)) ∧ Below w.heap.size w w' := by
  have hp := refProduct_any us us ao ca ao ca w rfl hL h1 (fun x hx => by have := h1 x hx; omega) hc hc
  have HP := Lib.hid hp
  clear hp hc h1
  go_enter Tryz.func67, Tryz.ntmps67
  go_wp2_with (go_at_call 85; refine (HP.out).mono ?_; rintro e w1 ⟨rfl, hb1⟩)
  go_ret
  exact ⟨rfl, hb1⟩

theorem Blk.set2 {W : World} {B : Nat} {t : TypeId} {x y v : Value} {l : List Value} (u : Value) (h : Blk W B t (x :: y :: v :: l).toArray) : Blk (W.setCell ⟨B, 2, none⟩ u) B t (x :: y :: u :: l).toArray := by
  obtain ⟨hlt, hk⟩ := Array.getElem?_eq_some_iff.1 h
  show (W.heap.modify B _)[B]? = _
  rw [Array.getElem?_eq_getElem (by rw [Array.size_modify]; exact hlt), Array.getElem_modify_self, hk]
  rfl
theorem Blk.set3 {W : World} {B : Nat} {t : TypeId} {x y z v : Value} {l : List Value} (u : Value) (h : Blk W B t (x :: y :: z :: v :: l).toArray) : Blk (W.setCell ⟨B, 3, none⟩ u) B t (x :: y :: z :: u :: l).toArray := by
  obtain ⟨hlt, hk⟩ := Array.getElem?_eq_some_iff.1 h
  show (W.heap.modify B _)[B]? = _
  rw [Array.getElem?_eq_getElem (by rw [Array.size_modify]; exact hlt), Array.getElem_modify_self, hk]
  rfl

/-- a box that holds a fraction of the reference -/
def SumB (w : World) (B : Nat) (s : Bool) (an : Option Addr) (n cn : Nat) (ad : Option Addr) (d cd : Nat) (F : Int × Nat) : Prop :=
  Blk w B 120 #[.bool s, .slice an n cn, .bool false, .slice ad d cd] ∧ QF w (.agg #[.bool s, .slice an n cn, .bool false, .slice ad d cd]) F
theorem QF.cases {w : World} {v : Value} {F : Int × Nat} (h : QF w v F) : ∃ s an n cn ad d cd, v = .agg #[.bool s, .slice an n cn, .bool false, .slice ad d cd] := by
  obtain ⟨vn, vd, rfl, h1, h2⟩ := h
  obtain ⟨an, cn, rfl⟩ := h1.cases
  obtain ⟨ad, cd, rfl⟩ := h2.cases
  exact ⟨_, _, _, _, _, _, _, rfl⟩
theorem SumB.put {w : World} {B : Nat} {s s' : Bool} {an an' ad ad' : Option Addr} {n cn d cd n' cn' d' cd' : Nat} {F : Int × Nat} (hk : Blk w B 120 #[.bool s', .slice an' n' cn', .bool false, .slice ad' d' cd'])
    (h : QF w (.agg #[.bool s, .slice an n cn, .bool false, .slice ad d cd]) F) : SumB ((((w.setCell ⟨B, 0, none⟩ (.bool s)).setCell ⟨B, 1, none⟩ (.slice an n cn)).setCell ⟨B, 2, none⟩ (.bool false)).setCell ⟨B, 3, none⟩ (.slice ad d cd)) B s an n cn ad d cd F := by
  refine ⟨(((hk.set0 _).set1 _).set2 _).set3 _, ?_⟩
  have q0 := hk.cell 0
  have q1 := hk.cell 1
  have q2 := hk.cell 2
  have q3 := hk.cell 3
  simp only [List.getElem?_toArray, List.getElem?_cons_succ, List.getElem?_cons_zero] at q0 q1 q2 q3
  obtain ⟨vn, vd, hv, h1, h2⟩ := h
  simp only [Value.agg.injEq, Array.mk.injEq, List.cons.injEq, and_true, true_and, Value.bool.injEq] at hv
  obtain ⟨rfl, rfl, rfl⟩ := hv
  exact ⟨_, _, rfl, h1.box4 q0 q1 q2 q3, h2.box4 q0 q1 q2 q3⟩
theorem SumB.below {w w' : World} {B b : Nat} {s : Bool} {an ad : Option Addr} {n cn d cd : Nat} {F : Int × Nat} (h : SumB w b s an n cn ad d cd F) (hb : Below B w w') (hB : w.heap.size ≤ B) : SumB w' b s an n cn ad d cd F :=
  ⟨h.1.below hb (Nat.lt_of_lt_of_le h.1.lt hB), h.2.below hb hB⟩
/-- parts of a misfit are short -/
theorem prtL_bd {xs ds : List Int} (h1 : ∀ x ∈ xs, -127 ≤ x ∧ x ≤ 127) (h2 : ∀ x ∈ ds, -32768 ≤ x ∧ x ≤ 32768) (t k n : Nat) (hk : n * k ≤ 64) (hn : n ≤ 8) :
    (frSum (prtL xs ds t k n)).2 ≠ 0 ∧ (frSum (prtL xs ds t k n)).1.natAbs < 10 ^ 200 ∧ (frSum (prtL xs ds t k n)).2 < 10 ^ 200 := by
  have hm := misL_bd h1 h2 t 64 k n (Nat.le_refl _) hk
  have hb : ∀ u ∈ prtL xs ds t k n, u.2 ≠ 0 ∧ u.1.natAbs < 10 ^ 21 ∧ u.2 < 10 ^ 21 := fun u hu => hm u (List.mem_cons_of_mem _ hu)
  have hf := frSum_bd _ hb
  have hl : (prtL xs ds t k n).length = n := by simp [prtL]
  rw [hl] at hf
  have hp : (10 ^ 21) ^ n ≤ (10 ^ 21) ^ 8 := Nat.pow_le_pow_right (by decide) hn
  have hq : n * (10 ^ 21) ^ n ≤ 8 * (10 ^ 21) ^ 8 := Nat.mul_le_mul hn hp
  refine ⟨frSum_ne _ (fun u hu => (hb u hu).1), ?_, ?_⟩
  · exact Nat.lt_of_le_of_lt (Nat.le_trans hf.2 hq) (by decide +kernel)
  · exact Nat.lt_of_le_of_lt (Nat.le_trans hf.1 hp) (by decide +kernel)
/-- the whole sum is that of the program -/
theorem mis_sum {L p q : Int} {ds : List Int} {t n : Int} (h : misE L p q ds t n = 0) :
    frStep (frSum (prtL (wav L p q) ds t.toNat (L.toNat / n.toNat) n.toNat)) (-(dotTo (wav L p q) ds t.toNat 0 L.toNat * dotTo (wav L p q) ds t.toNat 0 L.toNat), (sqTo (wav L p q) 0 L.toNat).toNat) = misQ L p q ds t n := by
  obtain ⟨hs, hk⟩ := mis_ne h
  unfold misQ
  rw [misL_sum hs]
  have hsn := sqTo_nn (wav L p q) 0 L.toNat
  simp only [frStep, Prod.mk.injEq]
  rw [Int.toNat_of_nonneg hsn]
  constructor
  · omega
  · exact Nat.mul_comm _ _
theorem mis_small {L p q : Int} {ds : List Int} {t n : Int} (h : misE L p q ds t n = 0) : (misQ L p q ds t n).2 ≠ 0 ∧ (misQ L p q ds t n).1.natAbs < 10 ^ 200 ∧ (misQ L p q ds t n).2 < 10 ^ 200 := by
  obtain ⟨h1, _, h3, _, _, h6, h7, _⟩ := misE_zero h
  have hL := waveOK_true h1
  have hd := dataOK_true h3
  obtain ⟨_, hk⟩ := mis_ne h
  have hb := frSum_bd _ (misL_bd (wav_bd L p q) hd.2 t.toNat L.toNat (L.toNat / n.toNat) n.toNat (by omega) (by rw [hk]; omega))
  rw [misL_length] at hb
  have hp : (10 ^ 21) ^ (n.toNat + 1) ≤ (10 ^ 21) ^ 9 := Nat.pow_le_pow_right (by decide) (by omega)
  have hm : (n.toNat + 1) * (10 ^ 21) ^ (n.toNat + 1) ≤ 9 * (10 ^ 21) ^ 9 := Nat.mul_le_mul (by omega) hp
  refine ⟨(mis_pos h).2, ?_, ?_⟩
  · exact Nat.lt_of_le_of_lt (Nat.le_trans hb.2 hm) (by decide +kernel)
  · exact Nat.lt_of_le_of_lt (Nat.le_trans hb.1 hp) (by decide +kernel)
end Go.Proofs.YtbjhjbjjfbmoeaaGreatDoor

/- Misfit, of the reference: where all is in order. -/
namespace Go.Proofs.YtbjhjbjjfbmoeaaGreatDoor
open Go.RowKit

theorem piece_eq {xs : List Int} {M a k : Nat} (h : a + k ≤ M) : ((xs.take M).drop a).take k = (xs.drop a).take k := by
  rw [List.drop_take, List.take_take, Nat.min_eq_left (by omega)]
theorem piece_eq2 {ds : List Int} {T M a k : Nat} (h : a + k ≤ M) : (((ds.drop T).take M).drop a).take k = (ds.drop (T + a)).take k := by
  rw [piece_eq h, List.drop_drop]

theorem frStep_one (F : Int × Nat) : frStep F (0, 1) = F := by simp [frStep]

set_option maxRecDepth 100000 in
set_option maxHeartbeats 8000000 in
theorem refMisfit_ok (L p q : Int) (ao : Option Addr) (ds : List Int) (cap : Nat) (t n : Int) (w : World) (hc : Cells w ao (ds.map (Value.int .i64))) (hcap : ds.length ≤ cap) (he : misE L p q ds t n = 0) :
    Calls Tryz.prog 31 #[.int .i64 L, .agg #[.int .i64 p, .int .i64 q], .slice ao ds.length cap, .int .i64 t, .int .i64 n] w fun e w' => e = .returned (.tuple #[.string (ofT (misQ L p q ds t n).1 (misQ L p q ds t n).2), .int .i64 0]) ∧ Below w.heap.size w w' := by
  obtain ⟨h1, h2, h3, h4, h5, h6, h7, h8⟩ := misE_zero he
  have hwt := waveOK_true h1
  have hdt := dataOK_true h3
  obtain ⟨k1, k2, _, _, _, _⟩ := hwt
  obtain ⟨hsne, hkk⟩ := mis_ne he
  have hsum := mis_sum he
  have hsml := mis_small he
  obtain ⟨N, hN⟩ : ∃ N : Nat, n = (N : Int) := ⟨n.toNat, by omega⟩
  obtain ⟨T, hT⟩ : ∃ T : Nat, t = (T : Int) := ⟨t.toNat, by omega⟩
  obtain ⟨M, hM⟩ : ∃ M : Nat, L = (M : Int) := ⟨L.toNat, by omega⟩
  subst hN; subst hT; subst hM
  simp only [Int.toNat_natCast] at hsum hsne hkk
  obtain ⟨k, hk⟩ : ∃ k : Nat, k = M / N := ⟨_, rfl⟩
  rw [← hk] at hsum hkk
  have hq1 : Int.tdiv (M : Int) (N : Int) = (k : Int) := by rw [hk]; rfl
  have hq2 : (M : Int) / (N : Int) = (k : Int) := by rw [hk]; rfl
  have hq3 : Int.tmod (M : Int) (N : Int) = 0 := by rw [Int.tmod_eq_emod_of_nonneg (by omega)]; exact h8
  have hck := fun w => refCheckChirp_any M p q w
  have hE : wavE M p q = 0 := by simp [wavE, h1]
  rw [hE] at hck
  have hwv := fun w => refWaveC_any M p q w h1
  simp only [Int.toNat_natCast] at hwv
  have hnm := fun ao cap wx hc => refNorm_any (wav M p q) M ao cap wx (wav_length _ _ _) (by omega) (wav_bd _ _ _) hc
  have hda := fun wx hcx => refData_any ao ds cap wx hcx (by omega)
  rw [h3] at hda
  have hpl := fun j (hj : j ≤ N) => prtL_bd (wav_bd M p q) hdt.2 T k j (Nat.le_trans (Nat.mul_le_mul_right k hj) (by omega)) (by omega)
  have hps := fun j => prtL_succ (wav M p q) ds T k j
  have hp1 := fun j => prt_one (wav M p q) ds T j k
  have hsb := fun a => sqTo_bd (wav_bd M p q) a k
  have hdb := fun a => dotTo_bd (wav_bd M p q) hdt.2 T a k
  have hsbM := sqTo_bd (wav_bd M p q) 0 M
  have hdbM := dotTo_bd (wav_bd M p q) hdt.2 T 0 M
  have hxl := wav_length M p q
  have hln : ∀ a, a + k ≤ M → (((wav M p q).drop a).take k).length = k := fun a ha => by rw [List.length_take, List.length_drop, hxl]; omega
  have hld : ∀ a, a + k ≤ M → ((ds.drop (T + a)).take k).length = k := fun a ha => by rw [List.length_take, List.length_drop]; omega
  have hmx : ∀ a, ∀ x ∈ ((wav M p q).drop a).take k, -127 ≤ x ∧ x ≤ 127 := fun a x hx => wav_bd M p q x (List.mem_of_mem_drop (List.mem_of_mem_take hx))
  have hmd : ∀ a, ∀ x ∈ (ds.drop (T + a)).take k, -32768 ≤ x ∧ x ≤ 32768 := fun a x hx => hdt.2 x (List.mem_of_mem_drop (List.mem_of_mem_take hx))
  have hpp : ∀ a, a + k ≤ M → ∀ aa ca bb cb W, Cells W aa ((((wav M p q).drop a).take k).map (Value.int .i64)) → Cells W bb (((ds.drop (T + a)).take k).map (Value.int .i64)) → Calls Tryz.prog 85 #[.slice aa k ca, .slice bb k cb] W fun e w' => e = .returned (.int .i64 (dotTo (wav M p q) ds T a k)) ∧ Below W.heap.size W w' := by
    intro a ha aa ca bb cb W c1 c2
    have h := refProduct_any _ _ aa ca bb cb W (by rw [hln a ha, hld a ha]) (by rw [hln a ha]; omega) (hmx a) (hmd a) c1 c2
    rw [hln a ha, prS_dot _ _ _ _ _ _ (Nat.le_refl _)] at h
    exact h
  have hnn : ∀ a, a + k ≤ M → ∀ aa ca W, Cells W aa ((((wav M p q).drop a).take k).map (Value.int .i64)) → Calls Tryz.prog 67 #[.slice aa k ca] W fun e w' => e = .returned (.int .i64 (sqTo (wav M p q) a k)) ∧ Below W.heap.size W w' := by
    intro a ha aa ca W c1
    have h := refNormG_any _ aa ca W (by rw [hln a ha]; omega) (hmx a) c1
    rw [hln a ha, prS_sq _ _ _ _ (Nat.le_refl _)] at h
    exact h
  have hpw : ∀ aa ca bb cb W, Cells W aa (((wav M p q).take M).map (Value.int .i64)) → Cells W bb (((ds.drop T).take M).map (Value.int .i64)) → Calls Tryz.prog 85 #[.slice aa M ca, .slice bb M cb] W fun e w' => e = .returned (.int .i64 (dotTo (wav M p q) ds T 0 M)) ∧ Below W.heap.size W w' := by
    intro aa ca bb cb W c1 c2
    have l1 : ((wav M p q).take M).length = M := by rw [List.length_take, hxl]; omega
    have l2 : ((ds.drop T).take M).length = M := by rw [List.length_take, List.length_drop]; omega
    have h := refProduct_any _ _ aa ca bb cb W (by rw [l1, l2]) (by rw [l1]; omega) (fun x hx => wav_bd M p q x (List.mem_of_mem_take hx)) (fun x hx => hdt.2 x (List.mem_of_mem_drop (List.mem_of_mem_take hx))) c1 c2
    have e := prS_dot (wav M p q) ds T 0 M M (Nat.le_refl _)
    rw [List.drop_zero, Nat.add_zero] at e
    rw [l1, e] at h
    exact h
  have HXL := Lib.hid hxl
  clear hln hld hmx hmd hxl
  have hf0 : frSum (prtL (wav M p q) ds T k 0) = (0, 1) := rfl
  generalize hS : sqTo (wav M p q) 0 M = S at *
  generalize hD : dotTo (wav M p q) ds T 0 M = D at *
  have hss := fun j => congrArg frSum (hps j)
  generalize hG : prtL (wav M p q) ds T k = G at *
  generalize hx : wav M p q = xs at *
  generalize misQ M p q ds T N = RQ at *
  have HCK := Lib.hid hck; have HWV := Lib.hid hwv; have HNM := Lib.hid hnm; have HDA := Lib.hid hda; have HPL := Lib.hid hpl; have HPS := Lib.hid hps; have HP1 := Lib.hid hp1; have HSB := Lib.hid hsb; have HDB := Lib.hid hdb
  have HPP := Lib.hid hpp; have HNN := Lib.hid hnn; have HPW := Lib.hid hpw; have HSUM := Lib.hid hsum; have HSML := Lib.hid hsml; have HF0 := Lib.hid hf0; have HKK := Lib.hid hkk
  have HC := Lib.hid hc
  have hin1 := fun W => rin_any T 0 (ds.length - M) W
  have hin2 := fun W => rin_any N 1 8 W
  rw [show inB 0 (T : Int) (ds.length - M) = true by simp [inB]; omega] at hin1
  rw [show inB 1 (N : Int) 8 = true by simp [inB]; omega] at hin2
  have HI1 := Lib.hid hin1; have HI2 := Lib.hid hin2
  obtain ⟨bd, od, hao⟩ : ∃ bd od, ao = some ⟨bd, od, none⟩ := hc.addr (by intro h; rw [List.map_eq_nil_iff] at h; rw [h] at h5; simp at h5; omega)
  subst hao
  have hdl := hdt.1
  clear hck hwv hnm hda hpl hps hp1 hsb hdb hpp hnn hpw hsum hsml hf0 hkk hc hin1 hin2 hE he h1 h2 h3 h8 hdt hS hD hG hx hss
  have a1 : (S == 0) = false := by rw [beq_eq_false_iff_ne]; exact hsne
  have w1 : IntKind.i64.wrap ((ds.length : Int) - M) = (ds.length : Int) - M := IntWalk.i64_in _ (by omega)
  have w2 : IntKind.i64.wrap ((T : Int) + M) = (T : Int) + M := IntWalk.i64_in _ (by omega)
  have hk64 : k ≤ 64 := by have := Nat.div_le_self M N; omega
  clear hk
  have hNs : N ≤ 8 := by omega
  generalize hNn : (N : Int) = n at *
  have HNN8 := Lib.hid hNn
  clear hNn
  go_enter Tryz.func31, Tryz.ntmps31
  go_wp2_with fail
  refine (HCK.out _).mono ?_
  rintro e w1' ⟨rfl, hb1⟩
  have y0 : w1'.cell? ⟨w.heap.size, 0, none⟩ = some (.int .i64 p) := box_keep hb1 (by simp) 0
  have y1 : w1'.cell? ⟨w.heap.size, 1, none⟩ = some (.int .i64 q) := box_keep hb1 (by simp) 1
  have g1 := ((Below.refl w.heap.size w).alloc (Nat.le_refl _) _).trans (hb1.mono (by simp))
  go_wp2_with fail
  refine (HWV.out _).mono ?_
  rintro e w2' ⟨⟨b, c, rfl, hcM, hcw⟩, hb2⟩
  obtain ⟨bh, oh, rfl⟩ := hcw.addr (by intro h; rw [List.map_eq_nil_iff] at h; have := congrArg List.length h; rw [List.length_take, HXL.out] at this; simp at this; omega)
  have HCW := Lib.hid hcw
  have g2 := g1.trans (hb2.mono g1.size)
  clear y0 y1 hb1 hb2 g1 hcw
  go_wp2_with fail
  refine (HNM.out _ _ _ HCW.out).mono ?_
  rintro e w3 ⟨rfl, hb3⟩
  have HCW3 := Lib.hid (HCW.out.below hb3 (Nat.le_refl _))
  have g3 := g2.trans (hb3.mono g2.size)
  clear HCW hb3 g2
  go_wp2_with fail
  refine (HDA.out _ (HC.out.below g3 (Nat.le_refl _))).mono ?_
  rintro e w4 ⟨rfl, hb4⟩
  have HCW4 := Lib.hid (HCW3.out.below hb4 (Nat.le_refl _))
  have g4 := g3.trans (hb4.mono g3.size)
  clear HCW3 hb4 g3
  go_wp2_with (first
    | (go_at_call 42; (with_reducible refine Calls.mono (HI1.out _) ?_); rintro e w' ⟨rfl, rfl⟩)
    | (go_at_call 42; (with_reducible refine Calls.mono (HI2.out _) ?_); rintro e w' ⟨rfl, rfl⟩)
    | (go_at_call 84; refine (qfZero_any _).mono ?_; rintro e w5 ⟨⟨v5, rfl, hv5⟩, hb5⟩; obtain ⟨s5, an5, n5, cn5, ad5, d5, cd5, rfl⟩ := hv5.cases; have HV5 := Lib.hid hv5; clear hv5))
  have hs5 := hb5.size
  have hc5 := HCW4.out.below hb5 (Nat.le_refl _)
  have g5 := g4.trans (hb5.mono g4.size)
  have hal := (Below.refl w5.heap.size w5).alloc (Nat.le_refl _) (.cells #[.bool s5, .slice an5 n5 cn5, .bool false, .slice ad5 d5 cd5] 120)
  have hsb0 : SumB (w5.alloc (.cells #[.bool s5, .slice an5 n5 cn5, .bool false, .slice ad5 d5 cd5] 120)) w5.heap.size s5 an5 n5 cn5 ad5 d5 cd5 (frSum (G 0)) := ⟨Blk.new _ _ _, by rw [HF0.out]; exact HV5.out.below hal (Nat.le_refl _)⟩
  have HS0 := Lib.hid hsb0; have HAL := Lib.hid hal; have HC5 := Lib.hid hc5; have HG5 := Lib.hid g5
  have hkp : 1 ≤ k := by
    rcases Nat.eq_zero_or_pos k with h | h
    · have := HKK.out; rw [h] at this; omega
    · exact h
  have HM5 : Hid (∀ wx, Below w5.heap.size (w5.alloc (.cells #[.bool s5, .slice an5 n5 cn5, .bool false, .slice ad5 d5 cd5] 120)) wx → Cells wx (some ⟨bh, oh, none⟩) ((xs.take M).map (Value.int .i64)) ∧ Cells wx (some ⟨bd, od + T, none⟩) (((ds.drop T).take M).map (Value.int .i64)) ∧ Below w.heap.size w wx) := fun wx hb => by
    have h1 := HAL.out.trans hb
    have h2 := HG5.out.trans (h1.mono HG5.out.size)
    exact ⟨HC5.out.below h1 (Nat.le_refl _), cells_mid (HC.out.below h2 (Nat.le_refl _)) T M, h2⟩
  clear HCW4 hsb0 hal hc5 g5 hb5 hs5 g4 HV5
  generalize hW5 : w5.alloc (.cells #[.bool s5, .slice an5 n5 cn5, .bool false, .slice ad5 d5 cd5] 120) = W5 at *
  clear hW5 hq1 hq2 hq3
  try simp only [Nat.add_sub_cancel_left]
  go_loopw [17] (fun i wr => ∃ j : Nat, j ≤ N ∧ i = .int .i64 (j : Int) ∧ (∃ s an nn cn ad d cd, SumB wr w5.heap.size s an nn cn ad d cd (frSum (G j))) ∧ Below w5.heap.size W5 wr) (fun i _ => N - (intOf i).toNat)
  case atStart => exact ⟨0, Nat.zero_le _, rfl, ⟨_, _, _, _, _, _, _, HS0.out⟩, Below.refl _ _⟩
  case round =>
    obtain ⟨j, hj, rfl, ⟨s, an, nn, cn, ad, d, cd, hsb⟩, hb⟩ := hrel
    clear HS0
    obtain ⟨hch, hcx, gr⟩ := HM5.out wr hb
    have HCH := Lib.hid hch; have HCX := Lib.hid hcx; have HSBX := Lib.hid hsb
    clear hch hcx hsb
    by_cases hlt : j < N
    · obtain ⟨A, hA⟩ : ∃ A : Nat, A = j * k := ⟨_, rfl⟩
      have hAk : A + k ≤ M := by
        have h1 : (j + 1) * k ≤ N * k := Nat.mul_le_mul_right k (by omega)
        rw [HKK.out, Nat.add_mul, ← hA] at h1; omega
      have c1 := cells_mid HCH.out A k
      rw [piece_eq hAk] at c1
      have c2 := cells_mid HCX.out A k
      rw [piece_eq2 hAk] at c2
      have hpp := fun ca cb W (h : Below wr.heap.size wr W) => HPP.out A hAk _ ca _ cb W (c1.below h (Nat.le_refl _)) (c2.below h (Nat.le_refl _))
      have hnn := fun ca W (h : Below wr.heap.size wr W) => HNN.out A hAk _ ca W (c1.below h (Nat.le_refl _))
      have hsq := HSB.out A
      have hdq := HDB.out A
      have h1 := HP1.out j
      rw [← hA] at h1
      have hstep : frSum (G (j + 1)) = frStep (frSum (G j)) (if sqTo xs A k = 0 then (0, 1) else (dotTo xs ds T A k * dotTo xs ds T A k, (sqTo xs A k).toNat)) := by rw [HPS.out, frSum_snoc, ← hA, h1]
      have q1 : IntKind.i64.wrap ((j : Int) * k) = (A : Int) := by
        rw [hA, Int.natCast_mul]; exact IntWalk.i64_in _ (by rw [← Int.natCast_mul, ← hA]; omega)
      have q2 : IntKind.i64.wrap ((A : Int) + k) = (A : Int) + k := IntWalk.i64_in _ (by omega)
      generalize sqTo xs A k = sq at *
      generalize dotTo xs ds T A k = dq at *
      have HPPX := Lib.hid hpp; have HNNX := Lib.hid hnn; have HST := Lib.hid hstep
      clear hpp hnn hstep h1 c1 c2 hA
      have j1 : (j : Int) < n := by rw [← HNN8.out]; omega
      have a2 : ¬ c = A := by omega
      have a3 : ¬ cap - T = A := by omega
      have a4 : (A : Int) + k ≤ c := by omega
      have a5 : (A : Int) + k ≤ ((cap - T : Nat) : Int) := by omega
      by_cases hz : sq = 0
      · subst hz
        go_wp2_with (first
          | (go_at_call 85; (try simp only [Nat.add_sub_cancel_left]); refine (HPPX.out _ _ _ (Below.refl _ _)).mono ?_; rintro e wa ⟨rfl, hba⟩)
          | (go_at_call 67; (try simp only [Nat.add_sub_cancel_left]); refine (HNNX.out _ _ hba).mono ?_; rintro e wb ⟨rfl, hbb⟩))
        have hab : Below wr.heap.size wr wb := hba.trans (hbb.mono hba.size)
        have hle := HSBX.out.1.lt
        go_roundw
        case rel => exact ⟨j + 1, by omega, by go_num, ⟨_, _, _, _, _, _, _, by rw [HST.out]; (first | rw [if_pos rfl] | rw [if_pos trivial]); rw [frStep_one]; exact HSBX.out.below hab (Nat.le_refl _)⟩, hb.trans (hab.mono (by omega))⟩
        case measure => simp [intOf]; omega
      · obtain ⟨sn, rfl⟩ : ∃ sn : Nat, sq = (sn : Int) := ⟨sq.toNat, by omega⟩
        have hsn0 : 0 < sn := by omega
        have hpos : (0 : Int) < sn := by omega
        have hd1 := mul_bd (A := 266338304) (X := 266338304) (show -266338304 ≤ dq by omega) (by omega) (show -266338304 ≤ dq by omega) (by omega)
        have q3 : IntKind.i64.wrap (dq * dq) = dq * dq := IntWalk.i64_in _ (by omega)
        have hrt := fun W => qfRatio_any (dq * dq) sn W (by omega) (by omega) (by omega) (by omega)
        have hpl := HPL.out j (by omega)
        have hqa := fun va vb W g1 g2 => qfAdd_any va vb (frSum (G j)) (dq * dq, sn) W g1 g2 hpl.1 (by show sn ≠ 0; omega) hpl.2.1 hpl.2.2 (by show (dq * dq).natAbs < _; exact Nat.lt_of_le_of_lt (show (dq * dq).natAbs ≤ 266338304 * 266338304 by omega) (by decide +kernel)) (by show sn < _; exact Nat.lt_of_le_of_lt (show sn ≤ 16129 * 64 by omega) (by decide +kernel))
        have HRT := Lib.hid hrt; have HQA := Lib.hid hqa
        clear hrt hqa hpl hd1 hdq hsq
        go_wp2_with (first
          | (go_at_call 85; (try simp only [Nat.add_sub_cancel_left]); refine (HPPX.out _ _ _ (Below.refl _ _)).mono ?_; rintro e wa ⟨rfl, hba⟩)
          | (go_at_call 67; (try simp only [Nat.add_sub_cancel_left]); refine (HNNX.out _ _ hba).mono ?_; rintro e wb ⟨rfl, hbb⟩))
        have hab : Below wr.heap.size wr wb := hba.trans (hbb.mono hba.size)
        have hle := HSBX.out.1.lt
        have hle2 := hab.size
        have HSW := Lib.hid (HSBX.out.below hab (Nat.le_refl _))
        have FW : ∀ W, Below wb.heap.size wb W → SumB W w5.heap.size s an nn cn ad d cd (frSum (G j)) := fun W h => HSW.out.below h (Nat.le_refl _)
        have HFW := Lib.hid FW
        have x0 : wb.cell? ⟨w5.heap.size, 0, none⟩ = some (.bool s) := HSW.out.1.cell 0
        have x1 : wb.cell? ⟨w5.heap.size, 1, none⟩ = some (.slice an nn cn) := HSW.out.1.cell 1
        have x2 : wb.cell? ⟨w5.heap.size, 2, none⟩ = some (.bool false) := HSW.out.1.cell 2
        have x3 : wb.cell? ⟨w5.heap.size, 3, none⟩ = some (.slice ad d cd) := HSW.out.1.cell 3
        clear hba hbb FW
        go_region_with (first
          | (go_at_call 67; (try simp only [Nat.add_sub_cancel_left]); refine (HNNX.out _ _ (hab.drew)).mono ?_; rintro e wc ⟨rfl, hbc⟩; have hbc : Below wb.heap.size wb wc := ((Below.refl wb.heap.size wb).drew).trans hbc; have r0 := cell_keep x0 hbc (Nat.le_refl _); have r1 := cell_keep x1 hbc (Nat.le_refl _); have r2 := cell_keep x2 hbc (Nat.le_refl _); have r3 := cell_keep x3 hbc (Nat.le_refl _))
          | (go_at_call 87; refine (HRT.out _).mono ?_; rintro e wd ⟨⟨vq, rfl, hvq⟩, hbd⟩; have HVQ := Lib.hid hvq; have hbd : Below wb.heap.size wb wd := hbc.trans (hbd.mono hbc.size); have t0 := cell_keep x0 hbd (Nat.le_refl _); have t1 := cell_keep x1 hbd (Nat.le_refl _); have t2 := cell_keep x2 hbd (Nat.le_refl _); have t3 := cell_keep x3 hbd (Nat.le_refl _); clear hvq)
          | (go_at_call 86; refine (HQA.out _ _ _ (HFW.out _ hbd).2 HVQ.out).mono ?_; rintro e we ⟨⟨vs, rfl, hvs⟩, hbe⟩; have hbe : Below wb.heap.size wb we := hbd.trans (hbe.mono hbd.size); obtain ⟨s', an', nn', cn', ad', d', cd', rfl⟩ := hvs.cases; have HVS := Lib.hid hvs; have HBE := Lib.hid (HFW.out _ hbe).1; have p0 := cell_keep x0 hbe (Nat.le_refl _); have p1 := cell_keep x1 hbe (Nat.le_refl _); have p2 := cell_keep x2 hbe (Nat.le_refl _); have p3 := cell_keep x3 hbe (Nat.le_refl _); have pf0 := HBE.out.free 0; have pf1 := HBE.out.free 1; have pf2 := HBE.out.free 2; have pf3 := HBE.out.free 3; have hlt5 := HBE.out.lt; clear hvs))
        all_goals
          have hfin := SumB.put HBE.out HVS.out
          have hbz := ((((hb.trans (hab.mono (by omega))).trans (hbe.mono (by omega))).setCell (p := ⟨w5.heap.size, 0, none⟩) (Nat.le_refl _) (.bool s')).setCell (p := ⟨w5.heap.size, 1, none⟩) (Nat.le_refl _) (.slice an' nn' cn')).setCell (p := ⟨w5.heap.size, 2, none⟩) (Nat.le_refl _) (.bool false)
          have hbz := hbz.setCell (p := ⟨w5.heap.size, 3, none⟩) (Nat.le_refl _) (.slice ad' d' cd')
          have HFIN := Lib.hid hfin
          clear hfin
          go_wp2
          go_roundw
          case rel => exact ⟨j + 1, by omega, by go_num, ⟨_, _, _, _, _, _, _, by rw [HST.out, if_neg (by omega), Int.toNat_natCast]; exact HFIN.out⟩, hbz⟩
          case measure => simp [intOf]; omega
    · obtain rfl : j = N := by omega
      have j1 : ¬ (j : Int) < n := by rw [← HNN8.out]; omega
      have hle := HSBX.out.1.lt
      obtain ⟨Sn, rfl⟩ : ∃ Sn : Nat, S = (Sn : Int) := ⟨S.toNat, by omega⟩
      have hd1 := mul_bd (A := 266338304) (X := 266338304) (show -266338304 ≤ D by omega) (by omega) (show -266338304 ≤ D by omega) (by omega)
      have q3 : IntKind.i64.wrap (D * D) = D * D := IntWalk.i64_in _ (by omega)
      have hSn : 0 < Sn := by omega
      have hrt := fun W => qfRatio_any (D * D) Sn W (by omega) (by omega) (by omega) (by omega)
      have hng := fun va W g => qfNeg_any va (D * D, Sn) W g (by show Sn ≠ 0; omega)
      have hpl := HPL.out j (Nat.le_refl _)
      have hqa := fun va vb W g1 g2 => qfAdd_any va vb (frSum (G j)) (-(D * D), Sn) W g1 g2 hpl.1 (by show Sn ≠ 0; omega) hpl.2.1 hpl.2.2 (by show (-(D * D)).natAbs < _; exact Nat.lt_of_le_of_lt (show (-(D * D)).natAbs ≤ 266338304 * 266338304 by omega) (by decide +kernel)) (by show Sn < _; exact Nat.lt_of_le_of_lt (show Sn ≤ 16129 * 64 by omega) (by decide +kernel))
      have hsum := HSUM.out
      rw [Int.toNat_natCast] at hsum
      rw [hsum] at hqa
      have hre := fun v W g => qfReal_any v RQ W g
      have hpu := fun v W g => qfPut_any v RQ W g HSML.out.1 HSML.out.2.1 HSML.out.2.2
      have HRT := Lib.hid hrt; have HQA := Lib.hid hqa; have HNG := Lib.hid hng; have HRE := Lib.hid hre; have HPU := Lib.hid hpu
      clear hrt hqa hng hre hpu hsum hpl hd1 hdbM hsbM
      go_wp2_with (go_at_call 85; (try simp only [Nat.add_sub_cancel_left]); refine (HPW.out _ _ _ _ _ HCH.out HCX.out).mono ?_; rintro e wa ⟨rfl, hba⟩)
      have HSW := Lib.hid (HSBX.out.below hba (Nat.le_refl _))
      have hlea := hba.size
      have HCA := Lib.hid (HCH.out.below hba (Nat.le_refl _))
      have FW : ∀ W, Below wa.heap.size wa W → SumB W w5.heap.size s an nn cn ad d cd (frSum (G j)) := fun W h => HSW.out.below h (Nat.le_refl _)
      have HFW := Lib.hid FW
      have x0 : wa.cell? ⟨w5.heap.size, 0, none⟩ = some (.bool s) := HSW.out.1.cell 0
      have x1 : wa.cell? ⟨w5.heap.size, 1, none⟩ = some (.slice an nn cn) := HSW.out.1.cell 1
      have x2 : wa.cell? ⟨w5.heap.size, 2, none⟩ = some (.bool false) := HSW.out.1.cell 2
      have x3 : wa.cell? ⟨w5.heap.size, 3, none⟩ = some (.slice ad d cd) := HSW.out.1.cell 3
      clear FW
      go_region_with (first
        | (go_at_call 67; refine (HNM.out _ _ wa.drew HCA.out).mono ?_; rintro e wc ⟨rfl, hbc⟩; have hbc : Below wa.heap.size wa wc := ((Below.refl wa.heap.size wa).drew).trans hbc; have r0 := cell_keep x0 hbc (Nat.le_refl _); have r1 := cell_keep x1 hbc (Nat.le_refl _); have r2 := cell_keep x2 hbc (Nat.le_refl _); have r3 := cell_keep x3 hbc (Nat.le_refl _))
        | (go_at_call 87; refine (HRT.out _).mono ?_; rintro e wd ⟨⟨vq, rfl, hvq⟩, hbd⟩; have HVQ := Lib.hid hvq; have hbd : Below wa.heap.size wa wd := hbc.trans (hbd.mono hbc.size); have t0 := cell_keep x0 hbd (Nat.le_refl _); have t1 := cell_keep x1 hbd (Nat.le_refl _); have t2 := cell_keep x2 hbd (Nat.le_refl _); have t3 := cell_keep x3 hbd (Nat.le_refl _); clear hvq)
        | (go_at_call 88; refine (HNG.out _ _ HVQ.out).mono ?_; rintro e wf ⟨⟨vg, rfl, hvg⟩, hbf⟩; have HVG := Lib.hid hvg; have hbf : Below wa.heap.size wa wf := hbd.trans (hbf.mono hbd.size); have k0 := cell_keep x0 hbf (Nat.le_refl _); have k1' := cell_keep x1 hbf (Nat.le_refl _); have k2' := cell_keep x2 hbf (Nat.le_refl _); have k3 := cell_keep x3 hbf (Nat.le_refl _); clear hvg)
        | (go_at_call 86; refine (HQA.out _ _ _ (HFW.out _ hbf).2 HVG.out).mono ?_; rintro e we ⟨⟨vs, rfl, hvs⟩, hbe⟩; have hbe : Below wa.heap.size wa we := hbf.trans (hbe.mono hbf.size); obtain ⟨s', an', nn', cn', ad', d', cd', rfl⟩ := hvs.cases; have HVS := Lib.hid hvs; have HBE := Lib.hid (HFW.out _ hbe).1; have p0 := cell_keep x0 hbe (Nat.le_refl _); have p1 := cell_keep x1 hbe (Nat.le_refl _); have p2 := cell_keep x2 hbe (Nat.le_refl _); have p3 := cell_keep x3 hbe (Nat.le_refl _); have pf0 := HBE.out.free 0; have pf1 := HBE.out.free 1; have pf2 := HBE.out.free 2; have pf3 := HBE.out.free 3; have hlt5 := HBE.out.lt; clear hvs))
      all_goals
        have hfin := SumB.put HBE.out HVS.out
        have hgr : Below w.heap.size w we := gr.trans ((hba.mono gr.size).trans (hbe.mono (Nat.le_trans gr.size hlea)))
        have hw5 : w.heap.size ≤ w5.heap.size := HG5.out.size
        have hbz := (((hgr.setCell (p := ⟨w5.heap.size, 0, none⟩) hw5 (.bool s')).setCell (p := ⟨w5.heap.size, 1, none⟩) hw5 (.slice an' nn' cn')).setCell (p := ⟨w5.heap.size, 2, none⟩) hw5 (.bool false)).setCell (p := ⟨w5.heap.size, 3, none⟩) hw5 (.slice ad' d' cd')
        have HFIN := Lib.hid hfin
        clear hfin
        generalize (((we.setCell ⟨w5.heap.size, 0, none⟩ (.bool s')).setCell ⟨w5.heap.size, 1, none⟩ (.slice an' nn' cn')).setCell ⟨w5.heap.size, 2, none⟩ (.bool false)).setCell ⟨w5.heap.size, 3, none⟩ (.slice ad' d' cd') = wg at *
        have z0 : wg.cell? ⟨w5.heap.size, 0, none⟩ = some (.bool s') := HFIN.out.1.cell 0
        have z1 : wg.cell? ⟨w5.heap.size, 1, none⟩ = some (.slice an' nn' cn') := HFIN.out.1.cell 1
        have z2 : wg.cell? ⟨w5.heap.size, 2, none⟩ = some (.bool false) := HFIN.out.1.cell 2
        have z3 : wg.cell? ⟨w5.heap.size, 3, none⟩ = some (.slice ad' d' cd') := HFIN.out.1.cell 3
        go_wp2_with (first
          | (go_at_call 76; refine (HRE.out _ _ HFIN.out.2).mono ?_; rintro e wh ⟨⟨vr, rfl, hvr⟩, hbh⟩; have HVR := Lib.hid hvr; clear hvr)
          | (go_at_call 75; refine (HPU.out _ _ HVR.out).mono ?_; rintro e wi ⟨rfl, hbi⟩))
        go_ret2
        exact ⟨rfl, hbz.trans ((hbh.trans (hbi.mono hbh.size)).mono hbz.size)⟩
end Go.Proofs.YtbjhjbjjfbmoeaaGreatDoor
