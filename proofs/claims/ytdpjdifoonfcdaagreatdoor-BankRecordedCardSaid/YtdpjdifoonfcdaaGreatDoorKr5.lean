/- Parts of a proof, in build order: Bz, Cf, Ck, Cl, Cm, Cn, M6, M7, M8, M9, Ma. -/
import Derived.Test.YtdpjdifoonfcdaaGreatDoorKr4
import Derived.Maps.AppendAt
import Derived.Lib.CutLaws
import Derived.Lib.IndexBytes

namespace Go.Proofs.YtdpjdifoonfcdaaGreatDoor
open Go.RowKit
theorem sameChirps_any (aa ab : Option Addr) (xs ys : List (Int × Int)) (ca cb : Nat) (w : World) (ha : Cells w aa (prs xs)) (hb : Cells w ab (prs ys)) (hl : xs.length <= 9223372036854775807) (hl' : ys.length <= 9223372036854775807) :
 Calls Tryz.prog 21 #[.slice aa xs.length ca, .slice ab ys.length cb] w fun e w' => e = .returned (.bool (decide (xs = ys))) /\ Below w.heap.size w w' := by
 by_cases hlen : xs.length = ys.length
 · have h1 : ((xs.length : Int) != ys.length) = false := by simp [hlen]
   have hlt : (ys.length : Int) <= xs.length := by omega
   have HL := Lib.hid hlen; clear hlen
   go_enter Tryz.func21, Tryz.ntmps21
   go_wp2
   go_loopw [5] (fun i wr => ∃ k : Nat, k <= xs.length /\ i = .int .i64 k /\ xs.take k = ys.take k /\ Below w.heap.size w wr) (fun i _ => xs.length - (intOf i).toNat)
   case atStart => exact ⟨0, Nat.zero_le _, rfl, rfl, Below.refl _ _⟩
   case round =>
    obtain ⟨k, hk, rfl, heq, hbe⟩ := hrel
    have HQ := Lib.hid heq; clear heq
    by_cases hlt : k < xs.length
    · have hlt2 : k < ys.length := by have := HL.out; omega
      obtain ⟨⟨x1, x2⟩, hx⟩ := get_of_lt hlt
      obtain ⟨⟨y1, y2⟩, hy⟩ := get_of_lt hlt2
      obtain ⟨b, off, rfl⟩ := ha.addr (prs_ne (by omega))
      obtain ⟨b2, off2, rfl⟩ := hb.addr (prs_ne (by omega))
      have c1 := cell_keep (ha.at (prs_fst hx)) hbe (Nat.le_refl _)
      have c2 := cell_keep (ha.at (prs_snd hx)) hbe (Nat.le_refl _)
      have c3 := cell_keep (hb.at (prs_fst hy)) hbe (Nat.le_refl _)
      have c4 := cell_keep (hb.at (prs_snd hy)) hbe (Nat.le_refl _)
      rw [<- Nat.add_assoc] at c2 c4
      simp only at c1 c2 c3 c4
      have i1 : (k : Int) < xs.length := by omega
      have i2 : (k : Int) < ys.length := by omega
      have i3 : (0 : Int) <= k := by omega
      by_cases hxy : x1 = y1 /\ x2 = y2
      · obtain ⟨rfl, rfl⟩ := hxy
        have ht : xs.take (k + 1) = ys.take (k + 1) := by rw [take_get hx, take_get hy, HQ.out]
        have HT := Lib.hid ht; clear ht hx hy
        go_wp2
        go_quiet (fail)
        go_wp2
        go_roundw
        case rel => exact ⟨k + 1, by omega, by go_num, HT.out, bel_drewN hbe _⟩
        case measure => simp [intOf]; omega
      · have hne : decide (xs = ys) = false := by
         rw [decide_eq_false_iff_not]; rintro rfl
         rw [hx] at hy; simp at hy; exact hxy hy
        have HNE := Lib.hid hne; clear hne hx hy
        by_cases hx1 : x1 = y1
        · obtain rfl := hx1
          have hb1 : (x2 == y2) = false := by simpa using hxy
          go_wp2
          go_quiet (fail)
          go_wp2
          go_ret
          exact ⟨ret_bool HNE.out.symm, bel_drewN hbe _⟩
        · have hb1 : (x1 == y1) = false := by simpa using hx1
          go_wp2
          go_quiet (fail)
          go_wp2
          go_ret
          exact ⟨ret_bool HNE.out.symm, bel_drewN hbe _⟩
    · obtain rfl : k = xs.length := by omega
      have he : decide (xs = ys) = true := by
       rw [decide_eq_true_iff]
       have := HQ.out
       rw [List.take_length, HL.out, List.take_length] at this; exact this
      have HE := Lib.hid he; clear he
      go_wp2
      go_ret
      exact ⟨ret_bool HE.out.symm, hbe⟩
 · have h1 : ((xs.length : Int) != ys.length) = true := by simp; omega
   have he : decide (xs = ys) = false := by
    rw [decide_eq_false_iff_not]; rintro rfl; exact hlen rfl
   have HE := Lib.hid he; clear he
   go_enter Tryz.func21, Tryz.ntmps21
   go_wp2
   go_ret
   exact ⟨ret_bool HE.out.symm, Below.refl _ _⟩
end Go.Proofs.YtdpjdifoonfcdaaGreatDoor

namespace Go.Proofs.YtdpjdifoonfcdaaGreatDoor
open Go.RowKit
def famOK (L a b c d : Int) : Bool := inB 4 L 64 && decide (0 <= a /\ a <= b /\ b < 64 /\ 0 <= c /\ c <= d /\ d < 64) && decide ((b - a + 1) * (d - c + 1) <= 400)
set_option maxRecDepth 100000 in
set_option maxHeartbeats 4000000 in
theorem familyOK_any (L a b c d : Int) (w : World) :
 Calls Tryz.prog 96 #[.agg #[.int .i64 L, .int .i64 a, .int .i64 b, .int .i64 c, .int .i64 d]] w fun e w' => e = .returned (.bool (famOK L a b c d)) /\ Below w.heap.size w w' := by
 cases h1 : inB 4 L 64
 · have he : famOK L a b c d = false := by simp [famOK, h1]
   have HE := Lib.hid he; clear he
   go_enter Tryz.func96, Tryz.ntmps96
   go_wp2_with (go_at_call 66; refine (bwithin_any _ _ _ _).mono ?_; rintro e w' ⟨rfl, rfl⟩)
   go_ret
   exact ⟨ret_bool (by rw [HE.out]), (Below.refl _ _).alloc (Nat.le_refl _) _⟩
 · by_cases h2 : ¬ (0 <= a)
   · have he : famOK L a b c d = false := by simp only [famOK, h1, Bool.true_and]; rw [decide_eq_false (by omega)]; rfl
     have HE := Lib.hid he; clear he
     go_enter Tryz.func96, Tryz.ntmps96
     go_wp2_with (go_at_call 66; refine (bwithin_any _ _ _ _).mono ?_; rintro e w' ⟨rfl, rfl⟩)
     go_ret
     exact ⟨ret_bool (by rw [HE.out]), (Below.refl _ _).alloc (Nat.le_refl _) _⟩
   have h2 := Decidable.not_not.1 h2
   by_cases h3 : ¬ (a <= b)
   · have he : famOK L a b c d = false := by simp only [famOK, h1, Bool.true_and]; rw [decide_eq_false (by omega)]; rfl
     have HE := Lib.hid he; clear he
     go_enter Tryz.func96, Tryz.ntmps96
     go_wp2_with (go_at_call 66; refine (bwithin_any _ _ _ _).mono ?_; rintro e w' ⟨rfl, rfl⟩)
     go_ret
     exact ⟨ret_bool (by rw [HE.out]), (Below.refl _ _).alloc (Nat.le_refl _) _⟩
   have h3 := Decidable.not_not.1 h3
   by_cases h4 : ¬ (b < 64)
   · have he : famOK L a b c d = false := by simp only [famOK, h1, Bool.true_and]; rw [decide_eq_false (by omega)]; rfl
     have HE := Lib.hid he; clear he
     go_enter Tryz.func96, Tryz.ntmps96
     go_wp2_with (go_at_call 66; refine (bwithin_any _ _ _ _).mono ?_; rintro e w' ⟨rfl, rfl⟩)
     go_ret
     exact ⟨ret_bool (by rw [HE.out]), (Below.refl _ _).alloc (Nat.le_refl _) _⟩
   have h4 := Decidable.not_not.1 h4
   by_cases h5 : ¬ (0 <= c)
   · have he : famOK L a b c d = false := by simp only [famOK, h1, Bool.true_and]; rw [decide_eq_false (by omega)]; rfl
     have HE := Lib.hid he; clear he
     go_enter Tryz.func96, Tryz.ntmps96
     go_wp2_with (go_at_call 66; refine (bwithin_any _ _ _ _).mono ?_; rintro e w' ⟨rfl, rfl⟩)
     go_ret
     exact ⟨ret_bool (by rw [HE.out]), (Below.refl _ _).alloc (Nat.le_refl _) _⟩
   have h5 := Decidable.not_not.1 h5
   by_cases h6 : ¬ (c <= d)
   · have he : famOK L a b c d = false := by simp only [famOK, h1, Bool.true_and]; rw [decide_eq_false (by omega)]; rfl
     have HE := Lib.hid he; clear he
     go_enter Tryz.func96, Tryz.ntmps96
     go_wp2_with (go_at_call 66; refine (bwithin_any _ _ _ _).mono ?_; rintro e w' ⟨rfl, rfl⟩)
     go_ret
     exact ⟨ret_bool (by rw [HE.out]), (Below.refl _ _).alloc (Nat.le_refl _) _⟩
   have h6 := Decidable.not_not.1 h6
   by_cases h7 : ¬ (d < 64)
   · have he : famOK L a b c d = false := by simp only [famOK, h1, Bool.true_and]; rw [decide_eq_false (by omega)]; rfl
     have HE := Lib.hid he; clear he
     go_enter Tryz.func96, Tryz.ntmps96
     go_wp2_with (go_at_call 66; refine (bwithin_any _ _ _ _).mono ?_; rintro e w' ⟨rfl, rfl⟩)
     go_ret
     exact ⟨ret_bool (by rw [HE.out]), (Below.refl _ _).alloc (Nat.le_refl _) _⟩
   have h7 := Decidable.not_not.1 h7
   have p1 : 1 <= b - a + 1 /\ b - a + 1 <= 64 := by omega
   have p2 : 1 <= d - c + 1 /\ d - c + 1 <= 64 := by omega
   have p3 : 0 <= (b - a + 1) * (d - c + 1) /\ (b - a + 1) * (d - c + 1) <= 4096 := by
    have := Int.mul_le_mul p1.2 p2.2 (by omega) (by omega)
    have := Int.mul_nonneg (show 0 <= b - a + 1 by omega) (show 0 <= d - c + 1 by omega)
    omega
   have q1 : IntKind.i64.wrap ((b - a + 1) * (d - c + 1)) = (b - a + 1) * (d - c + 1) := IntWalk.i64_in _ (by omega)
   have he : famOK L a b c d = decide ((b - a + 1) * (d - c + 1) <= 400) := by simp only [famOK, h1, Bool.true_and]; rw [decide_eq_true (by omega)]; rfl
   have HE := Lib.hid he; clear he
   go_enter Tryz.func96, Tryz.ntmps96
   go_wp2_with (go_at_call 66; refine (bwithin_any _ _ _ _).mono ?_; rintro e w' ⟨rfl, rfl⟩)
   go_ret
   exact ⟨ret_bool (by rw [HE.out]), (Below.refl _ _).alloc (Nat.le_refl _) _⟩
end Go.Proofs.YtdpjdifoonfcdaaGreatDoor

namespace Go.Proofs.YtdpjdifoonfcdaaGreatDoor
open Go.RowKit
abbrev Pt (L : Int) : Type := { x : Int × Int // waveOK L x.1 x.2 = true /\ silentB (wav L x.1 x.2) = false }
def ptsAt (L p q : Int) : List (Pt L) := if h : waveOK L p q = true /\ silentB (wav L p q) = false then [⟨(p, q), h⟩] else []
def ptsRow (L p c : Int) : Nat -> List (Pt L)
 | 0 => []
 | k + 1 => ptsRow L p c k ++ ptsAt L p (c + k)
def ptsAll (L a c : Int) (m : Nat) : Nat -> List (Pt L)
 | 0 => []
 | k + 1 => ptsAll L a c m k ++ ptsRow L (a + k) c m
theorem ptsAt_yes {L p q : Int} (h : waveOK L p q = true /\ silentB (wav L p q) = false) : ptsAt L p q = [⟨(p, q), h⟩] := by unfold ptsAt; rw [dif_pos h]
theorem ptsAt_no {L p q : Int} (h : ¬ (waveOK L p q = true /\ silentB (wav L p q) = false)) : ptsAt L p q = [] := by unfold ptsAt; rw [dif_neg h]
theorem ptsAt_len (L p q : Int) : (ptsAt L p q).length <= 1 := by unfold ptsAt; split <;> simp
theorem ptsRow_len (L p c : Int) (k : Nat) : (ptsRow L p c k).length <= k := by
 induction k with
 | zero => simp [ptsRow]
 | succ k ih =>
   have := ptsAt_len L p (c + k)
   simp only [ptsRow, List.length_append]; omega
theorem ptsAll_len (L a c : Int) (m k : Nat) : (ptsAll L a c m k).length <= k * m := by
 induction k with
 | zero => simp [ptsAll]
 | succ k ih =>
   have := ptsRow_len L (a + k) c m
   simp only [ptsAll, List.length_append]
   rw [Nat.add_mul]; omega
theorem ptsRow_prefix (L p c : Int) {i k : Nat} (h : i <= k) : ptsRow L p c i <+: ptsRow L p c k := by
 induction k with
 | zero => rw [show i = 0 by omega]; exact List.prefix_rfl
 | succ k ih =>
   by_cases e : i = k + 1
   · rw [e]; exact List.prefix_rfl
   · exact (ih (by omega)).trans (List.prefix_append _ _)
theorem ptsAll_prefix (L a c : Int) (m : Nat) {j k : Nat} (h : j <= k) : ptsAll L a c m j <+: ptsAll L a c m k := by
 induction k with
 | zero => rw [show j = 0 by omega]; exact List.prefix_rfl
 | succ k ih =>
   by_cases e : j = k + 1
   · rw [e]; exact List.prefix_rfl
   · exact (ih (by omega)).trans (List.prefix_append _ _)
def ptsTo (L a c : Int) (m j i : Nat) : List (Pt L) := ptsAll L a c m j ++ ptsRow L (a + j) c i
theorem ptsTo_prefix (L a c : Int) (m : Nat) {j i k : Nat} (hj : j < k) (hi : i <= m) : ptsTo L a c m j i <+: ptsAll L a c m k :=
 ((List.prefix_append_right_inj _).2 (ptsRow_prefix L (a + j) c hi)).trans (ptsAll_prefix L a c m (show j + 1 <= k by omega))
theorem ptsTo_len (L a c : Int) (m : Nat) {j i k : Nat} (hj : j < k) (hi : i < m) : (ptsTo L a c m j i).length < k * m := by
 have h1 := ptsAll_len L a c m j
 have h2 := ptsRow_len L (a + j) c i
 have h3 : (j + 1) * m <= k * m := Nat.mul_le_mul_right _ (by omega)
 rw [Nat.add_mul] at h3
 simp only [ptsTo, List.length_append]; omega
theorem ptsTo_zero (L a c : Int) (m j : Nat) : ptsTo L a c m j 0 = ptsAll L a c m j := by simp [ptsTo, ptsRow]
theorem ptsTo_succ (L a c : Int) (m j i : Nat) : ptsTo L a c m j (i + 1) = ptsTo L a c m j i ++ ptsAt L (a + j) (c + i) := by simp [ptsTo, ptsRow, List.append_assoc]
theorem ptsTo_full (L a c : Int) (m j : Nat) : ptsTo L a c m j m = ptsAll L a c m (j + 1) := rfl
theorem wpIn_load_row {F : Fence} {n : Nat} {P : Program} {o : Oper} {a : Act} {w : World} {K : Act -> World -> Prop} {Q : Exit -> Act -> World -> Prop} (ty : TypeId) (x : Operand) (ho : o.op = .load ty x)
 (g : Nat) (hx : a.eval x = .pointer (some ⟨g, 0, none⟩)) (t : TypeId) (cs : Array Value) (fr : Nat × Nat) (d : TypeDesc) (hg : w.heap[g]? = some (.cells cs t fr))
 (hu : P.underlying ty = some d) (hd : (match d with | .struct _ | .array _ _ => true | _ => false) = true) (hi : (P.info? ty).map (·.size) = some cs.size)
 (h : K (a.put o.dst (.agg cs)) w) : o.wpIn F n P a w K Q := by
 have hs : ∀ r, Oper.semAt r a.eval o = execOp a.eval o := by
  intro r
  cases r with
  | none => rfl
  | some l => exact Oper.semAt_some l _ o (fun c h => by rw [ho] at h; cases h)
 have he : (execOp a.eval o).run P w = .ok (.value (.agg cs)) w := by
  unfold execOp
  simp only [ho, hx, Instr.loadAt, Instr.sureAddr, Sem.run_bind, Sem.run_pure, Result.andThen_ok, run_loadVar_row w g t ty cs fr d hg hu hd hi]
 unfold Oper.wpIn
 refine ⟨fun f hf => by simp [Oper.about, ho] at hf, ?_⟩
 rw [hs, he, Oper.uponIn_value]
 exact h
theorem wpListIn_load_row {F : Fence} {n : Nat} {P : Program} {ops : Array Oper} {rest : List Oper} {o : Oper} {a : Act} {w : World} {Q : Exit -> Act -> World -> Prop} (hgd : o.guard = none) (ty : TypeId) (x : Operand) (ho : o.op = .load ty x)
 (g : Nat) (hx : a.eval x = .pointer (some ⟨g, 0, none⟩)) (t : TypeId) (cs : Array Value) (fr : Nat × Nat) (d : TypeDesc) (hg : w.heap[g]? = some (.cells cs t fr))
 (hu : P.underlying ty = some d) (hd : (match d with | .struct _ | .array _ _ => true | _ => false) = true) (hi : (P.info? ty).map (·.size) = some cs.size)
 (h : wpListIn F n P ops Q rest (a.put o.dst (.agg cs)) w) : wpListIn F n P ops Q (o :: rest) a w :=
 wpListIn_plain hgd fun _ hK => wpIn_load_row ty x ho g hx t cs fr d hg hu hd hi (hK _ _ h)
end Go.Proofs.YtdpjdifoonfcdaaGreatDoor

namespace Go.Proofs.YtdpjdifoonfcdaaGreatDoor
open Go.RowKit Go.Shelf
theorem abides_below {β : Type} {B : Nat} {J : β -> World -> Prop} (hJ : AbidesFrom B J) {s : β} {W W' : World} (hs : J s W) (hb : Below W.heap.size W W') : J s W' :=
 hJ s W W' none hs ⟨hb.os, hb.tape, hb.output, hb.size, fun k hk _ => hb.block k hk⟩ (fun r e => by cases e)
def KeepB (Bn : Nat) (W W' : World) : Prop := W'.heap[Bn]? = W.heap[Bn]? /\ W.heap.size <= W'.heap.size
theorem KeepB.refl (Bn : Nat) (W : World) : KeepB Bn W W := ⟨rfl, Nat.le_refl _⟩
theorem KeepB.trans {Bn : Nat} {A B C : World} (h : KeepB Bn A B) (k : KeepB Bn B C) : KeepB Bn A C := ⟨k.1.trans h.1, Nat.le_trans h.2 k.2⟩
theorem KeepB.of {Bn n : Nat} {A B : World} (h : Below n A B) (hn : Bn < n) : KeepB Bn A B := ⟨h.block Bn hn, h.size⟩
theorem keepB_b {Bn : Nat} {w : World} (hn : Bn < w.heap.size) (W : World) (l : Nat) (o o' : Obj) (hl : w.heap.size <= l) (h : W.heap[l]? = some o) (h1 : o.isCells = false) (h2 : o.isWalk = false) : KeepB Bn W (W.putObj l o') :=
 .of (belowK_b (w := w) (Nat.le_refl _) W l o o' hl h h1 h2) hn
def ptV {L : Int} (x : Pt L) : Array Value := #[.agg #[.int .i64 x.1.1, .int .i64 x.1.2], .agg (shp L (wav L x.1.1 x.1.2))]
theorem fam_true {L a b c d : Int} (h : famOK L a b c d = true) : 4 <= L /\ L <= 64 /\ 0 <= a /\ a <= b /\ b < 64 /\ 0 <= c /\ c <= d /\ d < 64 /\ (b - a + 1).toNat * (d - c + 1).toNat <= 400 := by
 simp only [famOK, inB, Bool.and_eq_true, decide_eq_true_eq] at h
 obtain ⟨⟨⟨h1, h2⟩, h3, h4, h5, h6, h7, h8⟩, h9⟩ := h
 refine ⟨h1, h2, h3, h4, h5, h6, h7, h8, ?_⟩
 have e : (((b - a + 1).toNat * (d - c + 1).toNat : Nat) : Int) = (b - a + 1) * (d - c + 1) := by
  rw [Int.natCast_mul, Int.toNat_of_nonneg (by omega), Int.toNat_of_nonneg (by omega)]
 omega
set_option maxRecDepth 1000000 in
set_option maxHeartbeats 4000000 in
theorem points1_in (n l Bn B : Nat) (hn : 3 <= n) (L a b c d : Int) (hf : famOK L a b c d = true) (J Jx : List (Pt L) -> World -> Prop) (hJ : AbidesFrom B J)
 (hY : ∀ pre x W, J pre W -> pre.length < (b - a + 1).toNat * (d - c + 1).toNat -> YieldAt Fence.wide (n - 1) Tryz.prog l (ptV x) W fun e W' =>
  (e = .returned (.bool true) /\ J (pre ++ [x]) W' /\ KeepB Bn W W') ∨ (e = .returned (.bool false) /\ Jx (pre ++ [x]) W'))
 (W : World) (hc : W.heap[Bn]? = some (.cells #[.int .i64 L, .int .i64 a, .int .i64 b, .int .i64 c, .int .i64 d] 43 (0, 0))) (h0 : J [] W) :
 CallsIn Fence.wide n Tryz.prog 141 #[.func (.yield l) #[] #[], .pointer (some ⟨Bn, 0, none⟩)] W fun e W' => (∃ v, e = .returned v) /\
  ((∃ ys, ys = ptsAll L a c (d - c + 1).toNat (b - a + 1).toNat /\ J ys W') ∨ (∃ pre, pre <+: ptsAll L a c (d - c + 1).toNat (b - a + 1).toNat /\ Jx pre W')) := by
 have hfm := fam_true hf
 have hBW : Bn < W.heap.size := (Array.getElem?_eq_some_iff.1 hc).1
 have hn1 : 1 <= n := by omega
 have hn2 : 1 <= n - 1 := by omega
 obtain ⟨K, hK⟩ : ∃ K, K = (b - a + 1).toNat := ⟨_, rfl⟩
 obtain ⟨m, hm⟩ : ∃ m, m = (d - c + 1).toNat := ⟨_, rfl⟩
 rw [<- hK, <- hm] at hY ⊢
 obtain ⟨Z, hZ⟩ : ∃ Z, Z = shp 0 (smp 0 0 0) := ⟨_, rfl⟩
 have z : Tryz.zeroCells129 = Z := by rw [hZ]; exact zero101
 have hZs : Z.size = 65 := by rw [hZ, shp_size, smp_length]
 clear hZ
 have HC := Lib.hid hc; clear hc
 have HKM := Lib.hid (And.intro hK hm); clear hK hm
 have HY := Lib.hid hY; clear hY
 have hcell : ∀ wx, KeepB Bn W wx -> wx.cell? ⟨Bn, 0, none⟩ = some (.int .i64 L) /\ wx.cell? ⟨Bn, 1, none⟩ = some (.int .i64 a) /\ wx.cell? ⟨Bn, 2, none⟩ = some (.int .i64 b) /\ wx.cell? ⟨Bn, 3, none⟩ = some (.int .i64 c) /\ wx.cell? ⟨Bn, 4, none⟩ = some (.int .i64 d) := by
  intro wx hb
  have h := hb.1.trans HC.out
  exact ⟨(cell_of_row wx _ 0 _ _ _ h).trans rfl, (cell_of_row wx _ 1 _ _ _ h).trans rfl, (cell_of_row wx _ 2 _ _ _ h).trans rfl, (cell_of_row wx _ 3 _ _ _ h).trans rfl, (cell_of_row wx _ 4 _ _ _ h).trans rfl⟩
 have HCE := Lib.hid hcell; clear hcell
 refine callsIn_of_wp Tryz.func141 rfl trivial ?_ rfl
 simp only [Tryz.ntmps141, List.size_toArray, List.length_cons, List.length_nil, Nat.reduceAdd, Nat.reduceSub, Array.replicate_succ, Array.replicate_zero, List.push_toArray, List.append_toArray, List.nil_append, List.cons_append]
 have q1 := (HCE.out W (KeepB.refl _ _)).2.1
 gi_wp2
 clear q1
 gi_loopw [3] (fun p wr => ∃ j : Nat, j <= K /\ p = .int .i64 (a + (j : Int)) /\ J (ptsAll L a c m j) wr /\ KeepB Bn W wr)
  (fun p _ => (b + 1 - intOf p).toNat)
 case atStart => exact ⟨0, Nat.zero_le _, by simp, h0, KeepB.refl _ _⟩
 case round =>
  obtain ⟨j, hj, rfl, hJs, hnx⟩ := hrel
  obtain ⟨hK, hm⟩ := HKM.out
  by_cases hlt : j < K
  · have g1 : a + (j : Int) <= b := by omega
    have g2 : 0 <= a + (j : Int) := by omega
    have g3 : a + (j : Int) < 64 := by omega
    have E1 := Lib.hid (show a + ((j + 1 : Nat) : Int) = a + (j : Int) + 1 by push_cast; omega)
    obtain ⟨p, hp⟩ : ∃ p, p = a + (j : Int) := ⟨_, rfl⟩
    rw [<- hp] at g1 g2 g3 E1
    rw [<- hp]
    have HP := Lib.hid hp; clear hp
    obtain ⟨_, _, q2, q3, _⟩ := HCE.out wr hnx
    clear hK hm
    gi_wp2
    clear q2 q3
    obtain ⟨wo, rfl⟩ : ∃ wo : World, wo = wr := ⟨_, rfl⟩
    gi_loopw [4] (fun q wr => ∃ i : Nat, i <= m /\ q = .int .i64 (c + (i : Int)) /\ J (ptsTo L a c m j i) wr /\ KeepB Bn W wr)
     (fun q _ => (d + 1 - intOf q).toNat)
    case atStart => exact ⟨0, Nat.zero_le _, by simp, by rw [ptsTo_zero]; exact hJs, hnx⟩
    case round =>
     obtain ⟨i, hi, rfl, hJs, hnx⟩ := hrel
     obtain ⟨hK, hm⟩ := HKM.out
     by_cases hlt2 : i < m
     · have k1 : c + (i : Int) <= d := by omega
       have k2 : 0 <= c + (i : Int) := by omega
       have k3 : c + (i : Int) < 64 := by omega
       have E2 := Lib.hid (show c + ((i + 1 : Nat) : Int) = c + (i : Int) + 1 by push_cast; omega)
       have HS := Lib.hid (ptsTo_succ L a c m j i)
       have hlen := ptsTo_len L a c m hlt hlt2
       have hpre : ptsTo L a c m j (i + 1) <+: ptsAll L a c m K := ptsTo_prefix L a c m hlt (by omega)
       have hp := HP.out
       obtain ⟨q, hq⟩ : ∃ q, q = c + (i : Int) := ⟨_, rfl⟩
       rw [<- hq] at k1 k2 k3 E2 HS
       rw [<- hp] at HS
       rw [<- hq]
       have hwok : waveOK L p q = true := by simp [waveOK, inB]; omega
       have hw := fun w => wave_any L p q w
       have hVs := waveV_size L p q
       have hV1 := waveV_one L p q
       have hsi := fun w => silent_any L (wav L p q) w (wav_length _ _ _)
       rw [show shp L (wav L p q) = waveV L p q by simp [waveV, hwok]] at hsi
       rw [hwok] at hw
       have hst := store_shape (waveV L p q) Z hVs hZs hV1
       have hyy : ∀ wx, J (ptsTo L a c m j i) wx -> ∀ h : waveOK L p q = true /\ silentB (wav L p q) = false, YieldAt Fence.wide (n - 1) Tryz.prog l #[.agg #[.int .i64 p, .int .i64 q], .agg (waveV L p q)] wx fun e W' =>
        (e = .returned (.bool true) /\ J (ptsTo L a c m j (i + 1)) W' /\ KeepB Bn wx W') ∨ (e = .returned (.bool false) /\ Jx (ptsTo L a c m j (i + 1)) W') := by
        intro wx hJx h
        have := HY.out _ ⟨(p, q), h⟩ wx hJx hlen
        rw [HS.out, ptsAt_yes h]
        have e : ptV (L := L) ⟨(p, q), h⟩ = #[.agg #[.int .i64 p, .int .i64 q], .agg (waveV L p q)] := by simp [ptV, waveV, hwok]
        rw [e] at this
        exact this
       have hno : silentB (wav L p q) = true -> ptsTo L a c m j (i + 1) = ptsTo L a c m j i := by
        intro h
        rw [HS.out, ptsAt_no (by rw [h]; simp), List.append_nil]
       have hinf : (Tryz.prog.info? 129).map (·.size) = some (waveV L p q).size := by rw [hVs]; kernel_rfl
       generalize waveV L p q = V at *
       have hne : ¬ V = #[] := by intro h; rw [h] at hVs; simp at hVs
       have HI := Lib.hid hinf; clear hinf
       have HW := Lib.hid hw; clear hw
       have HSI := Lib.hid hsi; clear hsi
       have HNO := Lib.hid hno; clear hno
       have HYY := Lib.hid hyy; clear hyy
       have HWOK := Lib.hid hwok; clear hwok
       have HPRE := Lib.hid hpre; clear hpre
       have HHQ := Lib.hid hq; clear hq hp hV1
       obtain ⟨r0, _, _, _, r4⟩ := HCE.out wr hnx
       have q4 := r4
       clear hK hm
       have hwn : Bn < wr.heap.size := Nat.lt_of_lt_of_le hBW hnx.2
       have r0a := cell_keep r0 ((Below.refl _ wr).alloc (Nat.le_refl _) (.cells #[.int .i64 p, .int .i64 q] 23)) (Nat.le_refl _)
       clear r0 r4
       have hc23 : (wr.alloc (.cells #[.int .i64 p, .int .i64 q] 23)).heap[wr.heap.size]? = some (.cells #[.int .i64 p, .int .i64 q] 23 (0, 0)) := heap_alloc_new _ _
       have HC23 := Lib.hid hc23; clear hc23
       cases hsb : silentB (wav L p q)
       · have HSB := Lib.hid hsb; clear hsb
         rw [HSB.out] at HSI
         gi_wp2_with (first
          | (refine ⟨trivial, ?_⟩; gi_at_call 63; refine (callsIn_wide.2 (HW.out _)).mono ?_; rintro e w1 ⟨rfl, hb1⟩; refine Hid.out ?_))
         have hbw1 : Below wr.heap.size wr w1 := ((Below.refl _ wr).alloc (Nat.le_refl _) _).trans (hb1.mono (by simp))
         have hbw1a : Below wr.heap.size wr (w1.alloc (.cells V 129)) := hbw1.alloc hbw1.size _
         have hsz1 := hb1.size
         rw [World.size_alloc] at hsz1
         have hcr : (w1.alloc (.cells V 129)).heap[wr.heap.size]? = some (.cells #[.int .i64 p, .int .i64 q] 23 (0, 0)) := (hold_old w1 _ _ (by omega)).trans ((hb1.block _ (by simp)).trans HC23.out)
         have HCR := Lib.hid hcr; clear hcr
         refine Lib.hid ?_
         gi_wp2_with (first
          | (refine wpListIn_load_row (by rfl) 129 _ (by rfl) w1.heap.size (by rfl) _ V _ _ (heap_alloc_new _ _) Tryz.underlying129 (by rfl) HI.out ?_)
          | (refine ⟨trivial, ?_⟩; gi_at_call 64; refine (callsIn_wide.2 (HSI.out _)).mono ?_; rintro e w2 ⟨rfl, hb2⟩; refine Hid.out ?_))
         have hbw2 : Below wr.heap.size wr w2 := hbw1a.trans (hb2.mono hbw1a.size)
         have hJ2 := abides_below hJ hJs hbw2
         have hsz2 := hb2.size
         rw [World.size_alloc] at hsz2
         have hcr2 := (hb2.block wr.heap.size (by simp; omega)).trans HCR.out
         have hx0 := (cell_of_row w2 _ 0 _ _ _ hcr2).trans rfl
         have hx1 := (cell_of_row w2 _ 1 _ _ _ hcr2).trans rfl
         have hrow2 : w2.heap[w1.heap.size]? = some (.cells V 129 (0, 0)) := (hb2.block _ (by simp)).trans (heap_alloc_new _ _)
         have HROW2 := Lib.hid hrow2; clear hrow2 hcr2
         obtain ⟨fn, tmps, assign, body, hy, hR⟩ := HYY.out w2 hJ2 ⟨HWOK.out, HSB.out⟩
         refine Lib.hid ?_
         gi_wp2_with (first
          | (refine wpListIn_step (fun K hK => ?_); rw [if_pos (by rfl)]; refine wpIn_load_row 129 _ (by rfl) w1.heap.size (by rfl) 129 V (0, 0) _ HROW2.out Tryz.underlying129 (by rfl) HI.out ?_; refine hK _ _ ?_; clear hK K; simp only [Act.put, List.setIfInBounds_toArray, List.set_cons_zero, List.set_cons_succ]))
         have hnx2 : KeepB Bn W w2 := hnx.trans (.of hbw2 hwn)
         refine hR.mono ?_
         rintro e W3 (⟨rfl, hJ3, hk3⟩ | ⟨rfl, hJx3⟩)
         · gi_wp2
           go_roundw
           case rel => exact ⟨i + 1, by omega, by rw [E2.out], hJ3, hnx2.trans hk3⟩
           case measure => simp [intOf]; omega
         · gi_wp2
           refine bodyPost_ret (results_none rfl _ _ _) rfl ?_
           exact ⟨⟨_, rfl⟩, .inr ⟨_, HPRE.out, hJx3⟩⟩
       · have HSB := Lib.hid hsb; clear hsb
         rw [HSB.out] at HSI
         gi_wp2_with (first
          | (refine ⟨trivial, ?_⟩; gi_at_call 63; refine (callsIn_wide.2 (HW.out _)).mono ?_; rintro e w1 ⟨rfl, hb1⟩; refine Hid.out ?_))
         have hbw1 : Below wr.heap.size wr w1 := ((Below.refl _ wr).alloc (Nat.le_refl _) _).trans (hb1.mono (by simp))
         have hbw1a : Below wr.heap.size wr (w1.alloc (.cells V 129)) := hbw1.alloc hbw1.size _
         refine Lib.hid ?_
         gi_wp2_with (first
          | (refine wpListIn_load_row (by rfl) 129 _ (by rfl) w1.heap.size (by rfl) _ V _ _ (heap_alloc_new _ _) Tryz.underlying129 (by rfl) HI.out ?_)
          | (refine ⟨trivial, ?_⟩; gi_at_call 64; refine (callsIn_wide.2 (HSI.out _)).mono ?_; rintro e w2 ⟨rfl, hb2⟩; refine Hid.out ?_))
         have hbw2 : Below wr.heap.size wr w2 := hbw1a.trans (hb2.mono hbw1a.size)
         have hJ2 := abides_below hJ hJs hbw2
         have hnx2 : KeepB Bn W w2 := hnx.trans (.of hbw2 hwn)
         refine Lib.hid ?_
         gi_wp2
         refine ⟨fun _ h => (by cases h), ?_⟩
         gi_wp2
         go_roundw
         case rel => exact ⟨i + 1, by omega, by rw [E2.out], by rw [HNO.out HSB.out]; exact hJ2, hnx2⟩
         case measure => simp [intOf]; omega
     · obtain rfl : i = m := by omega
       have k1 : ¬ (c + (i : Int) <= d) := by omega
       have k2 : 0 <= c + (i : Int) /\ c + (i : Int) <= 64 := by omega
       obtain ⟨_, _, _, _, q4⟩ := HCE.out wr hnx
       rw [ptsTo_full] at hJs
       clear hK hm
       generalize c + (i : Int) = q at *
       gi_wp2
       go_roundw
       case rel => exact ⟨j + 1, by omega, by rw [E1.out], hJs, hnx⟩
       case measure => simp [intOf]; omega
  · obtain rfl : j = K := by omega
    have g1 : ¬ (a + (j : Int) <= b) := by omega
    have g2 : 0 <= a + (j : Int) /\ a + (j : Int) <= 64 := by omega
    obtain ⟨_, _, q2, _, _⟩ := HCE.out wr hnx
    clear hK hm
    generalize a + (j : Int) = p at *
    gi_wp2
    go_end0
    first | exact ⟨⟨_, rfl⟩, .inl hJs⟩ | exact ⟨⟨_, rfl⟩, .inl ⟨_, rfl, hJs⟩⟩
theorem points_stops (n : Nat) (hn : 3 <= n) (Bn : Nat) (L a b c d : Int) (hf : famOK L a b c d = true) (w : World)
 (hc : w.heap[Bn]? = some (.cells #[.int .i64 L, .int .i64 a, .int .i64 b, .int .i64 c, .int .i64 d] 43 (0, 0))) :
 SeqStopsK Fence.wide n Tryz.prog 141 #[.pointer (some ⟨Bn, 0, none⟩)] (ptV (L := L)) (KeepB Bn) (fun ys => ys = ptsAll L a c (d - c + 1).toNat (b - a + 1).toNat) (fun pre => pre <+: ptsAll L a c (d - c + 1).toNat (b - a + 1).toNat) ((b - a + 1).toNat * (d - c + 1).toNat) w := fun l J Jx W hW hJ _ hY h0 =>
 points1_in n l Bn W.heap.size hn L a b c d hf J Jx hJ hY W ((hW.block Bn (Array.getElem?_eq_some_iff.1 hc).1).trans hc) h0
end Go.Proofs.YtdpjdifoonfcdaaGreatDoor

namespace Go.Proofs.YtdpjdifoonfcdaaGreatDoor
open Go.RowKit Go.Shelf
theorem Tryz.infoChirp : (Tryz.prog.info? 23).map (fun i => (i.zero, i.size, i.bytes)) = some (some (.agg #[.int .i64 0, .int .i64 0]), 2, 16) := by kernel_rfl
theorem points_any (L a b c d : Int) (w : World) :
 Calls Tryz.prog 74 #[.agg #[.int .i64 L, .int .i64 a, .int .i64 b, .int .i64 c, .int .i64 d]] w fun e w' => e = .returned (.func (.func 141) #[] #[.pointer (some ⟨w.heap.size, 0, none⟩)]) /\ w' = w.alloc (.cells #[.int .i64 L, .int .i64 a, .int .i64 b, .int .i64 c, .int .i64 d] 43) := by
 go_enter Tryz.func74, Tryz.ntmps74
 go_wp2
 go_ret
 exact ⟨rfl, rfl⟩
theorem box_appended {W w1 : World} {n₀ B : Nat} {t e : TypeId} {size : Nat} {v v' : Value} {k m : Nat} {xs ys : List Value} {tmp : Obj}
 (hv : Boxed W B t v) (hrow : W.ownsRow n₀ e size v k xs) (hn₀ : n₀ <= W.heap.size) (hB : B < n₀) (hown' : w1.ownsRow n₀ e size v' m ys) (hgrow : (W.alloc tmp).grownBy w1 v.ownBlock) :
 Boxed w1 B t v /\ Boxed (w1.setCell ⟨B, 0, none⟩ v') B t v' /\ (w1.setCell ⟨B, 0, none⟩ v').ownsRow n₀ e size v' m ys /\ KeepsOthers W (w1.setCell ⟨B, 0, none⟩ v') /\ Below B W (w1.setCell ⟨B, 0, none⟩ v') /\ ∀ j, j < n₀ -> j ≠ B -> KeepB j W (w1.setCell ⟨B, 0, none⟩ v') := by
 have hne : some B ≠ v.ownBlock := fun e => by have := (hrow.lt B e.symm).1; omega
 have hne' : v'.ownBlock ≠ some B := fun e => by have := (hown'.lt B e).1; omega
 have hv1 : Boxed w1 B t v := (hv.alloc tmp).kept hgrow hne
 refine ⟨hv1, hv1.set v', hown'.kept (grownBy_setCell' w1 B v') (.inr hne'), ?_, ?_, ?_⟩
 · refine ((KeepsOthers.alloc W tmp).trans (KeepsOthers.of_grownBy hgrow fun j o ej hj => ?_)).trans (KeepsOthers.setCell _ _ _)
   rcases (hrow.alloc tmp).2 with ⟨rfl, _⟩ | ⟨g, cap, cur, rfl, _, hgb, _⟩
   · simp [Value.ownBlock] at ej
   · obtain rfl : g = j := by simpa [Value.ownBlock] using ej
     rw [hgb] at hj; cases hj; rfl
 · refine (((Below.refl B W).alloc (by omega) tmp).grown hgrow (by simp; omega) fun j ej => ?_).setCell (p := ⟨B, 0, none⟩) (Nat.le_refl _) v'
   have := (hrow.lt j ej).1; omega
 · intro j hj hjB
   refine ⟨(heap_setCell_other _ _ _ _ (by show j ≠ B; exact hjB)).trans ((hgrow.block j (by simp; omega) (fun e => by have := (hrow.lt j e.symm).1; omega)).trans (hold_old _ _ _ (by omega))), ?_⟩
   have h1 := hgrow.size
   rw [World.size_alloc] at h1
   have h2 := (KeepsOthers.setCell w1 ⟨B, 0, none⟩ v').1
   omega
theorem cells_two_new (w : World) (u v : Value) (T : TypeId) : ∀ (j : Nat) (x : Value), [u, v][j]? = some x -> (w.alloc (.cells #[u, v] T)).cell? ((⟨w.heap.size, 0, none⟩ : Addr).add j) = some x := by
 intro j x hj
 match j, hj with
 | 0, hj => simp at hj; subst hj; simp [Addr.add]
 | 1, hj => simp at hj; subst hj; simp [Addr.add]
def pairsOf {L : Int} (l : List (Pt L)) : List (Int × Int) := l.map (·.1)
theorem prs_pairs_snoc {L : Int} (l : List (Pt L)) (x : Pt L) : prs (pairsOf (l ++ [x])) = prs (pairsOf l) ++ [.int .i64 x.1.1, .int .i64 x.1.2] := by
 simp [pairsOf, prs]
def ptsE (L a b c d : Int) : Int := if famOK L a b c d then 0 else 71
def ptsR (L a b c d : Int) : List (Int × Int) := if famOK L a b c d then pairsOf (ptsAll L a c (d - c + 1).toNat (b - a + 1).toNat) else []
theorem points_bad (L a b c d : Int) (w : World) (hf : famOK L a b c d = false) :
 Calls Tryz.prog 39 #[.agg #[.int .i64 L, .int .i64 a, .int .i64 b, .int .i64 c, .int .i64 d]] w fun e w' => e = .returned (.tuple #[.slice none 0 0, .int .i64 71]) /\ Below w.heap.size w w' := by
 have ho := fun w => familyOK_any L a b c d w
 rw [hf] at ho
 have HO := Lib.hid ho; clear ho hf
 go_enter Tryz.func39, Tryz.ntmps39
 go_wp2_with (go_at_call 96; refine (HO.out _).mono ?_; rintro e w1 ⟨rfl, hb1⟩)
 go_ret2
 exact ⟨rfl, ((Below.refl _ _).alloc (Nat.le_refl _) _).trans (hb1.mono (by simp))⟩
set_option maxRecDepth 1000000 in
set_option maxHeartbeats 4000000 in
theorem points_good (L a b c d : Int) (w : World) (hf : famOK L a b c d = true) :
 Calls Tryz.prog 39 #[.agg #[.int .i64 L, .int .i64 a, .int .i64 b, .int .i64 c, .int .i64 d]] w fun e w' => (∃ b' c', e = .returned (.tuple #[.slice b' (ptsAll L a c (d - c + 1).toNat (b - a + 1).toNat).length c', .int .i64 0]) /\ Cells w' b' (prs (pairsOf (ptsAll L a c (d - c + 1).toNat (b - a + 1).toNat)))) /\ Below w.heap.size w w' := by
 have hfm := fam_true hf
 have ho := fun w => familyOK_any L a b c d w
 rw [hf] at ho
 have HO := Lib.hid ho; clear ho
 have HF := Lib.hid hf; clear hf
 obtain ⟨i0, hi, hz0, hz1, hz2⟩ := info_parts Tryz.infoChirp
 refine (callsIn_wide (n := 8)).1 ?_
 refine callsIn_of_wp_marks Tryz.func39 rfl trivial ?_ rfl
 simp only [Tryz.ntmps39, List.size_toArray, List.length_cons, List.length_nil, Nat.reduceAdd, Nat.reduceSub, Array.replicate_succ, Array.replicate_zero, List.push_toArray, List.append_toArray, List.nil_append, List.cons_append]
 gi_wp2_with (refine ⟨trivial, ?_⟩; gi_at_call 96; refine (callsIn_wide.2 (HO.out _)).mono ?_; rintro e w1 ⟨rfl, hb1⟩; refine Hid.out ?_)
 have g1 : Below w.heap.size w w1 := ((Below.refl _ _).alloc (Nat.le_refl _) _).trans (hb1.mono (by simp))
 have rF : w1.heap[w.heap.size]? = some (.cells #[.int .i64 L, .int .i64 a, .int .i64 b, .int .i64 c, .int .i64 d] 43 (0, 0)) := (hb1.block _ (by simp)).trans (heap_alloc_new _ _)
 have hsF : w.heap.size < w1.heap.size := (Array.getElem?_eq_some_iff.1 rF).1
 have rF2 : (w1.alloc (.cells #[.slice none 0 0] 44)).heap[w.heap.size]? = _ := (hold_old w1 _ _ hsF).trans rF
 have f0 := (cell_of_row _ _ 0 _ _ _ rF2).trans rfl
 have f1 := (cell_of_row _ _ 1 _ _ _ rF2).trans rfl
 have f2 := (cell_of_row _ _ 2 _ _ _ rF2).trans rfl
 have f3 := (cell_of_row _ _ 3 _ _ _ rF2).trans rfl
 have f4 := (cell_of_row _ _ 4 _ _ _ rF2).trans rfl
 clear rF rF2
 refine Lib.hid ?_
 gi_wp2_with (refine ⟨trivial, ?_⟩; gi_at_call 74; refine (callsIn_wide.2 (points_any L a b c d _)).mono ?_; rintro e w2 ⟨rfl, rfl⟩; refine Hid.out ?_)
 refine Lib.hid ?_
 gi_wp2
 have bO := (Boxed.new w1 44 (.slice none 0 0)).alloc (.cells #[.int .i64 L, .int .i64 a, .int .i64 b, .int .i64 c, .int .i64 d] 43)
 have rN : ((w1.alloc (.cells #[.slice none 0 0] 44)).alloc (.cells #[.int .i64 L, .int .i64 a, .int .i64 b, .int .i64 c, .int .i64 d] 43)).heap[w1.heap.size + 1]? = some (.cells #[.int .i64 L, .int .i64 a, .int .i64 b, .int .i64 c, .int .i64 d] 43 (0, 0)) := heap_alloc2_new w1 _ _
 have hB0 : Below w.heap.size w ((w1.alloc (.cells #[.slice none 0 0] 44)).alloc (.cells #[.int .i64 L, .int .i64 a, .int .i64 b, .int .i64 c, .int .i64 d] 43)) := (g1.alloc g1.size _).alloc (by have := g1.size; simp; omega) _
 have hsz : ((w1.alloc (.cells #[.slice none 0 0] 44)).alloc (.cells #[.int .i64 L, .int .i64 a, .int .i64 b, .int .i64 c, .int .i64 d] 43)).heap.size = w1.heap.size + 2 := by simp
 have hs1 := g1.size
 generalize hW0 : (w1.alloc (.cells #[.slice none 0 0] 44)).alloc (.cells #[.int .i64 L, .int .i64 a, .int .i64 b, .int .i64 c, .int .i64 d] 43) = W0 at *
 clear hW0 f0 f1 f2 f3 f4
 have HSZ := Lib.hid hsz; clear hsz
 refine wpIn_rangeFunc_ownH rfl (by omega) (gf := 141) (lb := #[.pointer (some ⟨w1.heap.size + 1, 0, none⟩)]) rfl trivial (enters_of Tryz.func141 (by kernel_rfl) rfl)
  (points_stops _ (by omega) (w1.heap.size + 1) L a b c d HF.out W0 rN) KeepB.trans (keepB_b (by rw [HSZ.out]; omega)) (Below.refl _ _) (fun _ => rfl)
  (fun pre W => (∃ v, Boxed W w1.heap.size 44 v /\ W.ownsRow (w1.heap.size + 2) 23 2 v pre.length (prs (pairsOf pre)) /\ True) /\ Below w.heap.size w W /\ W0.heap.size <= W.heap.size)
  (fun _ _ _ => False)
  (OwnFrom.and (Own.from (holdsRow_own (w1.heap.size + 2) w1.heap.size 44 23 2 (fun pre => pre.length) (fun pre => prs (pairsOf pre)) (fun _ _ => True)) _) (OwnFrom.and (ownFrom_below (Nat.le_refl _) (by have := HSZ.out; omega)) (fun _ _ _ _ hs hg _ => Nat.le_trans hs hg.size)))
  (fun _ _ _ _ _ hs _ _ => hs)
  ⟨⟨_, bO, World.ownsRow_nil _ _ _ _, trivial⟩, hB0, Nat.le_refl _⟩
  (fun x a' W => ∃ Bx, w1.heap.size + 1 < Bx /\ W.heap[Bx]? = some (.cells #[.int .i64 x.1.1, .int .i64 x.1.2] 23 (0, 0)) /\ a' = { tmps := #[.agg #[.int .i64 L, .int .i64 a, .int .i64 b, .int .i64 c, .int .i64 d], .pointer (some ⟨w.heap.size, 0, none⟩), .slice none 0 0, .int .i64 0, .pointer (some ⟨w1.heap.size, 0, none⟩), .pointer (some ⟨Bx, 0, none⟩), .agg #[.int .i64 L, .int .i64 a, .int .i64 b, .int .i64 c, .int .i64 d], .bool true, .bool false, .agg #[.int .i64 L, .int .i64 a, .int .i64 b, .int .i64 c, .int .i64 d], .func (.func 141) #[] #[.pointer (some ⟨w1.heap.size + 1, 0, none⟩)], .agg #[.int .i64 x.1.1, .int .i64 x.1.2], .agg (shp L (wav L x.1.1 x.1.2)), undef, undef, undef, undef, undef], defers := [] })
  (fun x a' _ X Y row hs hg hr => by
   obtain ⟨Bx, h1, h2, h3⟩ := hs
   refine ⟨Bx, h1, (hg.block Bx (Array.getElem?_eq_some_iff.1 h2).1 (fun e => ?_)).trans h2, h3⟩
   obtain ⟨_, o, ho, hc⟩ := hr Bx e.symm
   rw [h2] at ho; cases ho; cases hc)
  ?assign ?body ?done ?stop
 case assign =>
  rintro l pre x W K ⟨⟨v, bO1, hr1, _⟩, hB1, hs⟩ hK
  have hsz := HSZ.out
  unfold ptV
  gi_wp2_with (rw [Oper.semAt_eq _ _ _ (fun c h => by cases h)]; go_simp; try go_bits)
  exact hK _ _ ((KeepsOthers.alloc _ _).from _) (KeepB.of ((Below.refl _ W).alloc (Nat.le_refl _) _) (by omega)) ⟨⟨v, bO1.alloc _, hr1.alloc _, trivial⟩, hB1.alloc hB1.size _, by simp; omega⟩ ⟨W.heap.size, by omega, heap_alloc_new _ _, rfl⟩
 case body =>
  rintro l pre x a' W hl ⟨r, hr⟩ ⟨⟨v, hv, hrow, _⟩, hB, hs⟩ ⟨Bx, hBx, bX, rfl⟩ hlt
  have hc := hv.cell
  have x0 := (cell_of_row W _ 0 _ _ _ bX).trans rfl
  have x1 := (cell_of_row W _ 1 _ _ _ bX).trans rfl
  have hle : w1.heap.size + 2 <= W.heap.size := by have := HSZ.out; omega
  have hlen : pre.length < 400 := by omega
  have HSN := Lib.hid (prs_pairs_snoc pre x)
  clear hlt bX
  gi_wp2_with (first | (gi_at_builtin; refine wpListIn_append_own _ rfl _ _ 44 rfl (w1.heap.size + 2) 23 i0 (.agg #[.int .i64 0, .int .i64 0]) 2 16 Tryz.underlying44 hi hz0 hz1 hz2 rfl (by decide) _ _ _ rfl (hrow.alloc _) ⟨W.heap.size, 0, none⟩ 1 1 [.int .i64 x.1.1, .int .i64 x.1.2] rfl rfl (cells_two_new _ _ _ _) (by simp [Value.oneCell']) (by unfold maxLen; omega) (by omega) (by simp; omega) ?_; intro v' wz hown' hgrow _; obtain ⟨g', cap', rfl⟩ := ownsRow_succ hown'; obtain ⟨hv1, hv2, hr2, hk2, hb2, hkb⟩ := box_appended hv hrow hle (by omega) hown' hgrow; have hc1 := hv1.cell; have hf1 := hv1.frozen) | (rw [Oper.semAt_eq _ _ _ (fun c h => by cases h)]; go_simp; try go_bits))
  exact ⟨hk2.from _, hkb _ (by omega) (by omega), ⟨_, hv2, by rw [HSN.out]; simpa using hr2, trivial⟩, hB.trans (hb2.mono (by omega)), Nat.le_trans hs hb2.size⟩
 case done =>
  rintro D ys W hD rfl ⟨⟨v, hv, hrow, _⟩, hB, hs⟩ hK
  have hc := hv.cell
  have hfin := ownsRow_putObj hrow (.deferred none) hK rfl
  obtain ⟨g, c', rfl, hcs⟩ := own_cells hfin
  have HCS := Lib.hid hcs; clear hcs hfin
  clear hrow
  gi_wp2
  refine ⟨by simp, .inl ⟨_, _, rfl, run_takeDeferred hK, ?_⟩⟩
  refine ⟨.tuple #[.slice g _ c', .int .i64 0], by simp [results, Tryz.f39, go_sem], ⟨g, c', rfl, HCS.out⟩, hB.trans (belowK_b (w := w) (Nat.le_refl _) W D _ _ (by have := HSZ.out; omega) hK rfl rfl)⟩
 case stop =>
  rintro D c pre W _ _ h _
  exact h.elim
theorem Points_any (L a b c d : Int) (w : World) :
 Calls Tryz.prog 39 #[.agg #[.int .i64 L, .int .i64 a, .int .i64 b, .int .i64 c, .int .i64 d]] w fun e w' => (∃ b' c', e = .returned (.tuple #[.slice b' (ptsR L a b c d).length c', .int .i64 (ptsE L a b c d)]) /\ Cells w' b' (prs (ptsR L a b c d))) /\ Below w.heap.size w w' := by
 cases hf : famOK L a b c d
 · have e1 : ptsE L a b c d = 71 := by simp [ptsE, hf]
   have e2 : ptsR L a b c d = [] := by simp [ptsR, hf]
   rw [e1, e2]
   exact (points_bad L a b c d w hf).mono fun e w' ⟨h1, h2⟩ => ⟨⟨none, 0, h1, Cells.nil _ _⟩, h2⟩
 · have e1 : ptsE L a b c d = 0 := by simp [ptsE, hf]
   have e2 : ptsR L a b c d = pairsOf (ptsAll L a c (d - c + 1).toNat (b - a + 1).toNat) := by simp [ptsR, hf]
   have e3 : (pairsOf (ptsAll L a c (d - c + 1).toNat (b - a + 1).toNat)).length = (ptsAll L a c (d - c + 1).toNat (b - a + 1).toNat).length := by simp [pairsOf]
   rw [e1, e2, e3]
   exact points_good L a b c d w hf
end Go.Proofs.YtdpjdifoonfcdaaGreatDoor

namespace Go.Proofs.YtdpjdifoonfcdaaGreatDoor
open Go.RowKit
def sqTo (xs : List Int) (a : Nat) : Nat -> Int
 | 0 => 0
 | n + 1 => sqTo xs a n + xs.getD (a + n) 0 * xs.getD (a + n) 0
theorem sqTo_nn (xs : List Int) (a n : Nat) : 0 <= sqTo xs a n := by
 induction n with
 | zero => simp [sqTo]
 | succ n ih =>
   have := mul_self_nn (xs.getD (a + n) 0)
   simp only [sqTo]; omega
theorem sqTo_bd {xs : List Int} (h1 : ∀ x ∈ xs, -127 <= x /\ x <= 127) (a n : Nat) : 0 <= sqTo xs a n /\ sqTo xs a n <= 16129 * (n : Int) := by
 refine ⟨sqTo_nn xs a n, ?_⟩
 induction n with
 | zero => simp [sqTo]
 | succ n ih =>
   have g1 := getD_in (by omega) h1 (a + n)
   have := ov_prod g1.1 g1.2 g1.1 g1.2
   simp only [sqTo]
   push_cast
   omega
def ofT (n d : Int) : ByteArray := ratT (ofS n d) (ofN n d) (ofD n d)
def partT (xs ds : List Int) (t a b : Nat) (sg : Int) : ByteArray := if sqTo xs a (b - a) = 0 then ofT 0 1 else ofT (sg * dotTo xs ds t a (b - a) * dotTo xs ds t a (b - a)) (sqTo xs a (b - a))
theorem ofT_zero : ofT 0 1 = ⟨#[48]⟩ := by decide +kernel
set_option maxRecDepth 100000 in
set_option maxHeartbeats 4000000 in
theorem ratio_any (L : Int) (xs ds : List Int) (ao : Option Addr) (cap t a b : Nat) (sg : Int) (bv bd bt : Nat) (w : World) (ht : Tab w) (hx : xs.length = 64) (hab : a < b) (hb : b <= 64) (htb : t + b <= ds.length) (hl : ds.length <= 512) (hsg : sg = 1 ∨ sg = -1)
 (h1 : ∀ x ∈ xs, -127 <= x /\ x <= 127) (h2 : ∀ x ∈ ds, -32768 <= x /\ x <= 32768) (hv : w.heap[bv]? = some (.cells (shp L xs) 129 (0, 0))) (hd : w.cell? ⟨bd, 0, none⟩ = some (.slice ao ds.length cap)) (hbt : w.cell? ⟨bt, 0, none⟩ = some (.int .i64 t)) (hc : Cells w ao (ds.map (Value.int .i64))) :
 Calls Tryz.prog 67 #[.int .i64 a, .int .i64 b, .int .i64 sg, .pointer (some ⟨bv, 0, none⟩), .pointer (some ⟨bd, 0, none⟩), .pointer (some ⟨bt, 0, none⟩)] w fun e w' => e = .returned (.tuple #[.string (partT xs ds t a b sg), .bool true]) /\ Below w.heap.size w w' := by
 have hout := fun wx hcx => output_any L xs ds ao cap t a b wx hx hcx (by omega) hb (by omega) hl h1 h2
 have bd1 := dotTo_bd h1 h2 t a (b - a)
 have bs1 := sqTo_bd h1 a (b - a)
 obtain ⟨s, hs⟩ : ∃ s, s = sqTo xs a (b - a) := ⟨_, rfl⟩
 obtain ⟨d, hd'⟩ : ∃ d, d = dotTo xs ds t a (b - a) := ⟨_, rfl⟩
 have hP : partT xs ds t a b sg = if s = 0 then ofT 0 1 else ofT (sg * d * d) s := by rw [hs, hd']; rfl
 rw [<- hd'] at hout bd1
 rw [<- hs] at bs1
 have HS := Lib.hid hs; clear hs hd'
 generalize partT xs ds t a b sg = PT at *
 have HP := Lib.hid hP; clear hP
 have hcell : ∀ i x, xs[i]? = some x -> w.cell? ⟨bv, 1 + i, none⟩ = some (.int .i64 x) := fun i x hxx => (cell_of_row w _ _ _ _ _ hv).trans (shp_succ L xs i x hxx)
 have HCE := Lib.hid hcell; clear hcell
 have hi : (Tryz.prog.info? 129).map (·.size) = some (shp L xs).size := by rw [shp_size, hx]; kernel_rfl
 have H1 := Lib.hid h1
 generalize hV : shp L xs = V at hout hv hi
 clear hV
 have HV := Lib.hid hv; clear hv
 have HI := Lib.hid hi; clear hi
 have HO := Lib.hid hout; clear hout
 have HC := Lib.hid hc; clear hc
 have HT := Lib.hid ht; clear ht
 have HBD := Lib.hid bd1; clear bd1
 have hsl := run_sliceAt_mid (P := Tryz.prog) (w := w) 127 3 64 ⟨bv, 1, none⟩ a b Tryz.underlying127 (Tryz.sizeOf3 w) (by omega) (by omega) hb
 rw [Addr.add_lit] at hsl
 clear h1 h2
 have hba : ((b - a : Nat) : Int) = (b : Int) - a := by omega
 clear hba
 go_enter Tryz.func67, Tryz.ntmps67
 go_wp2
 clear hsl
 go_loop [11, 22] (fun s i => ∃ n : Nat, n <= b - a /\ i = .int .i64 (n : Int) /\ s = .int .i64 (sqTo xs a n)) (fun _ i => b - a - (intOf i).toNat)
 case atStart => exact ⟨0, Nat.zero_le _, rfl, rfl⟩
 case round =>
  obtain ⟨n, hn, rfl, rfl⟩ := hrel
  by_cases hlt : n < b - a
  · obtain ⟨x, hxx⟩ := get_of_lt (show a + n < xs.length by omega)
    have hcx := HCE.out _ _ hxx
    rw [<- Nat.add_assoc] at hcx
    have m1 := H1.out x (List.mem_of_getElem? hxx)
    have pd := ov_prod m1.1 m1.2 m1.1 m1.2
    have bs2 := sqTo_bd H1.out a n
    have e1 : sqTo xs a (n + 1) = sqTo xs a n + x * x := by simp [sqTo, hxx]
    have E1 := Lib.hid e1; clear e1 hxx
    have q1 : IntKind.i64.wrap (x * x) = x * x := IntWalk.i64_in _ (by omega)
    have q2 : IntKind.i64.wrap (sqTo xs a n + x * x) = sqTo xs a n + x * x := IntWalk.i64_in _ (by omega)
    go_wp2
    go_round
    case rel => exact ⟨n + 1, by omega, by go_num, by rw [E1.out]⟩
    case measure => simp [intOf]; omega
  · obtain rfl : n = b - a := by omega
    clear hlt hn
    have hbd := HBD.out
    rw [<- HS.out]
    by_cases h0 : s = 0
    · have HP0 : Hid (PT = ofT 0 1) := by rw [HP.out, if_pos h0]; exact Lib.hid rfl
      subst h0
      go_wp2
      go_ret2
      exact ⟨by rw [HP0.out, ofT_zero]; rfl, Below.refl _ _⟩
    · have hs0 : 0 < s := by omega
      have hsd : -266338304 <= sg * d /\ sg * d <= 266338304 := by rcases hsg with rfl | rfl <;> omega
      have hdd : -70936092178972416 <= sg * d * d /\ sg * d * d <= 70936092178972416 := by
       have hA : (sg * d).natAbs <= 266338304 := by omega
       have hB : d.natAbs <= 266338304 := by omega
       have h := Nat.mul_le_mul hA hB
       rw [<- Int.natAbs_mul] at h
       omega
      have q1 : IntKind.i64.wrap (sg * d) = sg * d := IntWalk.i64_in _ (by omega)
      have q2 : IntKind.i64.wrap (sg * d * d) = sg * d * d := IntWalk.i64_in _ (by omega)
      have hof := fun wx hT => of_any (sg * d * d) s wx hT (by omega) (by omega) (by omega) (by omega) (by omega)
      have hR : ratT (ofS (sg * d * d) s) (ofN (sg * d * d) s) (ofD (sg * d * d) s) = ofT (sg * d * d) s := rfl
      rw [hR] at hof
      have HOF := Lib.hid hof; clear hof hR
      have h0' : (s == 0) = false := by simpa using h0
      have HS0 := Lib.hid h0; clear h0
      clear hdd hsd hsg
      go_wp2_with (first
       | (refine wpList_load_row (by rfl) 129 _ (by rfl) bv (by rfl) _ V _ _ HV.out Tryz.underlying129 (by rfl) HI.out ?_)
       | (go_at_call 68; refine (HO.out _ HC.out).mono ?_; rintro e w1 ⟨rfl, hb1⟩)
       | (go_at_call 25; refine (HOF.out _ (HT.out.below hb1 (Nat.le_refl _))).mono ?_; rintro e w2 ⟨rfl, hb2⟩))
      go_ret2
      exact ⟨by rw [HP.out, if_neg HS0.out]; rfl, hb1.trans (hb2.mono hb1.size)⟩
end Go.Proofs.YtdpjdifoonfcdaaGreatDoor

namespace Go.Proofs.YtdpjdifoonfcdaaGreatDoor
open Go.RowKit
theorem val_takeD (l : List Nat) (i : Nat) : val (l.take (i + 1)) = val (l.take i) + B ^ i * l.getD i 0 := by
 rcases Nat.lt_or_ge i l.length with h | h
 · obtain ⟨x, hx⟩ := get_of_lt h
   rw [take_get hx, val_snoc, List.length_take, Nat.min_eq_left (by omega)]
   simp [List.getD, hx]
 · rw [List.take_of_length_le (by omega), List.take_of_length_le h]
   simp [List.getD, List.getElem?_eq_none h]
theorem plus_step {la lb os : List Nat} {i x y c : Nat} (hx : la[i]? = some x) (hy : lb.getD i 0 = y) (hl : os.length = i) (h : val (la.take i) + val (lb.take i) = val os + B ^ i * c) :
 val (la.take (i + 1)) + val (lb.take (i + 1)) = val (os ++ [(c + x + y) % B]) + B ^ (i + 1) * ((c + x + y) / B) := by
 rw [val_takeD, val_takeD, hy, val_snoc, hl]
 have h1 : la.getD i 0 = x := by simp [List.getD, hx]
 have h2 := Nat.mod_add_div (c + x + y) B
 rw [h1, Nat.pow_succ, Nat.mul_assoc]
 have h3 : B ^ i * ((c + x + y) % B) + B ^ i * (B * ((c + x + y) / B)) = B ^ i * c + B ^ i * x + B ^ i * y := by rw [<- Nat.mul_add, h2, Nat.mul_add, Nat.mul_add]
 omega
theorem plus_end {m n c : Nat} {os : List Nat} (hs : Sm os) (hl : os.length = (dig m).length) (hle : (dig n).length <= (dig m).length) (hc : c <= 1) (h : val ((dig m).take (dig m).length) + val ((dig n).take (dig m).length) = val os + B ^ (dig m).length * c) :
 (c = 0 -> dig (m + n) = os) /\ (c = 1 -> dig (m + n) = os ++ [1]) := by
 rw [List.take_length, val_dig, List.take_of_length_le hle, val_dig] at h
 refine ⟨fun h0 => ?_, fun h1 => ?_⟩
 · subst h0
   rw [Nat.mul_zero, Nat.add_zero] at h
   have h1 := dig_take _ os rfl hs
   rw [<- h] at h1
   have h2 : (dig m).length <= (dig (m + n)).length := dig_len_mono (by omega)
   rw [h1, List.take_of_length_le (by omega)]
 · subst h1
   have e : m + n = val (os ++ [1]) := by rw [val_snoc, hl, h]
   rw [e]
   refine dig_val (sm_append hs (sm_one (by decide))) (by simp)
theorem natV_own2 {w : World} {b : Nat} {v : Value} {n k : Nat} {os : List Nat} (h : w.ownsRow b 208 1 v k (dgs os)) (he : dig n = os) (hk : k = os.length) : NatV w v n := by
 subst hk; subst he; exact natV_own h
set_option maxRecDepth 100000 in
set_option maxHeartbeats 2000000 in
theorem natPlus_any (va vb : Value) (m n : Nat) (w : World) (ha : NatV w va m) (hb : NatV w vb n) (hm : (dig m).length <= 17592186044410) (hn : (dig n).length <= 17592186044410) :
 Calls Tryz.prog 176 #[va, vb] w fun e w' => (∃ v, e = .returned v /\ NatV w' v (m + n)) /\ Below w.heap.size w w' := by
 obtain ⟨i0, hi, hz0, hz1, hz2⟩ := info_parts Tryz.infoU64
 obtain ⟨aa, ca, rfl, ha, hac, hac2⟩ := ha
 obtain ⟨ab, cb, rfl, hb0, hbc, hbc2⟩ := hb
 obtain ⟨S, hS⟩ : ∃ S, S = m + n := ⟨_, rfl⟩
 rw [<- hS]
 have hall : ∃ (M N : Nat) (xa xb : Option Addr) (xc xd : Nat), M + N = S /\ Cells w xa (dgs (dig M)) /\ Cells w xb (dgs (dig N)) /\ (dig N).length <= (dig M).length /\ (dig M).length <= 17592186044410 /\ ((¬ (dig m).length < (dig n).length /\ M = m /\ N = n /\ xa = aa /\ xb = ab /\ xc = ca /\ xd = cb) ∨ ((dig m).length < (dig n).length /\ M = n /\ N = m /\ xa = ab /\ xb = aa /\ xc = cb /\ xd = ca)) := by
  rcases Nat.lt_or_ge (dig m).length (dig n).length with h | h
  · exact ⟨n, m, ab, aa, cb, ca, by omega, hb0, ha, by omega, hn, .inr ⟨h, rfl, rfl, rfl, rfl, rfl, rfl⟩⟩
  · exact ⟨m, n, aa, ab, ca, cb, by omega, ha, hb0, h, hm, .inl ⟨by omega, rfl, rfl, rfl, rfl, rfl, rfl⟩⟩
 obtain ⟨M, N, xa, xb, xc, xd, hsum, hA, hB, hle, hM, hcase⟩ := hall
 have HA := Lib.hid hA; have HB := Lib.hid hB; have HSUM := Lib.hid hsum
 clear hA hB hsum ha hb0 hS
 have ezz : IntKind.i64.wrap (((dig M).length : Int) + 1) = (((dig M).length + 1 : Nat) : Int) := by rw [show ((dig M).length : Int) + 1 = (((dig M).length + 1 : Nat) : Int) from by omega]; exact IntWalk.i64_in _ (by omega)
 rcases hcase with ⟨hlt, rfl, rfl, rfl, rfl, rfl, rfl⟩ | ⟨hlt, rfl, rfl, rfl, rfl, rfl, rfl⟩
 all_goals
  go_enter Tryz.func176, Tryz.ntmps176
  go_wp2_with (at_make; refine wpList_make_own _ rfl _ _ 144 rfl w.heap.size 208 i0 (.int .u64 0) 1 Tryz.underlying144 hi hz0 hz1 .i64 .i64 _ ((dig M).length + 1) rfl rfl (by omega) (by rw [hz2]; omega) (by unfold maxLen; omega) (Nat.le_refl _) ?_; intro w1 hown1 hgrow1)
  have hb1 := (Below.refl w.heap.size w).grown hgrow1 (Nat.le_refl _) (fun _ h => by cases h)
  clear hgrow1 ezz
  have HO1 := Lib.hid hown1; clear hown1
  go_wp2
  go_loopw [5, 6, 22] (fun ov cv iv wr => ∃ (i : Nat) (os : List Nat) (c : Nat), i <= (dig M).length /\ iv = .int .i64 i /\ cv = .int .u64 c /\ c <= 1 /\ Sm os /\ val ((dig M).take i) + val ((dig N).take i) = val os + B ^ i * c /\ os.length = i /\ wr.ownsRow w.heap.size 208 1 ov i (dgs os) /\ Below w.heap.size w wr) (fun _ _ iv _ => (dig M).length - (intOf iv).toNat)
  case atStart => exact ⟨0, [], 0, Nat.zero_le _, rfl, rfl, by omega, fun d hd => by simp at hd, by simp [val], rfl, HO1.out, hb1⟩
  case round =>
   clear hb1 HO1
   obtain ⟨i, os, c, hi9, rfl, rfl, hc1, hsm, heq, hol, hown, hb⟩ := hrel
   have hsz := hb.size
   have HOB : Hid (∀ j, u5.ownBlock = some j -> w.heap.size <= j) := fun j e => (hown.lt j e).1
   by_cases hii : i = (dig M).length
   · have hpe := plus_end (by exact hsm) (by rw [hol, hii]) hle hc1 (by rw [<- hii]; exact heq)
     have HPE := Lib.hid hpe; have HOL := Lib.hid hol; have HII := Lib.hid hii
     have hi1 : ¬ i < (dig M).length := by omega
     have hi2 : (dig M).length <= i := by omega
     clear hpe hsm heq hol hii
     rcases Nat.eq_zero_or_pos c with hc0 | hc0
     · subst hc0
       obtain ⟨g, cc, rfl, hcs, hcc1, hcc2⟩ := own_cap hown
       have HF := Lib.hid (natV_own2 hown (HPE.out.1 (by trivial)) HOL.out.symm)
       clear hcs hown
       go_wp2
       go_ret
       rw [<- HSUM.out]
       exact ⟨⟨_, rfl, HF.out⟩, hb⟩
     · obtain rfl : c = 1 := by omega
       go_wp2_with (at_builtin; refine wpList_append_own _ rfl _ _ 144 rfl w.heap.size 208 i0 (.int .u64 0) 1 8 Tryz.underlying144 hi hz0 hz1 hz2 rfl (by decide) _ _ _ rfl (hown.alloc _) ⟨wr.heap.size, 0, none⟩ 1 1 [.int .u64 1] rfl rfl (news1 _ _ _) (by simp [Value.oneCell']) (by unfold maxLen; omega) (by omega) (by simp; omega) ?_; intro v1 wz hown1 hgrow _)
       have hfin := hown1
       rw [show dgs os ++ [.int .u64 1] = dgs (os ++ [1]) from by rw [dgs_append]; rfl] at hfin
       have hbz := (hb.alloc hsz (.cells #[.int .u64 1] 208)).grown hgrow (by simp; omega) HOB.out
       have HF := Lib.hid (natV_own2 hfin (HPE.out.2 (by trivial)) (by rw [List.length_append, HOL.out]; rfl))
       obtain ⟨g, cc, rfl, hcs, hcc1, hcc2⟩ := own_cap hfin
       clear hown1 hgrow hown hcs hfin
       go_wp2
       go_ret
       rw [<- HSUM.out]
       exact ⟨⟨_, rfl, HF.out⟩, hbz⟩
   · have hilt : i < (dig M).length := by omega
     obtain ⟨x, hx⟩ := get_of_lt hilt
     obtain ⟨ba, offa, rfl⟩ := HA.out.addr (dgs_ne (by omega))
     have cx := cell_keep (HA.out.dgs hx) hb (Nat.le_refl _)
     have hxb := sm_get (sm_dig M) hx
     have j0 : (i : Int) < (dig M).length := by omega
     have HHX := Lib.hid hx; have HHEQ := Lib.hid heq; have HHSM := Lib.hid hsm; have HHOL := Lib.hid hol
     clear hx heq hsm hol hii
     by_cases hib : i < (dig N).length
     · obtain ⟨y, hy⟩ := get_of_lt hib
       obtain ⟨bb, offb, rfl⟩ := HB.out.addr (dgs_ne (by omega))
       have cy := cell_keep (HB.out.dgs hy) hb (Nat.le_refl _)
       have hyb := sm_get (sm_dig N) hy
       have hyd : (dig N).getD i 0 = y := by simp [List.getD, hy]
       have j1 : (i : Int) < (dig N).length := by omega
       have HEQ := Lib.hid (plus_step HHX.out hyd HHOL.out HHEQ.out)
       have HSM := Lib.hid (sm_append HHSM.out (sm_one (Nat.mod_lt (c + x + y) B_pos)))
       have hcl : (c + x + y) / B <= 1 := by
        have : (c + x + y) / B < 2 := Nat.div_lt_of_lt_mul (by simp only [B]; omega)
        omega
       have e1 : ((c : Int) + x + y) % 1000000000 = (((c + x + y) % B : Nat) : Int) := by simp [B]
       have e2 : ((c : Int) + x + y) / 1000000000 = (((c + x + y) / B : Nat) : Int) := by simp [B]
       have E1 := Lib.hid e1; have E2 := Lib.hid e2
       have HOSL := HHOL
       clear hy hyd e1 e2
       go_wp2_with (at_builtin; refine wpList_append_own _ rfl _ _ 144 rfl w.heap.size 208 i0 (.int .u64 0) 1 8 Tryz.underlying144 hi hz0 hz1 hz2 rfl (by decide) _ _ _ rfl (hown.alloc _) ⟨wr.heap.size, 0, none⟩ 1 1 [.int .u64 (((c : Int) + x + y) % 1000000000)] rfl rfl (news1 _ _ _) (by simp [Value.oneCell']) (by unfold maxLen; omega) (by omega) (by simp; omega) ?_; intro v1 wz hown1 hgrow _)
       have hfin := hown1
       rw [show dgs os ++ [.int .u64 (((c : Int) + x + y) % 1000000000)] = dgs (os ++ [(c + x + y) % B]) from by rw [dgs_append, E1.out]; rfl] at hfin
       have hbz := (hb.alloc hsz (.cells #[.int .u64 (((c : Int) + x + y) % 1000000000)] 208)).grown hgrow (by simp; omega) HOB.out
       clear hown1 hgrow hown
       have HFIN := Lib.hid hfin; clear hfin
       go_wp2
       go_roundw
       case rel => exact ⟨i + 1, os ++ [(c + x + y) % B], (c + x + y) / B, by omega, by go_num, by rw [E2.out], hcl, HSM.out, HEQ.out, by rw [List.length_append, HOSL.out]; rfl, by simpa using HFIN.out, hbz⟩
       case measure => simp [intOf]; omega
     · have hyd : (dig N).getD i 0 = 0 := by simp [List.getD, List.getElem?_eq_none (show (dig N).length <= i by omega)]
       have j1 : ¬ (i : Int) < (dig N).length := by omega
       have HEQ := Lib.hid (plus_step HHX.out hyd HHOL.out HHEQ.out)
       have HSM := Lib.hid (sm_append HHSM.out (sm_one (Nat.mod_lt (c + x + 0) B_pos)))
       have hcl : (c + x + 0) / B <= 1 := by
        have : (c + x + 0) / B < 2 := Nat.div_lt_of_lt_mul (by simp only [B]; omega)
        omega
       have e1 : ((c : Int) + x) % 1000000000 = (((c + x + 0) % B : Nat) : Int) := by simp [B]
       have e2 : ((c : Int) + x) / 1000000000 = (((c + x + 0) / B : Nat) : Int) := by simp [B]
       have E1 := Lib.hid e1; have E2 := Lib.hid e2
       have HOSL := HHOL
       clear  hyd e1 e2
       go_wp2_with (at_builtin; refine wpList_append_own _ rfl _ _ 144 rfl w.heap.size 208 i0 (.int .u64 0) 1 8 Tryz.underlying144 hi hz0 hz1 hz2 rfl (by decide) _ _ _ rfl (hown.alloc _) ⟨wr.heap.size, 0, none⟩ 1 1 [.int .u64 (((c : Int) + x) % 1000000000)] rfl rfl (news1 _ _ _) (by simp [Value.oneCell']) (by unfold maxLen; omega) (by omega) (by simp; omega) ?_; intro v1 wz hown1 hgrow _)
       have hfin := hown1
       rw [show dgs os ++ [.int .u64 (((c : Int) + x) % 1000000000)] = dgs (os ++ [(c + x + 0) % B]) from by rw [dgs_append, E1.out]; rfl] at hfin
       have hbz := (hb.alloc hsz (.cells #[.int .u64 (((c : Int) + x) % 1000000000)] 208)).grown hgrow (by simp; omega) HOB.out
       clear hown1 hgrow hown
       have HFIN := Lib.hid hfin; clear hfin
       go_wp2
       go_roundw
       case rel => exact ⟨i + 1, os ++ [(c + x + 0) % B], (c + x + 0) / B, by omega, by go_num, by rw [E2.out], hcl, HSM.out, HEQ.out, by rw [List.length_append, HOSL.out]; rfl, by simpa using HFIN.out, hbz⟩
       case measure => simp [intOf]; omega
end Go.Proofs.YtdpjdifoonfcdaaGreatDoor

namespace Go.Proofs.YtdpjdifoonfcdaaGreatDoor
open Go.Lib
def isDg (c : UInt8) : Bool := decide (48 <= c.toNat) && decide (c.toNat <= 57)
def dval (l : List UInt8) : Nat := l.foldl (fun a c => 10 * a + (c.toNat - 48)) 0
theorem dval_foldl (l : List UInt8) (a : Nat) : l.foldl (fun a c => 10 * a + (c.toNat - 48)) a = a * 10 ^ l.length + dval l := by
 unfold dval
 induction l generalizing a with
 | nil => simp
 | cons c l ih =>
   rw [List.foldl_cons, List.foldl_cons, ih, ih (10 * 0 + _), List.length_cons, Nat.pow_succ]
   rw [Nat.add_mul, Nat.mul_zero, Nat.zero_add, Nat.mul_comm 10 a, Nat.mul_assoc, Nat.mul_comm 10 (10 ^ _)]
   omega
theorem dval_append (a b : List UInt8) : dval (a ++ b) = dval a * 10 ^ b.length + dval b := by
 rw [dval, List.foldl_append, dval_foldl]; rfl
theorem dval_snoc (a : List UInt8) (c : UInt8) : dval (a ++ [c]) = 10 * dval a + (c.toNat - 48) := by
 rw [dval, List.foldl_append]; rfl
theorem dval_cons (c : UInt8) (l : List UInt8) : dval (c :: l) = (c.toNat - 48) * 10 ^ l.length + dval l := by
 rw [show c :: l = [c] ++ l from rfl, dval_append, show dval [c] = c.toNat - 48 from by show 10 * 0 + _ = _; omega]
theorem dval_lt : ∀ (l : List UInt8), l.all isDg = true -> dval l < 10 ^ l.length := by
 intro l
 induction l with
 | nil => intro _; simp [dval]
 | cons c l ih =>
   intro h
   rw [List.all_cons, Bool.and_eq_true] at h
   have h1 := ih h.2
   have h2 := h.1
   simp only [isDg, Bool.and_eq_true, decide_eq_true_eq] at h2
   rw [dval_cons, List.length_cons, Nat.pow_succ]
   have : (c.toNat - 48) * 10 ^ l.length <= 9 * 10 ^ l.length := Nat.mul_le_mul_right _ (by omega)
   omega
def natP (l : List UInt8) : Option Nat := if l = [] then none else if l.all isDg then some (dval l) else none
theorem dg_of (d : Nat) (h : d < 10) : isDg (UInt8.ofNat (48 + d)) = true /\ (UInt8.ofNat (48 + d)).toNat = 48 + d := by
 have e : (UInt8.ofNat (48 + d)).toNat = 48 + d := by rw [UInt8.toNat_ofNat']; omega
 refine ⟨?_, e⟩
 rw [isDg, e]; simp; omega
theorem dec_read (n : Nat) : (decDigits n).all isDg = true /\ dval (decDigits n) = n /\ decDigits n ≠ [] := by
 induction n using Nat.strongRecOn with
 | ind n ih =>
   by_cases h : n < 10
   · have e : decDigits n = [UInt8.ofNat (48 + n)] := by rw [decDigits, dif_pos h]
     have h1 := dg_of n h
     rw [e]
     refine ⟨by rw [List.all_cons, h1.1]; rfl, ?_, by simp⟩
     show 10 * 0 + _ = n
     rw [h1.2]; omega
   · obtain ⟨i1, i2, i3⟩ := ih (n / 10) (by omega)
     have h1 := dg_of (n % 10) (by omega)
     rw [decDigits_step h]
     refine ⟨by rw [List.all_append, i1, List.all_cons, h1.1]; rfl, ?_, by simp⟩
     rw [dval_snoc, i2, h1.2]; omega
theorem natP_dec (n : Nat) : natP (decDigits n) = some n := by
 obtain ⟨h1, h2, h3⟩ := dec_read n
 rw [natP, if_neg h3, if_pos h1, h2]
theorem chunk_val {l : List UInt8} {ds : List Nat} {k j n : Nat} (hj : j <= k) (hn : n = dval ((l.drop j).take (k - j))) (hd : l.length - k = 9 * ds.length) (hv : val ds = dval (l.drop k)) :
 val (ds ++ [n]) = dval (l.drop j) := by
 have e : l.drop j = (l.drop j).take (k - j) ++ l.drop k := by
  conv => lhs; rw [<- List.take_append_drop (k - j) (l.drop j)]
  rw [List.drop_drop, show j + (k - j) = k from by omega]
 rw [e, dval_append, List.length_drop, <- hv, <- hn, val_snoc, hd, B_pow, Nat.mul_comm n]
 omega
theorem all_drop {l : List UInt8} {j k : Nat} (hj : j <= k) (h1 : ((l.drop j).take (k - j)).all isDg = true) (h2 : (l.drop k).all isDg = true) : (l.drop j).all isDg = true := by
 have e : l.drop j = (l.drop j).take (k - j) ++ l.drop k := by
  conv => lhs; rw [<- List.take_append_drop (k - j) (l.drop j)]
  rw [List.drop_drop, show j + (k - j) = k from by omega]
 rw [e, List.all_append, h1, h2]; rfl
end Go.Proofs.YtdpjdifoonfcdaaGreatDoor

namespace Go.Proofs.YtdpjdifoonfcdaaGreatDoor
open Go.RowKit
def NatTextRes (l : List UInt8) (w : World) (e : Ending) (w' : World) : Prop :=
 (match natP l with
  | none => e = .returned (.tuple #[.slice none 0 0, .bool false])
  | some n => ∃ v, e = .returned (.tuple #[v, .bool true]) /\ NatV w' v n) /\ Below w.heap.size w w'
theorem natTextRes_none {l : List UInt8} {w w' : World} (h : natP l = none) (hb : Below w.heap.size w w') : NatTextRes l w (.returned (.tuple #[.slice none 0 0, .bool false])) w' := ⟨by rw [h], hb⟩
theorem natTextRes_some {l : List UInt8} {w w' : World} {n : Nat} {v : Value} (h : natP l = some n) (hv : NatV w' v n) (hb : Below w.heap.size w w') : NatTextRes l w (.returned (.tuple #[v, .bool true])) w' := ⟨by rw [h]; exact ⟨v, rfl, hv⟩, hb⟩
theorem natP_bad {l : List UInt8} {i : Nat} {c : UInt8} (h : l[i]? = some c) (hc : isDg c = false) : natP l = none := by
 rw [natP]
 split
 · rfl
 · rw [if_neg]
   intro ha
   have := List.all_eq_true.1 ha c (List.mem_of_getElem? h)
   rw [hc] at this; cases this
theorem byte_get {t : ByteArray} {i : Nat} (h : i < t.size) : ∃ c, t.data.toList[i]? = some c /\ t[i] = c := ⟨t[i], by rw [List.getElem?_eq_getElem (by simpa using h)]; rfl, rfl⟩
set_option maxRecDepth 100000 in
set_option maxHeartbeats 2000000 in
theorem natText_read (s : ByteArray) (w : World) (hs : s.size <= 140737488351232) :
 Calls Tryz.prog 244 #[.string s] w (NatTextRes s.data.toList w) := by
 obtain ⟨i0, hi, hz0, hz1, hz2⟩ := info_parts Tryz.infoU64
 obtain ⟨l, hl⟩ : ∃ l, l = s.data.toList := ⟨_, rfl⟩
 have hsl : s.size = l.length := by rw [hl]; rfl
 rw [<- hl]
 by_cases h0 : l = []
 · have h00 : s = ⟨#[]⟩ := by
    have : s.data = #[] := by rw [hl] at h0; simpa using h0
    cases s; simp_all
   have hp : natP l = none := by rw [natP, if_pos h0]
   have HP := Lib.hid hp
   subst h00
   clear hp h0 hl hsl
   go_enter Tryz.func244, Tryz.ntmps244
   go_wp2
   go_ret2
   exact natTextRes_none HP.out (Below.refl _ _)
 · have HL := Lib.hid hl; have H0 := Lib.hid h0
   have hpos : 0 < l.length := List.length_pos_iff.2 h0
   have hne : s.toList.isEmpty = false := by rw [Lib.toList_data, <- hl]; simpa using h0
   have hsl1 : l.length <= 140737488351232 := by omega
   clear h0 hl hsl
   go_enter Tryz.func244, Tryz.ntmps244
   go_wp2_with fail
   clear hne
   go_loopw [4, 0] (fun ov sv wr => ∃ (t : ByteArray) (k : Nat) (ds : List Nat), sv = .string t /\ t.data.toList = l.take k /\ k <= l.length /\ (l.length - k = 9 * ds.length ∨ k = 0) /\ val ds = dval (l.drop k) /\ (l.drop k).all isDg = true /\ Sm ds /\ ds.length + k <= l.length /\ wr.ownsRow w.heap.size 208 1 ov ds.length (dgs ds) /\ Below w.heap.size w wr) (fun _ sv _ => match sv with | .string t => t.size | _ => 0)
   case atStart => exact ⟨s, l.length, [], rfl, by rw [List.take_length, HL.out], Nat.le_refl _, .inl (by simp), by rw [List.drop_length]; rfl, by rw [List.drop_length]; rfl, fun d hd => by simp at hd, by simp, World.ownsRow_nil _ _ _ _, Below.refl _ _⟩
   case round =>
    clear hs
    obtain ⟨t, k, ds, rfl, ht, hk, hor, hv, hall, hsm, hdl, hown, hb⟩ := hrel
    have hts : t.size = k := by
     have := congrArg List.length ht
     rw [List.length_take, Nat.min_eq_left hk] at this; exact this
    rcases Nat.eq_zero_or_pos k with hk0 | hk0
    · subst hk0
      rw [List.drop_zero] at hv hall
      have hp : natP l = some (dval l) := by rw [natP, if_neg H0.out, if_pos hall]
      rw [<- hv] at hp
      have HP := Lib.hid hp
      obtain ⟨g, cc, rfl, hcs, hcc1, hcc2⟩ := own_cap hown
      unfold maxLen at hcc2
      have hle := lean_any g ds cc wr hcs hsm (by omega) hcc1 hcc2
      have hdv : (dig (val ds)).length <= ds.length := dig_len_val hsm
      have HLE := Lib.hid hle
      clear hle hcs hown hv hall hsm hp ht
      have z1 : ¬ 0 < t.size := by omega
      have z2 : t.size <= 0 := by omega
      clear hts
      go_wp2_with fail
      refine HLE.out.mono ?_
      rintro e w1 ⟨⟨rfl, hcl⟩, rfl⟩
      have HCL := Lib.hid hcl; clear hcl
      go_wp2
      go_ret2
      exact natTextRes_some HP.out ⟨_, _, rfl, HCL.out, by omega, by omega⟩ hb
    · have hd9 : l.length - k = 9 * ds.length := by omega
      have hdl9 : ds.length <= 15637498706148 := by omega
      have z1 : 0 < t.size := by omega
      have hgetc : ∀ i, i < k -> ∃ c, l[i]? = some c /\ ∃ h : i < t.size, t[i] = c := fun i h => by
       obtain ⟨c, h1, h2⟩ := byte_get (t := t) (i := i) (by omega)
       refine ⟨c, ?_, by omega, h2⟩
       rw [ht, List.getElem?_take, if_pos h] at h1
       exact h1
      have hext : ∀ j, j <= k -> (t.extract 0 j).data.toList = l.take j := fun j h => by
       have : (t.extract 0 j).data.toList = t.data.toList.take j := by simp [ByteArray.data_extract]
       rw [this, ht, List.take_take, Nat.min_eq_left h]
      obtain ⟨j, hj⟩ : ∃ j, j = k - 9 := ⟨_, rfl⟩
      have HJ9 := Lib.hid (show j = 0 ∨ k = j + 9 by omega)
      have hjk : j <= k := by omega
      have hkj : k - j <= 9 := by omega
      have hjlt : j < k := by omega
      have emax : max (0 : Int) ((k : Int) - 9) = (j : Int) := by omega
      have HGC := Lib.hid hgetc; have HEX := Lib.hid hext; have HV := Lib.hid hv; have HALL := Lib.hid hall; have HSM := Lib.hid hsm; have HD9 := Lib.hid hd9; have HTS := Lib.hid hts
      clear hgetc hext hv hall hsm hd9 ht hor hj hts
      have hsz := hb.size
      have ets : (t.size : Int) = (k : Int) := by rw [HTS.out]
      have ewr : IntKind.i64.wrap ((k : Int) - 9) = (k : Int) - 9 := IntWalk.i64_in _ (by omega)
      go_wp2_with fail
      clear emax ewr
      go_loop [6, 7] (fun nv iv => ∃ i n : Nat, j <= i /\ i <= k /\ iv = .int .i64 i /\ nv = .int .u64 n /\ n = dval ((l.drop j).take (i - j)) /\ ((l.drop j).take (i - j)).all isDg = true) (fun _ iv => k - (intOf iv).toNat)
      case atStart => exact ⟨j, 0, Nat.le_refl _, hjk, rfl, rfl, by rw [Nat.sub_self, List.take_zero]; rfl, by rw [Nat.sub_self, List.take_zero]; rfl⟩
      case round =>
       obtain ⟨i, n, hji, hik, rfl, rfl, hn, ha⟩ := hrel
       have hn9 : n < 1000000000 := by
        have h1 := dval_lt _ ha
        rw [<- hn] at h1
        have h2 : ((l.drop j).take (i - j)).length <= 9 := by rw [List.length_take]; omega
        have h3 := Nat.pow_le_pow_right (n := 10) (by decide) h2
        omega
       by_cases hlt : i < k
       · obtain ⟨c, hlc, hit, rfl⟩ := HGC.out i hlt
         have hc8 : (t[i].toNat : Int) <= 255 := by have := t[i].toNat_lt; omega
         have htk : (l.drop j).take (i + 1 - j) = (l.drop j).take (i - j) ++ [t[i]] := by
          rw [show i + 1 - j = (i - j) + 1 from by omega, List.take_add_one, List.getElem?_drop, show j + (i - j) = i from by omega, hlc]; rfl
         have HLC := Lib.hid hlc; have HTK := Lib.hid htk; have HN := Lib.hid hn; have HAA := Lib.hid ha
         clear hlc htk hn ha
         have i1 : (i : Int) < (k : Int) := by omega
         have i2 : (0 : Int) <= (i : Int) := by omega
         have i3 : (i : Int) < (t.size : Int) := by omega
         by_cases hd : isDg t[i] = true
         · have hd2 := hd
           simp only [isDg, Bool.and_eq_true, decide_eq_true_eq] at hd2
           have hd3 : (48 : Int) <= (t[i].toNat : Int) /\ (t[i].toNat : Int) <= 57 := by omega
           obtain ⟨d1, d2⟩ := hd3
           have en : (10 * (n : Int) + ((t[i].toNat : Int) - 48)) = ((10 * n + (t[i].toNat - 48) : Nat) : Int) := by omega
           have HD := Lib.hid hd; have EN := Lib.hid en
           clear hd hd2 en
           go_wp2_with fail
           go_round
           case rel => exact ⟨i + 1, 10 * n + (t[i].toNat - 48), by omega, by omega, by go_num, by rw [EN.out], by rw [HTK.out, dval_snoc, HN.out], by rw [HTK.out, List.all_append, HAA.out, List.all_cons, HD.out]; rfl⟩
           case measure => simp [intOf]; omega
         · have hdf : isDg t[i] = false := by simpa using hd
           have hp := natP_bad HLC.out hdf
           have hd3 : (t[i].toNat : Int) < 48 ∨ (57 : Int) < (t[i].toNat : Int) := by
            simp only [isDg, Bool.and_eq_false_iff, decide_eq_false_iff_not] at hdf
            omega
           have HP := Lib.hid hp
           clear hd hdf hp
           rcases hd3 with hd3 | hd3
           · go_wp2_with fail
             go_ret2
             exact natTextRes_none HP.out hb
           · have hd4 : (48 : Int) <= (t[i].toNat : Int) := by omega
             go_wp2_with fail
             go_ret2
             exact natTextRes_none HP.out hb
       · obtain rfl : i = k := by omega
         have hv2 := chunk_val hji hn HD9.out HV.out
         have ha2 := all_drop hji ha HALL.out
         have hsm2 := sm_append HSM.out (sm_one (show n < B by simp only [B]; omega))
         have he2 := HEX.out j hji
         have HV2 := Lib.hid hv2; have HA2 := Lib.hid ha2; have HSM2 := Lib.hid hsm2; have HE2 := Lib.hid he2
         have HOB : Hid (∀ j, u4.ownBlock = some j -> w.heap.size <= j) := fun j e => (hown.lt j e).1
         have hlast : l.length - j = 9 * (ds ++ [n]).length ∨ j = 0 := by
          rw [List.length_append, List.length_singleton]
          have := HD9.out
          have := HJ9.out
          omega
         have HLS := Lib.hid hlast
         have i1 : ¬ ((i : Int) < (i : Int)) := by omega
         clear hn ha hv2 ha2 hsm2 he2 hlast
         go_wp2_with (at_builtin; refine wpList_append_own _ rfl _ _ 144 rfl w.heap.size 208 i0 (.int .u64 0) 1 8 Tryz.underlying144 hi hz0 hz1 hz2 rfl (by decide) _ _ _ rfl (hown.alloc _) ⟨wr.heap.size, 0, none⟩ 1 1 [.int .u64 (n : Nat)] rfl rfl (news1 _ _ _) (by simp [Value.oneCell']) (by unfold maxLen; omega) (by omega) (by simp; omega) ?_; intro v1 wz hown1 hgrow _)
         have hfin := hown1
         rw [show dgs ds ++ [.int .u64 (n : Nat)] = dgs (ds ++ [n]) from by rw [dgs_append]; rfl] at hfin
         have hbz := (hb.alloc hsz (.cells #[.int .u64 (n : Nat)] 208)).grown hgrow (by simp; omega) HOB.out
         clear hown1 hgrow hown
         have HFIN := Lib.hid hfin; clear hfin
         have j1 : (0 : Int) <= (j : Int) := by omega
         have j2 : (j : Int) <= (t.size : Int) := by omega
         go_wp2_with fail
         go_roundw
         case rel => exact ⟨t.extract 0 j, j, ds ++ [n], rfl, HE2.out, by omega, HLS.out, HV2.out, HA2.out, HSM2.out, by rw [List.length_append, List.length_singleton]; omega, by simpa using HFIN.out, hbz⟩
         case measure =>
          have : (t.extract 0 j).data.toList.length = j := by rw [HE2.out, List.length_take, Nat.min_eq_left (by omega)]
          have h2 : (t.extract 0 j).size = j := this
          simp [h2]; omega
end Go.Proofs.YtdpjdifoonfcdaaGreatDoor

namespace Go.Proofs.YtdpjdifoonfcdaaGreatDoor
open Go.RowKit
theorem indexB_one (s : ByteArray) (c : UInt8) : Lib.indexB s ⟨#[c]⟩ = Lib.indexByte s.data.toList c := Lib.index_one _ _
set_option maxHeartbeats 1000000 in
set_option maxRecDepth 100000 in
theorem slCut_slash (s : ByteArray) (w : World) (hs : s.size <= 140737488351232) :
 Calls Tryz.prog 249 #[.string s, .string ⟨#[47]⟩] w fun e w' => e = .returned (.tuple #[.string ⟨(Lib.cut s.data.toList [47]).1.toArray⟩, .string ⟨(Lib.cut s.data.toList [47]).2.1.toArray⟩, .bool (Lib.cut s.data.toList [47]).2.2]) /\ ∃ n, w' = w.drewN n := by
 rcases Lib.indexB_cases s ⟨#[47]⟩ with hix | ⟨i, hix, hroom⟩
 · obtain ⟨e1, e2, e3⟩ := Lib.cutB_miss s ⟨#[47]⟩ hix
   rw [indexB_one] at hix
   have E1 : Hid ((⟨(Lib.cut s.data.toList [47]).1.toArray⟩ : ByteArray) = s) := e1
   have E2 : Hid ((⟨(Lib.cut s.data.toList [47]).2.1.toArray⟩ : ByteArray) = ByteArray.empty) := e2
   have E3 : Hid ((Lib.cut s.data.toList [47]).2.2 = false) := e3
   have HIX := Lib.hid hix
   clear hix e1 e2 e3
   go_enter Tryz.func249, Tryz.ntmps249
   go_wp2_with fail
   refine (Tryz.stringslite_Index_one s 47 _).mono ?_
   rintro e w' ⟨rfl, rfl⟩
   rw [HIX.out]
   go_wp2
   go_ret3
   exact ⟨by rw [E1.out, E2.out, E3.out]; rfl, 0, rfl⟩
 · obtain ⟨e1, e2, e3⟩ := Lib.cutB_hit s ⟨#[47]⟩ i hix
   rw [indexB_one] at hix
   have hs1 : (⟨#[47]⟩ : ByteArray).size = 1 := rfl
   rw [hs1] at hroom e2
   have E1 : Hid ((⟨(Lib.cut s.data.toList [47]).1.toArray⟩ : ByteArray) = s.extract 0 i) := e1
   have E2 : Hid ((⟨(Lib.cut s.data.toList [47]).2.1.toArray⟩ : ByteArray) = s.extract (i + 1) s.size) := e2
   have E3 : Hid ((Lib.cut s.data.toList [47]).2.2 = true) := e3
   have HIX := Lib.hid hix
   clear hix e1 e2 e3
   have c1 : (0 : Int) <= ↑i := by omega
   have c2 : (↑i : Int) <= ↑s.size := by omega
   have c3 : (0 : Int) <= ↑i + 1 := by omega
   have c4 : (↑i + 1 : Int) <= ↑s.size := by omega
   have c5 : ((i : Int) + 1).toNat = i + 1 := by omega
   have c6 : IntKind.i64.wrap ((i : Int) + 1) = (i : Int) + 1 := IntWalk.i64_in _ (by omega)
   go_enter Tryz.func249, Tryz.ntmps249
   go_wp2_with fail
   refine (Tryz.stringslite_Index_one s 47 _).mono ?_
   rintro e w' ⟨rfl, rfl⟩
   rw [HIX.out]
   go_wp2_with fail
   go_quiet (fail)
   go_wp2
   go_ret3
   exact ⟨by rw [E1.out, E2.out, E3.out]; rfl, _, rfl⟩
theorem cut_slash (s : ByteArray) (w : World) (hs : s.size <= 140737488351232) :
 Calls Tryz.prog 208 #[.string s, .string ⟨#[47]⟩] w fun e w' => e = .returned (.tuple #[.string ⟨(Lib.cut s.data.toList [47]).1.toArray⟩, .string ⟨(Lib.cut s.data.toList [47]).2.1.toArray⟩, .bool (Lib.cut s.data.toList [47]).2.2]) /\ ∃ n, w' = w.drewN n := by
 go_enter Tryz.func208, Tryz.ntmps208
 go_wp2_with fail
 refine (slCut_slash s _ hs).mono ?_
 rintro e w' ⟨rfl, n, rfl⟩
 go_wp2
 go_ret3
 exact ⟨rfl, n, rfl⟩
end Go.Proofs.YtdpjdifoonfcdaaGreatDoor

namespace Go.Proofs.YtdpjdifoonfcdaaGreatDoor
open Go.RowKit
def parseD (m : Bool) (c : List UInt8 × List UInt8 × Bool) : Option (Bool × Nat × Nat) :=
 match natP c.1 with
 | none => none
 | some n => if c.2.2 = true then (match natP c.2.1 with | none => none | some d => if d = 0 then none else some (m, n, d)) else some (m, n, 1)
def parseR (l : List UInt8) : Option (Bool × Nat × Nat) := parseD (Lib.hasPrefix l [45]) (Lib.cut (Lib.trimPrefix l [45]) [47])
def ParsedRes (r : Option (Bool × Nat × Nat)) (w : World) (e : Ending) (w' : World) : Prop :=
 (match r with
  | none => e = .returned (.tuple #[.agg #[.bool false, .slice none 0 0, .slice none 0 0], .bool false])
  | some (m, n, d) => ∃ v, e = .returned (.tuple #[v, .bool true]) /\ RatV w' v (m && decide (n ≠ 0)) (n / Nat.gcd n d) (d / Nat.gcd n d)) /\ Below w.heap.size w w'
theorem parsed_none {r : Option (Bool × Nat × Nat)} {w w' : World} (h : r = none) (hb : Below w.heap.size w w') : ParsedRes r w (.returned (.tuple #[.agg #[.bool false, .slice none 0 0, .slice none 0 0], .bool false])) w' := by subst h; exact ⟨rfl, hb⟩
theorem parsed_some {r : Option (Bool × Nat × Nat)} {w w' : World} {m : Bool} {n d : Nat} {v : Value} (h : r = some (m, n, d)) (hv : RatV w' v (m && decide (n ≠ 0)) (n / Nat.gcd n d) (d / Nat.gcd n d)) (hb : Below w.heap.size w w') : ParsedRes r w (.returned (.tuple #[v, .bool true])) w' := by subst h; exact ⟨⟨v, rfl, hv⟩, hb⟩
theorem natP_some {l : List UInt8} {n : Nat} (h : natP l = some n) : n < 10 ^ l.length := by
 rw [natP] at h
 split at h
 · cases h
 · split at h
   · rename_i h2
     rw [<- Option.some.inj h]
     exact dval_lt l h2
   · cases h
theorem natP_len {l : List UInt8} {n : Nat} (h : natP l = some n) : (dig n).length <= l.length / 9 + 1 := by
 have h1 := natP_some h
 refine dig_len_lt (Nat.lt_of_lt_of_le h1 ?_)
 rw [B_pow]
 exact Nat.pow_le_pow_right (by decide) (by omega)
theorem cut_len (l : List UInt8) : (Lib.cut l [47]).1.length <= l.length /\ (Lib.cut l [47]).2.1.length <= l.length := by
 unfold Lib.cut
 split
 · simp only [List.length_take, List.length_drop]; omega
 · simp
theorem trim_len (l p : List UInt8) : (Lib.trimPrefix l p).length <= l.length := by
 unfold Lib.trimPrefix
 split
 · rw [List.length_drop]; omega
 · exact Nat.le_refl _
theorem arr_size (l : List UInt8) : (⟨l.toArray⟩ : ByteArray).size = l.length := by
 show l.toArray.size = l.length
 simp
set_option maxRecDepth 100000 in
set_option maxHeartbeats 2000000 in
theorem parsed_any (s : ByteArray) (w : World) (hs : s.size <= 140737488351232) :
 Calls Tryz.prog 199 #[.string s] w (ParsedRes (parseR s.data.toList) w) := by
 have hcl := cut_len (Lib.trimPrefix s.data.toList [45])
 have htl := trim_len s.data.toList [45]
 have hsl : s.data.toList.length = s.size := rfl
 have hts : (⟨(Lib.trimPrefix s.data.toList [45]).toArray⟩ : ByteArray).size <= 140737488351232 := by rw [arr_size]; omega
 have hcut := fun W => cut_slash ⟨(Lib.trimPrefix s.data.toList [45]).toArray⟩ W hts
 have htd : (⟨(Lib.trimPrefix s.data.toList [45]).toArray⟩ : ByteArray).data.toList = Lib.trimPrefix s.data.toList [45] := by simp
 have hcp := fun W => Tryz.strings_CutPrefix s ⟨#[45]⟩ W
 have hcp2 : ∀ W, Calls Tryz.prog 243 #[.string s, .string ⟨#[45]⟩] W fun e w' => e = .returned (.tuple #[.string ⟨(Lib.trimPrefix s.data.toList [45]).toArray⟩, .bool (Lib.hasPrefix s.data.toList [45])]) /\ w' = W := hcp
 clear hcp
 rw [htd] at hcut
 have hpr : parseR s.data.toList = parseD (Lib.hasPrefix s.data.toList [45]) (Lib.cut (Lib.trimPrefix s.data.toList [45]) [47]) := rfl
 rw [hpr]
 clear hpr htd
 obtain ⟨hc1, hc2⟩ := hcl
 have h1 : (Lib.cut (Lib.trimPrefix s.data.toList [45]) [47]).1.length <= 140737488351232 := by omega
 have h2 : (Lib.cut (Lib.trimPrefix s.data.toList [45]) [47]).2.1.length <= 140737488351232 := by omega
 clear hc1 hc2 htl hsl hts hs
 generalize (Lib.cut (Lib.trimPrefix s.data.toList [45]) [47]) = c at *
 generalize (Lib.hasPrefix s.data.toList [45]) = m at *
 generalize (⟨(Lib.trimPrefix s.data.toList [45]).toArray⟩ : ByteArray) = dg at *
 obtain ⟨la, lb, dv⟩ := c
 simp only at *
 obtain ⟨r, hr⟩ : ∃ r, r = parseD m (la, lb, dv) := ⟨_, rfl⟩
 rw [<- hr]
 have hra : natP la = none -> r = none := fun h => by rw [hr, parseD, h]
 have hrb : ∀ n, natP la = some n -> dv = false -> r = some (m, n, 1) := fun n h h3 => by rw [hr, parseD, h, h3]; rfl
 have hrc : ∀ n, natP la = some n -> dv = true -> natP lb = none -> r = none := fun n h h3 h4 => by rw [hr, parseD, h, h3]; simp [h4]
 have hrd : ∀ n, natP la = some n -> dv = true -> natP lb = some 0 -> r = none := fun n h h3 h4 => by rw [hr, parseD, h, h3]; simp [h4]
 have hre : ∀ n d, natP la = some n -> dv = true -> natP lb = some d -> d ≠ 0 -> r = some (m, n, d) := fun n d h h3 h4 h5 => by rw [hr, parseD, h, h3]; simp [h4, h5]
 have hta : ∀ W, Calls Tryz.prog 244 #[.string ⟨la.toArray⟩] W (NatTextRes la W) := fun W => natText_read ⟨la.toArray⟩ W (by rw [arr_size]; exact h1)
 have htb : ∀ W, Calls Tryz.prog 244 #[.string ⟨lb.toArray⟩] W (NatTextRes lb W) := fun W => natText_read ⟨lb.toArray⟩ W (by rw [arr_size]; exact h2)
 have HCUT := Lib.hid hcut; have HCP := Lib.hid hcp2; have HRA := Lib.hid hra; have HRB := Lib.hid hrb; have HRC := Lib.hid hrc; have HRD := Lib.hid hrd; have HRE := Lib.hid hre; have HTA := Lib.hid hta; have HTB := Lib.hid htb
 clear hcut hcp2 hra hrb hrc hrd hre hta htb hr
 obtain ⟨W0, hW0⟩ : ∃ W0, W0 = w.alloc (.cells #[.bool false, .slice none 0 0, .slice none 0 0] 146) := ⟨_, rfl⟩
 have hbw : Below w.heap.size w W0 := by rw [hW0]; exact (Below.refl w.heap.size w).alloc (Nat.le_refl _) _
 have hz0 : W0.heap.size = w.heap.size + 1 := by rw [hW0]; simp
 have HBX : Hid (∀ {B : Nat} {w1 : World}, Below B W0 w1 -> w.heap.size < B -> (∀ i, w1.cell? ⟨w.heap.size, i, none⟩ = #[Value.bool false, .slice none 0 0, .slice none 0 0][i]?) /\ (∀ i, w1.frozen? ⟨w.heap.size, i, none⟩ = false)) := fun hb hB => by
  rw [hW0] at hb
  exact ⟨fun i => box_keep hb hB i, fun i => box_free hb hB i⟩
 have HBW := Lib.hid hbw
 clear hbw
 go_enter Tryz.func199, Tryz.ntmps199
 go_wp2_with fail
 rw [<- hW0]
 have HW0 := Lib.hid hW0
 clear hW0
 refine (HCP.out _).mono ?_
 rintro e w' ⟨rfl, rfl⟩
 go_wp2_with fail
 refine (HCUT.out _).mono ?_
 rintro e w' ⟨rfl, nd, rfl⟩
 go_wp2_with fail
 refine (HTA.out _).mono ?_
 rintro e w1 ⟨hm1, hb1⟩
 have hbx1 := (bel_drewN (Below.refl w'.heap.size w') nd).trans hb1
 clear hb1
 rcases hna : natP la with _ | n
 · rw [hna] at hm1
   have HR := Lib.hid (HRA.out hna)
   clear hna
   subst hm1
   obtain ⟨f1, f2⟩ := HBX.out hbx1 (by omega)
   have q0 := f1 0
   have q1 := f1 1
   have q2 := f1 2
   simp only [List.getElem?_toArray, List.getElem?_cons_succ, List.getElem?_cons_zero] at q0 q1 q2
   have g0 := f2 0
   have g1 := f2 1
   have g2 := f2 2
   clear f1 f2
   go_wp2
   refine bodyPost_ret (v := .tuple #[.agg #[.bool false, .slice none 0 0, .slice none 0 0], .bool false]) (by simp [results, Tryz.results199, go_sem, q0, q1, q2]) rfl ?_
   exact parsed_none HR.out ((((HBW.out.trans (hbx1.mono (by omega))).setCell (Nat.le_refl _) _).setCell (Nat.le_refl _) _).setCell (Nat.le_refl _) _)
 · rw [hna] at hm1
   obtain ⟨vn, rfl, hvn⟩ := hm1
   have hnl := natP_len hna
   have HNA := Lib.hid hna
   clear hna
   have HVN := Lib.hid hvn
   obtain ⟨an, cn, rfl⟩ := hvn.cases
   clear hvn
   go_wp2_with fail
   refine (one_any _).mono ?_
   rintro e w2 ⟨⟨v1, rfl, hv1⟩, hb2⟩
   have hbx2 := hbx1.trans (hb2.mono hbx1.size)
   have HVN2 := Lib.hid (HVN.out.below hb2 (Nat.le_refl _))
   have HV1 := Lib.hid hv1
   obtain ⟨a1, c1, rfl⟩ := hv1.cases
   clear hv1 hb2 hbx1
   cases dv
   · have HR := Lib.hid (HRB.out n HNA.out (by trivial))
     have hred := fun va vb W ha hb => reduced_any 2 (overOK_all _) m va vb n 1 W ha hb (by omega) (by rw [dig_1]; simp) (by decide) (by decide)
     have HRED := Lib.hid hred
     clear hred
     go_wp2_with fail
     refine (HRED.out _ _ _ HVN2.out HV1.out).mono ?_
     rintro e w3 ⟨⟨v3, rfl, hv3⟩, hb3⟩
     have hbx3 := hbx2.trans (hb3.mono hbx2.size)
     have HV3 := Lib.hid hv3
     obtain ⟨vx, vy, rfl, hx, hy⟩ := hv3
     obtain ⟨ax, cx, rfl⟩ := hx.cases
     obtain ⟨ay, cy, rfl⟩ := hy.cases
     have HX := Lib.hid hx; have HY := Lib.hid hy
     clear hx hy hb3 hbx2
     obtain ⟨f1, f2⟩ := HBX.out hbx3 (by omega)
     have q0 := f1 0
     have q1 := f1 1
     have q2 := f1 2
     simp only [List.getElem?_toArray, List.getElem?_cons_succ, List.getElem?_cons_zero] at q0 q1 q2
     have g0 := f2 0
     have g1 := f2 1
     have g2 := f2 2
     clear f1 f2
     go_wp2
     refine bodyPost_ret (v := .tuple #[.agg #[.bool (m && decide (n ≠ 0)), .slice ax (dig (n / Nat.gcd n 1)).length cx, .slice ay (dig (1 / Nat.gcd n 1)).length cy], .bool true]) (by simp [results, Tryz.results199, go_sem, q0, q1, q2]) rfl ?_
     exact parsed_some HR.out ⟨_, _, rfl, HX.out.box3 q0 q1 q2 trivial trivial trivial, HY.out.box3 q0 q1 q2 trivial trivial trivial⟩ ((((HBW.out.trans (hbx3.mono (by omega))).setCell (Nat.le_refl _) _).setCell (Nat.le_refl _) _).setCell (Nat.le_refl _) _)
   · go_wp2_with fail
     refine (HTB.out _).mono ?_
     rintro e w3 ⟨hm3, hb3⟩
     have hbx3 := hbx2.trans (hb3.mono hbx2.size)
     have HVN3 := Lib.hid (HVN2.out.below hb3 (Nat.le_refl _))
     clear hb3 hbx2
     rcases hnb : natP lb with _ | d
     · rw [hnb] at hm3
       have HR := Lib.hid (HRC.out n HNA.out (by trivial) hnb)
       clear hnb
       subst hm3
       obtain ⟨f1, f2⟩ := HBX.out hbx3 (by omega)
       have q0 := f1 0
       have q1 := f1 1
       have q2 := f1 2
       simp only [List.getElem?_toArray, List.getElem?_cons_succ, List.getElem?_cons_zero] at q0 q1 q2
       have g0 := f2 0
       have g1 := f2 1
       have g2 := f2 2
       clear f1 f2
       go_wp2
       refine bodyPost_ret (v := .tuple #[.agg #[.bool false, .slice none 0 0, .slice none 0 0], .bool false]) (by simp [results, Tryz.results199, go_sem, q0, q1, q2]) rfl ?_
       exact parsed_none HR.out ((((HBW.out.trans (hbx3.mono (by omega))).setCell (Nat.le_refl _) _).setCell (Nat.le_refl _) _).setCell (Nat.le_refl _) _)
     · rw [hnb] at hm3
       obtain ⟨vd, rfl, hvd⟩ := hm3
       have hdl := natP_len hnb
       have HVD := Lib.hid hvd
       obtain ⟨ad, cd, rfl⟩ := hvd.cases
       clear hvd
       by_cases hd0 : d = 0
       · subst hd0
         have HR := Lib.hid (HRD.out n HNA.out (by trivial) hnb)
         clear hnb
         have hl0 : (dig 0).length = 0 := by rw [dig_zero]; rfl
         rw [hl0]
         clear hl0
         obtain ⟨f1, f2⟩ := HBX.out hbx3 (by omega)
         have q0 := f1 0
         have q1 := f1 1
         have q2 := f1 2
         simp only [List.getElem?_toArray, List.getElem?_cons_succ, List.getElem?_cons_zero] at q0 q1 q2
         have g0 := f2 0
         have g1 := f2 1
         have g2 := f2 2
         clear f1 f2
         go_wp2
         refine bodyPost_ret (v := .tuple #[.agg #[.bool false, .slice none 0 0, .slice none 0 0], .bool false]) (by simp [results, Tryz.results199, go_sem, q0, q1, q2]) rfl ?_
         exact parsed_none HR.out ((((HBW.out.trans (hbx3.mono (by omega))).setCell (Nat.le_refl _) _).setCell (Nat.le_refl _) _).setCell (Nat.le_refl _) _)
       · have HR := Lib.hid (HRE.out n d HNA.out (by trivial) hnb hd0)
         have hdp : (((dig d).length : Int) == 0) = false := by
          have := mt dig_len_pos.1 hd0
          rw [beq_eq_false_iff_ne]; omega
         have hred := fun va vb W ha hb => reduced_any (d + 1) (overOK_all _) m va vb n d W ha hb (by omega) (by omega) (by omega) hd0
         have HRED := Lib.hid hred
         clear hred hnb hd0
         go_wp2_with fail
         refine (HRED.out _ _ _ HVN3.out HVD.out).mono ?_
         rintro e w4 ⟨⟨v3, rfl, hv3⟩, hb4⟩
         have hbx4 := hbx3.trans (hb4.mono hbx3.size)
         obtain ⟨vx, vy, rfl, hx, hy⟩ := hv3
         obtain ⟨ax, cx, rfl⟩ := hx.cases
         obtain ⟨ay, cy, rfl⟩ := hy.cases
         have HX := Lib.hid hx; have HY := Lib.hid hy
         clear hx hy hb4 hbx3
         obtain ⟨f1, f2⟩ := HBX.out hbx4 (by omega)
         have q0 := f1 0
         have q1 := f1 1
         have q2 := f1 2
         simp only [List.getElem?_toArray, List.getElem?_cons_succ, List.getElem?_cons_zero] at q0 q1 q2
         have g0 := f2 0
         have g1 := f2 1
         have g2 := f2 2
         clear f1 f2
         go_wp2
         refine bodyPost_ret (v := .tuple #[.agg #[.bool (m && decide (n ≠ 0)), .slice ax (dig (n / Nat.gcd n d)).length cx, .slice ay (dig (d / Nat.gcd n d)).length cy], .bool true]) (by simp [results, Tryz.results199, go_sem, q0, q1, q2]) rfl ?_
         exact parsed_some HR.out ⟨_, _, rfl, HX.out.box3 q0 q1 q2 trivial trivial trivial, HY.out.box3 q0 q1 q2 trivial trivial trivial⟩ ((((HBW.out.trans (hbx4.mono (by omega))).setCell (Nat.le_refl _) _).setCell (Nat.le_refl _) _).setCell (Nat.le_refl _) _)
end Go.Proofs.YtdpjdifoonfcdaaGreatDoor
