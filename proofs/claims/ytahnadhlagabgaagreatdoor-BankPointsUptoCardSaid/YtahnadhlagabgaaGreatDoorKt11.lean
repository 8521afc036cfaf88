/- Parts of a proof, in build order: JP, JQ, Z0, Z1, Z2, Z3, Z4. -/
import Derived.Test.YtahnadhlagabgaaGreatDoorKt10

namespace Go.Proofs.YtahnadhlagabgaaGreatDoor
open Go.RowKit
def T2 (p : Nat × Nat) : ByteArray := ofT (p.1 : Int) p.2
def FrOK (p : Nat × Nat) : Prop := p.2 ≠ 0 /\ Nat.gcd p.1 p.2 = 1 /\ p.1 <= p.2 /\ p.2 < 10 ^ 15
def cmpF (p q : Nat × Nat) : Int := if (p.1 : Int) * q.2 = q.1 * p.2 then 0 else if (p.1 : Int) * q.2 < q.1 * p.2 then -1 else 1
theorem redI_ok {p : Nat × Nat} (h : FrOK p) : redI (p.1 : Int) p.2 = (false, p.1, p.2) := by
 unfold redI
 rw [Int.natAbs_natCast, h.2.1, Nat.div_one, Nat.div_one, decide_eq_false (by omega)]
theorem getR_T {p : Nat × Nat} (h : FrOK p) : getR (T2 p) = some (false, p.1, p.2) := by
 obtain ⟨h1, h2, h3, h4⟩ := h
 rw [T2, getR_of h1 (by rw [Int.natAbs_natCast]; omega) (by omega), redI_ok ⟨h1, h2, h3, h4⟩]
theorem cmp_T {p q : Nat × Nat} (hp : FrOK p) (hq : FrOK q) : cmpE (T2 p) (T2 q) = 0 /\ cmpV (T2 p) (T2 q) = cmpF p q := by
 unfold cmpE cmpV
 rw [getR_T hp, getR_T hq]
 exact ⟨rfl, rfl⟩
theorem T2_size {p : Nat × Nat} (h : FrOK p) : (T2 p).size <= 1099511627776 /\ Lib.hasSuffix (T2 p).data.toList [105] = false := by
 obtain ⟨h1, h2, h3, h4⟩ := h
 exact ofT_size (by rw [Int.natAbs_natCast]; omega) (by omega)
theorem getR_empty : getR ⟨#[]⟩ = none := by decide +kernel
theorem T2_ne {p : Nat × Nat} (h : FrOK p) : T2 p ≠ ⟨#[]⟩ := by
 intro e
 have := getR_T h
 rw [e, getR_empty] at this
 cases this
theorem T2_zero : T2 (0, 1) = ⟨#[48]⟩ := ofT_zero
theorem fr01 : FrOK (0, 1) := ⟨by decide, by decide, by decide, by decide⟩
theorem fr11 : FrOK (1, 1) := ⟨by decide, by decide, by decide, by decide⟩
def mFr (L p q r s : Int) : Nat × Nat := (redI (matN L p q r s * matN L p q r s) (matD L p q r s).toNat).2
theorem mFr_ok {L p q r s : Int} (h : matE L p q r s = 0) : FrOK (mFr L p q r s) /\ matT L p q r s = T2 (mFr L p q r s) := by
 obtain ⟨h1, h2, h3, h4⟩ := matE_zero h
 have hL := waveOK_true h1
 have hd := matD_pos h1 h2 h3 h4
 have hn := mat_bd (r := r) (s := s) h1
 have hsq := bestN_sq (wav L p q) (wav L r s) L.toNat (by omega) (by omega)
 rw [Int.toNat_of_nonneg (show 0 <= L by omega)] at hsq
 have hsq' : matN L p q r s * matN L p q r s <= matD L p q r s := hsq
 have m2 := Int.mul_nonneg hn.1 hn.1
 have hT := matT_of h
 unfold mFr
 generalize matN L p q r s * matN L p q r s = n at *
 generalize matD L p q r s = d at *
 have e1 : redI n d.toNat = (false, n.natAbs / Nat.gcd n.natAbs d.toNat, d.toNat / Nat.gcd n.natAbs d.toNat) := by
  unfold redI
  rw [decide_eq_false (by omega)]
 have hg : 0 < Nat.gcd n.natAbs d.toNat := Nat.gcd_pos_of_pos_right _ (by omega)
 have hok : FrOK (redI n d.toNat).2 := by
  rw [e1]
  refine ⟨?_, Nat.gcd_div_gcd_div_gcd_of_pos_right (by omega), Nat.div_le_div_right (by omega), ?_⟩
  · have := Nat.div_pos (Nat.le_of_dvd (by omega) (Nat.gcd_dvd_right n.natAbs d.toNat)) hg
    show d.toNat / _ ≠ 0
    omega
  · exact Nat.lt_of_le_of_lt (Nat.div_le_self _ _) (by omega)
 refine ⟨hok, ?_⟩
 rw [hT, T2, ofT_red, ofT_red, redI_ok hok, e1]
def mostF (L : Int) (x : Int × Int) (cs : List (Int × Int)) : Nat × Nat := cs.foldl (fun m c => if 0 < cmpF (mFr L x.1 x.2 c.1 c.2) m then mFr L x.1 x.2 c.1 c.2 else m) (0, 1)
theorem mostF_snoc (L : Int) (x : Int × Int) (cs : List (Int × Int)) (c : Int × Int) : mostF L x (cs ++ [c]) = if 0 < cmpF (mFr L x.1 x.2 c.1 c.2) (mostF L x cs) then mFr L x.1 x.2 c.1 c.2 else mostF L x cs := by
 unfold mostF
 rw [List.foldl_append]; rfl
theorem pt_match {L : Int} (x : Pt L) {c : Int × Int} (h : chOK L c = true) : matE L x.1.1 x.1.2 c.1 c.2 = 0 := by
 obtain ⟨h1, h2⟩ := x.2
 simp only [chOK, Bool.and_eq_true, Bool.not_eq_true'] at h
 simp [matE, h1, h2, h.1, h.2]
theorem mostF_ok {L : Int} (x : Pt L) {cs : List (Int × Int)} (h : ∀ c ∈ cs, chOK L c = true) : FrOK (mostF L x.1 cs) := by
 unfold mostF
 suffices H : ∀ (cs : List (Int × Int)) (m : Nat × Nat), (∀ c ∈ cs, chOK L c = true) -> FrOK m -> FrOK (cs.foldl (fun m c => if 0 < cmpF (mFr L x.1.1 x.1.2 c.1 c.2) m then mFr L x.1.1 x.1.2 c.1 c.2 else m) m) from H cs _ h fr01
 intro cs
 induction cs with
 | nil => intro m _ hm; exact hm
 | cons c r ih =>
   intro m hc hm
   rw [List.foldl_cons]
   refine ih _ (fun d hd => hc d (by simp [hd])) ?_
   split
   · exact (mFr_ok (pt_match x (hc c (by simp)))).1
   · exact hm
def wrsF (L : Int) (cs : List (Int × Int)) (l : List (Pt L)) : Option (Nat × Nat) := l.foldl (fun w x => match w with | none => some (mostF L x.1 cs) | some v => if cmpF (mostF L x.1 cs) v < 0 then some (mostF L x.1 cs) else some v) none
theorem wrsF_snoc (L : Int) (cs : List (Int × Int)) (l : List (Pt L)) (x : Pt L) : wrsF L cs (l ++ [x]) = match wrsF L cs l with | none => some (mostF L x.1 cs) | some v => if cmpF (mostF L x.1 cs) v < 0 then some (mostF L x.1 cs) else some v := by
 unfold wrsF
 rw [List.foldl_append]; rfl
def refW (L : Int) (cs : List (Int × Int)) (l : List (Pt L)) : Nat × Nat := l.foldl (fun v x => if cmpF (mostF L x.1 cs) v < 0 then mostF L x.1 cs else v) (1, 1)
theorem refW_snoc (L : Int) (cs : List (Int × Int)) (l : List (Pt L)) (x : Pt L) : refW L cs (l ++ [x]) = if cmpF (mostF L x.1 cs) (refW L cs l) < 0 then mostF L x.1 cs else refW L cs l := by
 unfold refW
 rw [List.foldl_append]; rfl
theorem le_one {p : Nat × Nat} (h : FrOK p) (hc : ¬ cmpF p (1, 1) < 0) : p = (1, 1) := by
 obtain ⟨h1, h2, h3, -⟩ := h
 have e : p.1 = p.2 := by
  unfold cmpF at hc
  simp only [Int.natCast_one, Int.mul_one, Int.one_mul] at hc
  split at hc
  · omega
  · split at hc <;> omega
 rw [e, Nat.gcd_self] at h2
 exact Prod.ext (e.trans h2) h2
theorem wrs_ref {L : Int} {cs : List (Int × Int)} (h : ∀ c ∈ cs, chOK L c = true) {l : List (Pt L)} (hl : l ≠ []) : wrsF L cs l = some (refW L cs l) := by
 cases l with
 | nil => exact absurd rfl hl
 | cons x r =>
   unfold wrsF refW
   rw [List.foldl_cons, List.foldl_cons]
   have e : (if cmpF (mostF L x.1 cs) (1, 1) < 0 then mostF L x.1 cs else (1, 1)) = mostF L x.1 cs := by
    split
    · rfl
    · rename_i hc; exact (le_one (mostF_ok x h) hc).symm
   rw [e]
   simp only
   generalize mostF L x.1 cs = v
   clear e hl
   induction r generalizing v with
   | nil => rfl
   | cons y r ih =>
     rw [List.foldl_cons, List.foldl_cons]
     simp only
     by_cases hc : cmpF (mostF L y.1 cs) v < 0
     · rw [if_pos hc, if_pos hc]; exact ih _
     · rw [if_neg hc, if_neg hc]; exact ih _
theorem wrsF_ok {L : Int} {cs : List (Int × Int)} (h : ∀ c ∈ cs, chOK L c = true) (l : List (Pt L)) : ∀ v, wrsF L cs l = some v -> FrOK v := by
 unfold wrsF
 suffices H : ∀ (l : List (Pt L)) (w : Option (Nat × Nat)), (∀ v, w = some v -> FrOK v) -> ∀ v, (l.foldl (fun w x => match w with | none => some (mostF L x.1 cs) | some v => if cmpF (mostF L x.1 cs) v < 0 then some (mostF L x.1 cs) else some v) w) = some v -> FrOK v from H l none (fun v h => by cases h)
 intro l
 induction l with
 | nil => intro w hw v hv; exact hw v hv
 | cons x r ih =>
   intro w hw
   rw [List.foldl_cons]
   refine ih _ (fun v hv => ?_)
   cases w with
   | none =>
     simp only [Option.some.injEq] at hv
     rw [<- hv]; exact mostF_ok x h
   | some u =>
     simp only at hv
     split at hv
     · rw [<- Option.some.inj hv]; exact mostF_ok x h
     · rw [<- Option.some.inj hv]; exact hw u rfl
theorem wrsF_none {L : Int} {cs : List (Int × Int)} (l : List (Pt L)) (h : ∀ c ∈ cs, chOK L c = true) : wrsF L cs l = none ↔ l = [] := by
 constructor
 · intro hn
   cases l with
   | nil => rfl
   | cons x r => rw [wrs_ref h (by simp)] at hn; cases hn
 · rintro rfl; rfl
def worT (o : Option (Nat × Nat)) : ByteArray := match o with | none => ⟨#[]⟩ | some v => T2 v
end Go.Proofs.YtahnadhlagabgaaGreatDoor

namespace Go.Proofs.YtahnadhlagabgaaGreatDoor
open Go.RowKit Go.Shelf
theorem wpListIn_load_arr {F : Fence} {n : Nat} {P : Program} {ops : Array Oper} {rest : List Oper} {o : Oper} {a : Act} {w : World} {Q : Exit -> Act -> World -> Prop} (hgd : o.guard = none) (ty : TypeId) (x : Operand) (ho : o.op = .load ty x)
 (p : Addr) (hx : a.eval x = .pointer (some p)) (V : Array Value) (d : TypeDesc) (hc : ∀ j v, V[j]? = some v -> w.cell? (p.add j) = some v)
 (hu : P.underlying ty = some d) (hd : (match d with | .struct _ | .array _ _ => true | _ => false) = true) (hi : (P.info? ty).map (·.size) = some V.size)
 (h : wpListIn F n P ops Q rest (a.put o.dst (.agg V)) w) : wpListIn F n P ops Q (o :: rest) a w :=
 wpListIn_plain hgd fun K hK => by
  have hs : ∀ r, Oper.semAt r a.eval o = execOp a.eval o := by
   intro r
   cases r with
   | none => rfl
   | some l => exact Oper.semAt_some l _ o (fun c h => by rw [ho] at h; cases h)
  have he : (execOp a.eval o).run P w = .ok (.value (.agg V)) w := exec_load_arr ty x ho p hx V d hc hu hd hi
  unfold Oper.wpIn
  refine ⟨fun f hf => by simp [Oper.about, ho] at hf, ?_⟩
  rw [hs, he, Oper.uponIn_value]
  exact hK _ _ h
theorem match_call (L p q r s : Int) (h : matE L p q r s = 0) : ∃ n d : Int, (∀ W : World, Calls Tryz.prog 68 #[.agg (shp L (wav L p q)), .agg (shp L (wav L r s))] W fun e w' => e = .returned (.agg #[.int .i64 n, .int .i64 d]) /\ Below W.heap.size W w') /\
 (∀ W : World, Tab W -> Calls Tryz.prog 69 #[.agg #[.int .i64 n, .int .i64 d]] W fun e w' => e = .returned (.tuple #[.string (T2 (mFr L p q r s)), .int .i64 0]) /\ Below W.heap.size W w') := by
 obtain ⟨h1, h2, h3, h4⟩ := matE_zero h
 have hL := waveOK_true h1
 have hd := matD_pos h1 h2 h3 h4
 have hn := mat_bd (r := r) (s := s) h1
 have hsq := bestN_sq (wav L p q) (wav L r s) L.toNat (by omega) (by omega)
 rw [Int.toNat_of_nonneg (show 0 <= L by omega)] at hsq
 have hsq' : matN L p q r s * matN L p q r s <= matD L p q r s := hsq
 have m2 := Int.mul_nonneg hn.1 hn.1
 have hT := (mFr_ok h).2
 refine ⟨matN L p q r s * matN L p q r s, matD L p q r s, fun W => ?_, fun W ht => ?_⟩
 · have hm := matched_any L.toNat (wav L p q) (wav L r s) W (wav_length _ _ _) (wav_length _ _ _) (by omega) (by omega) (wav_bd _ _ _) (wav_bd _ _ _)
   rw [show ((L.toNat : Nat) : Int) = L by omega] at hm
   exact hm
 · have hm := num_any (matN L p q r s * matN L p q r s) (matD L p q r s) W ht (by omega) (by omega) (by omega) (by omega) (by omega)
   unfold matT at hT
   rw [if_pos h] at hT
   rw [<- hT]
   exact hm
theorem bankOK_len9 {L : Int} {cs : List (Int × Int)} (h : bankOK L cs = true) : cs.length <= 64 := by
 simp only [bankOK, Bool.and_eq_true, decide_eq_true_eq] at h
 exact h.1.1
theorem list_empty (s : ByteArray) : s.toList = [] ↔ s = ⟨#[]⟩ := by
 rw [ByteArray.toList_eq]
 constructor
 · intro h
   obtain ⟨d⟩ := s
   obtain ⟨l⟩ := d
   simp only at h
   subst h; rfl
 · rintro rfl; rfl
def worE (o : Option (Nat × Nat)) : Int := match o with | none => 4 | some _ => 0
set_option maxRecDepth 1000000 in
set_option maxHeartbeats 4000000 in
theorem Worst_good (L a b c d : Int) (cs : List (Int × Int)) (ao : Option Addr) (cap : Nat) (w : World) (ht : Tab w) (hc : Cells w ao (prs cs)) (hl : cs.length <= 9223372036854775807) (hcap : cs.length <= cap) (hcap2 : cap <= 9223372036854775807) (hE0 : covE L a b c d cs ⟨#[48]⟩ = 0) :
 Calls Tryz.prog 27 #[.agg #[.int .i64 L, .int .i64 a, .int .i64 b, .int .i64 c, .int .i64 d], .slice ao cs.length cap] w fun e w' => e = .returned (.tuple #[.string (worT (wrsF L cs (ptsAll L a c (d - c + 1).toNat (b - a + 1).toNat))), .int .i64 (worE (wrsF L cs (ptsAll L a c (d - c + 1).toNat (b - a + 1).toNat)))]) /\ Below w.heap.size w w' := by
 obtain ⟨W0, hW0⟩ : ∃ W0, w.alloc (.cells #[.int .i64 L, .int .i64 a, .int .i64 b, .int .i64 c, .int .i64 d] 23) = W0 := ⟨_, rfl⟩
 have hB0 : Below w.heap.size w W0 := by rw [<- hW0]; exact (Below.refl _ w).alloc lc _
 have hs0 : W0.heap.size = w.heap.size + 1 := by rw [<- hW0]; simp
 have q0 : Blk W0 w.heap.size 23 #[.int .i64 L, .int .i64 a, .int .i64 b, .int .i64 c, .int .i64 d] := by rw [<- hW0]; exact Blk.new w _ _
 have ht0 := ht.below hB0 lc
 have hcv := covering_any L a b c d cs ao cap ⟨#[48]⟩ W0 ht0 (by decide) (hc.below hB0 lc) hl hcap hcap2
 have HW0 := hG hW0; have HCV := hG hcv; have HB0 := hG hB0; have HS0 := hG hs0; have Q0 := hG q0; have HT0 := hG ht0
 clear hW0 hcv ht ht0 hc hB0 hs0 q0
 refine (callsIn_wide (n := 8)).1 ?_
 refine callsIn_of_wp_marks Tryz.func27 rfl trivial ?_ rfl
 simp only [Tryz.ntmps27, List.size_toArray, List.length_cons, List.length_nil, Nat.reduceAdd, Nat.reduceSub, Array.replicate_succ, Array.replicate_zero, List.push_toArray, List.append_toArray, List.nil_append, List.cons_append]
 gi_wp2_with (refine ⟨trivial, ?_⟩; gi_at_call 50; rw [HW0.out]; refine (callsIn_wide.2 HCV.out).mono ?_; rintro r w1 ⟨⟨hE, hf, hbk, C, bo, cb, N, D, rfl, hbs, hC, hcs⟩ | ⟨hE, rfl⟩, hb1⟩ <;> refine Hid.out ?_)
 rotate_left
 · exact absurd hE0 hE
 refine hG ?_
 have hbw := HB0.out.trans (hb1.mono HB0.out.size)
 have hsz := HS0.out
 have hs1 := hb1.size
 obtain ⟨z0, z1, z2, z3, z4⟩ : w1.cell? ⟨w.heap.size, 0, none⟩ = some (.int .i64 L) /\ w1.cell? ⟨w.heap.size, 1, none⟩ = some (.int .i64 a) /\ w1.cell? ⟨w.heap.size, 2, none⟩ = some (.int .i64 b) /\ w1.cell? ⟨w.heap.size, 3, none⟩ = some (.int .i64 c) /\ w1.cell? ⟨w.heap.size, 4, none⟩ = some (.int .i64 d) := by
  have h := Q0.out.below hb1 (by omega)
  exact ⟨h.cell 0, h.cell 1, h.cell 2, h.cell 3, h.cell 4⟩
 have hlt : w.heap.size < w1.heap.size := by omega
 have HCC := hG hC; have HCS := hG hcs; have HB1 := hG hb1; have HBW := hG hbw; have HE := hG hE; have HF := hG hf; have HBK := hG hbk; have HT1 := hG (HT0.out.below hb1 lc)
 clear hC hcs hb1 hbw hE hE0 hf hbk hbs
 gi_wp2_with (refine ⟨trivial, ?_⟩; gi_at_call 55; refine (callsIn_wide.2 (points_any L a b c d _)).mono ?_; rintro r w2 ⟨rfl, rfl⟩; refine Hid.out ?_)
 refine hG ?_
 gi_wp2
 clear z0 z1 z2 z3 z4
 obtain ⟨W1, hW1⟩ : ∃ W1, ((w1.alloc (.cells #[.pointer (some ⟨C, 0, none⟩)] 82)).alloc (.cells #[.string ⟨#[]⟩] 25)).alloc (.cells #[.int .i64 L, .int .i64 a, .int .i64 b, .int .i64 c, .int .i64 d] 23) = W1 := ⟨_, rfl⟩
 have hBW1 : Below w1.heap.size w1 W1 := by rw [<- hW1]; exact ((bg.alloc lc _).alloc (by simp) _).alloc (by simp; omega) _
 have hsW1 : W1.heap.size = w1.heap.size + 3 := by rw [<- hW1]; simp
 have y0 : Blk W1 w1.heap.size 82 #[.pointer (some ⟨C, 0, none⟩)] := by unfold Blk; rw [<- hW1, hold_old _ _ _ (by simp; omega)]; exact heap_alloc2_old w1 _ _
 have y1 : Blk W1 (w1.heap.size + 1) 25 #[.string ⟨#[]⟩] := by unfold Blk; rw [<- hW1, hold_old _ _ _ (by simp)]; exact heap_alloc2_new w1 _ _
 have y2 : W1.heap[w1.heap.size + 1 + 1]? = some (.cells #[.int .i64 L, .int .i64 a, .int .i64 b, .int .i64 c, .int .i64 d] 23 (0, 0)) := by
  have h := heap_alloc_new ((w1.alloc (.cells #[.pointer (some ⟨C, 0, none⟩)] 82)).alloc (.cells #[.string ⟨#[]⟩] 25)) (.cells #[.int .i64 L, .int .i64 a, .int .i64 b, .int .i64 c, .int .i64 d] 23)
  rw [show ((w1.alloc (.cells #[.pointer (some ⟨C, 0, none⟩)] 82)).alloc (.cells #[.string ⟨#[]⟩] 25)).heap.size = w1.heap.size + 1 + 1 by simp] at h
  rw [<- hW1]; exact h
 rw [hW1]
 have HW1 := hG hW1
 clear hW1
 obtain ⟨Z, hZ⟩ : ∃ Z, Z = shp 0 (smp 0 0 0) := ⟨_, rfl⟩
 have z : Tryz.zeroCells100 = Z := by rw [hZ]; exact zero101
 have hZs : Z.size = 65 := by rw [hZ, shp_size, smp_length]
 clear hZ
 refine wpIn_rangeFunc_ownH rfl (by omega) (gf := 110) (lb := #[.pointer (some ⟨w1.heap.size + 1 + 1, 0, none⟩)]) rfl trivial (enters_of Tryz.func110 (by kernel_rfl) rfl)
  (points_stops _ (by omega) (w1.heap.size + 1 + 1) L a b c d HF.out W1 y2) KeepB.trans (keepB_b (by omega)) bg (fun _ => rfl)
  (fun pre W => (Blk W w1.heap.size 82 #[.pointer (some ⟨C, 0, none⟩)] /\ Blk W (w1.heap.size + 1) 25 #[.string (worT (wrsF L cs pre))]) /\ Below w1.heap.size w1 W /\ W1.heap.size <= W.heap.size)
  (fun _ _ _ => False)
  (OwnFrom.and (Own.from (fun s A B row hs hg hr => ⟨row_kept hs.1 hg hr, row_kept hs.2 hg hr⟩) _) (OwnFrom.and (ownFrom_below lc (by omega)) (fun _ _ _ _ hs hg _ => Nat.le_trans hs hg.size)))
  (fun _ _ _ _ _ hs _ _ => hs)
  ⟨⟨y0, y1⟩, hBW1, Nat.le_refl _⟩
  (fun x a' W => ∃ Bx, w1.heap.size + 3 <= Bx /\ W.heap[Bx]? = some (.cells (shp L (wav L x.1.1 x.1.2)) 100 (0, 0)) /\ a' = { tmps := #[.agg #[.int .i64 L, .int .i64 a, .int .i64 b, .int .i64 c, .int .i64 d], .slice ao cs.length cap, .pointer (some ⟨w.heap.size, 0, none⟩), undef, .string ⟨#[]⟩, .int .i64 0, .pointer (some ⟨w1.heap.size, 0, none⟩), .int .i64 0, .pointer (some ⟨w1.heap.size + 1, 0, none⟩), undef, .pointer (some ⟨Bx, 0, none⟩), undef, undef, undef, undef, undef, undef, undef, undef, undef, .tuple #[.pointer (some ⟨C, 0, none⟩), .int .i64 0], .agg #[.int .i64 L, .int .i64 a, .int .i64 b, .int .i64 c, .int .i64 d], .slice ao cs.length cap, .tuple #[.pointer (some ⟨C, 0, none⟩), .int .i64 0], .pointer (some ⟨C, 0, none⟩), .int .i64 0, .int .i64 0, .bool false, undef, .agg #[.int .i64 L, .int .i64 a, .int .i64 b, .int .i64 c, .int .i64 d], .func (.func 110) #[] #[.pointer (some ⟨w1.heap.size + 1 + 1, 0, none⟩)], .agg #[.int .i64 x.1.1, .int .i64 x.1.2], .agg (shp L (wav L x.1.1 x.1.2)), undef, undef, undef, undef, undef, undef, undef, undef, undef, undef, undef, undef, undef, undef, undef, undef, undef, undef, undef, undef, undef, undef, undef, undef, undef, undef, undef, undef, undef, undef, undef, undef, undef, undef, undef, undef, undef, undef, undef, undef, undef, undef], defers := [] })
  (fun x a' _ X Y row hs hg hr => by
   obtain ⟨Bx, h1, h2, h3⟩ := hs
   refine ⟨Bx, h1, (hg.block Bx (Array.getElem?_eq_some_iff.1 h2).1 (fun e => ?_)).trans h2, h3⟩
   obtain ⟨_, o, ho, hc⟩ := hr Bx e.symm
   rw [h2] at ho; cases ho; cases hc)
  ?assign ?body ?done ?stop
 case assign =>
  rintro l pre x W K ⟨⟨h1, h2⟩, hB1, hs⟩ hK
  have hst := store_shape (shp L (wav L x.1.1 x.1.2)) Z (by rw [shp_size, wav_length]) hZs shp_mem
  have hVs : (shp L (wav L x.1.1 x.1.2)).size = 65 := by rw [shp_size, wav_length]
  unfold ptV
  generalize shp L (wav L x.1.1 x.1.2) = V at *
  have hne : ¬ V = #[] := by intro h; rw [h] at hVs; simp at hVs
  gi_wp2_with (rw [Oper.semAt_eq _ _ _ (fun c h => by cases h)]; go_simp; try go_bits)
  have hal := (Below.refl W.heap.size W).alloc lc (.cells V 100)
  exact hK _ _ ((KeepsOthers.alloc _ _).from _) (KeepB.of hal (by omega)) ⟨⟨h1.below hal h1.lt, h2.below hal h2.lt⟩, hB1.alloc hB1.size _, by simp; omega⟩ ⟨W.heap.size, by omega, heap_alloc_new _ _, rfl⟩
 case body =>
  rintro l pre x a' W hl ⟨r, hr⟩ ⟨⟨h1, h2⟩, hB, hs⟩ ⟨Bx, hBx, bX, rfl⟩ hlt
  have hb0 := HB1.out.trans (hB.mono hs1)
  have htW := HT1.out.below hB lc
  have i1 := h1.c0
  have i2 := h2.c0
  have f2 := h2.free 0
  have hcC : ∀ W', Below w1.heap.size w1 W' -> W'.cell? ⟨C, 5, none⟩ = some (.slice bo cs.length cb) := fun W' h => cell_keep ((cell_of_row w1 _ 5 _ _ _ HCC.out).trans rfl) h lc
  have i5 := hcC W hB
  have hcB : ∀ W', Below w1.heap.size w1 W' -> Cells W' bo (shpL L (wvs L cs)) := fun W' h => HCS.out.below h lc
  have hVs : (shp L (wav L x.1.1 x.1.2)).size = 65 := by rw [shp_size, wav_length]
  have hinf : (Tryz.prog.info? 100).map (·.size) = some (shp L (wav L x.1.1 x.1.2)).size := by rw [hVs]; kernel_rfl
  have HINF := hG hinf; have HBX := hG bX; have HB := hG hB; have HCB := hG hcB; have HCC2 := hG hcC; have H1 := hG h1; have H2 := hG h2; have HTW := hG htW
  clear hinf bX hcB hcC h1 h2 htW
  have hall : ∀ c ∈ cs, chOK L c = true := by
   have h := HBK.out
   simp only [bankOK, Bool.and_eq_true, decide_eq_true_eq, List.all_eq_true] at h
   exact h.1.2
  have HALL := hG hall
  have hl64 := bankOK_len9 HBK.out
  clear hall
  generalize hVV : shp L (wav L x.1.1 x.1.2) = V at *
  have HVV := hG hVV
  clear hVV
  gi_wp2_with (rw [Oper.semAt_eq _ _ _ (fun c h => by cases h)]; go_simp; try go_bits)
  gi_loopw [11, 38] (fun v i wr => ∃ k : Nat, k <= cs.length /\ i = .int .i64 k /\ v = .string (T2 (mostF L x.1 (cs.take k))) /\ Below W.heap.size W wr) (fun _ i _ => cs.length - (intOf i).toNat)
  case atStart => exact ⟨0, Nat.zero_le _, rfl, by rw [List.take_zero]; exact (congrArg Value.string T2_zero).symm, Below.refl _ _⟩
  case round =>
   obtain ⟨k, hk, rfl, rfl, hbr⟩ := hrel
   have hsr := hbr.size
   have hBr := HB.out.trans (hbr.mono HB.out.size)
   by_cases hlt : k < cs.length
   · obtain ⟨⟨r, s⟩, hrs⟩ := get_of_lt hlt
     have hy : (wvs L cs)[k]? = some (wav L r s) := by rw [wvs, List.getElem?_map, hrs]; rfl
     have hcb := HCB.out wr hBr
     obtain ⟨bb, ob, rfl⟩ := hcb.addr (by
      intro h
      have h2 := shpL_get (L := L) (fun z hz => by simp only [wvs, List.mem_map] at hz; obtain ⟨c, _, rfl⟩ := hz; exact wav_length _ _ _) hy (j := 0) (v := .int .i64 L) rfl
      rw [h] at h2; simp at h2)
     have hcell : ∀ j v, (shp L (wav L r s))[j]? = some v -> wr.cell? ((⟨bb, ob + k * 65, none⟩ : Addr).add j) = some v := by
      intro j v hv
      rw [Addr.add_lit, Nat.add_assoc]
      exact hcb.at (shpL_get (L := L) (fun z hz => by simp only [wvs, List.mem_map] at hz; obtain ⟨c, _, rfl⟩ := hz; exact wav_length _ _ _) hy hv)
     have hch : chOK L (r, s) = true := HALL.out _ (List.mem_of_getElem? hrs)
     have hm0 := pt_match x hch
     obtain ⟨n, dd, hmt, hnm⟩ := match_call L x.1.1 x.1.2 r s hm0
     rw [HVV.out] at hmt
     have hfr := (mFr_ok hm0).1
     have hmo := mostF_ok x (cs := cs.take k) (fun c hc => HALL.out c (List.mem_of_mem_take hc))
     have hsn := mostF_snoc L x.1 (cs.take k) (r, s)
     rw [show cs.take k ++ [(r, s)] = cs.take (k + 1) by rw [List.take_add_one, hrs]; rfl] at hsn
     simp only at hsn
     generalize mFr L x.1.1 x.1.2 r s = fr at *
     generalize mostF L x.1 (cs.take k) = mo at *
     have hcm := fun (W' : World) (h : Below W.heap.size W W') => cmp_any (T2 fr) (T2 mo) W' (HTW.out.below h lc) (T2_size hfr) (T2_size hmo)
     rw [(cmp_T hfr hmo).1, (cmp_T hfr hmo).2] at hcm
     have hV2 : (shp L (wav L r s)).size = 65 := by rw [shp_size, wav_length]
     have hinf2 : (Tryz.prog.info? 100).map (·.size) = some (shp L (wav L r s)).size := by rw [hV2]; kernel_rfl
     have hst2 := store_shape (shp L (wav L r s)) Z (by rw [shp_size, wav_length]) hZs shp_mem
     generalize shp L (wav L r s) = V2 at *
     have hne2 : ¬ V2 = #[] := by intro h; rw [h] at hV2; simp at hV2
     have k1 : (k : Int) < cs.length := by omega
     have k2 : (0 : Int) <= k := by omega
     have hal := hbr.alloc hsr (.cells V2 100)
     have hx1 : (wr.alloc (.cells V2 100)).heap[Bx]? = some (.cells V 100 (0, 0)) := (hal.block _ (Array.getElem?_eq_some_iff.1 HBX.out).1).trans HBX.out
     have HCE := hG hcell; have HMT := hG hmt; have HNM := hG hnm; have HCM := hG hcm; have HSN := hG hsn; have HI2 := hG hinf2; have HAL := hG hal; have HX1 := hG hx1; have HBR := hG hbr
     clear hcell hmt hnm hcm hsn hinf2 hal hx1 hcb hy hrs hch hm0 hfr hmo hbr hBr
     gi_wp2_with (first
      | (refine wpListIn_load_arr (by rfl) 100 _ (by rfl) ⟨bb, ob + k * 65, none⟩ (by rfl) V2 _ HCE.out Tryz.underlying100 (by rfl) HI2.out ?_)
      | (refine wpListIn_load_row (by rfl) 100 _ (by rfl) Bx (by rfl) _ V _ _ HX1.out Tryz.underlying100 (by rfl) HINF.out ?_)
      | (refine wpListIn_load_row (by rfl) 100 _ (by rfl) wr.heap.size (by rfl) _ V2 _ _ (heap_alloc_new wr _) Tryz.underlying100 (by rfl) HI2.out ?_)
      | (refine ⟨trivial, ?_⟩; gi_at_call 68; refine (CallsIn.inRound l (callsIn_wide.2 (HMT.out _))).mono ?_; rintro r' w2 ⟨rfl, hb2⟩; refine Hid.out ?_)
      | (rw [Oper.semAt_eq _ _ _ (fun c h => by cases h)]; go_simp; try go_bits))
     refine hG ?_
     have hb02 := HAL.out.trans (hb2.mono HAL.out.size)
     gi_wp2_with (first
      | (refine ⟨trivial, ?_⟩; gi_at_call 69; refine (CallsIn.inRound l (callsIn_wide.2 (HNM.out _ (HTW.out.below hb02 lc)))).mono ?_; rintro r' w3 ⟨rfl, hb3⟩; refine Hid.out ?_)
      | (rw [Oper.semAt_eq _ _ _ (fun c h => by cases h)]; go_simp; try go_bits))
     refine hG ?_
     have hb03 := hb02.trans (hb3.mono hb02.size)
     gi_wp2_with (first
      | (refine ⟨trivial, ?_⟩; gi_at_call 29; refine (CallsIn.inRound l (callsIn_wide.2 (HCM.out _ hb03))).mono ?_; rintro r' w4 ⟨rfl, hb4⟩; refine Hid.out ?_)
      | (rw [Oper.semAt_eq _ _ _ (fun c h => by cases h)]; go_simp; try go_bits))
     refine hG ?_
     have hb04 := hb03.trans (hb4.mono hb03.size)
     have HB04 := hG hb04
     clear hb02 hb03 hb04 hb2 hb3 hb4
     by_cases hp : 0 < cmpF fr mo
     · rw [if_pos hp] at HSN
       generalize cmpF fr mo = cv at *
       gi_wp2_with (rw [Oper.semAt_eq _ _ _ (fun c h => by cases h)]; go_simp; try go_bits)
       go_roundw
       case rel => exact ⟨k + 1, by omega, by go_num, by rw [HSN.out], HB04.out⟩
       case measure => simp [intOf]; omega
     · rw [if_neg hp] at HSN
       generalize cmpF fr mo = cv at *
       gi_wp2_with (rw [Oper.semAt_eq _ _ _ (fun c h => by cases h)]; go_simp; try go_bits)
       go_roundw
       case rel => exact ⟨k + 1, by omega, by go_num, by rw [HSN.out], HB04.out⟩
       case measure => simp [intOf]; omega
   · obtain rfl : k = cs.length := by omega
     rw [List.take_length]
     have hmo := mostF_ok x HALL.out
     have hws := wrsF_snoc L cs pre x
     have hwo := wrsF_ok HALL.out pre
     generalize mostF L x.1 cs = mo at *
     generalize wrsF L cs pre = wo at *
     have hsw : (worT wo).size <= 1099511627776 /\ Lib.hasSuffix (worT wo).data.toList [105] = false := by
      cases wo with
      | none => exact ⟨by decide, by decide⟩
      | some v => exact T2_size (hwo v rfl)
     generalize htx : worT wo = tx at *
     have HTX := hG htx
     clear htx
     have hcm := cmp_any (T2 mo) tx wr (HTW.out.below hbr lc) (T2_size hmo) hsw
     have b1 := H2.out.below hbr H2.out.lt
     have hblk1 := H1.out.below hbr H1.out.lt
     have c1 := b1.c0
     have g1 := b1.free 0
     have l1 := b1.lt
     have HCM := hG hcm; have HW2 := hG b1; have HC1 := hG hblk1; have HBR := hG hbr; have HBRR := hG hBr; have HWS := hG hws
     clear hcm b1 hblk1 hbr hBr hws hsw
     gi_wp2_with (first
      | (refine ⟨trivial, ?_⟩; gi_at_call 29; refine (CallsIn.inRound l (callsIn_wide.2 HCM.out)).mono ?_; rintro r' w4 ⟨rfl, hb4⟩; refine Hid.out ?_)
      | (rw [Oper.semAt_eq _ _ _ (fun c h => by cases h)]; go_simp; try go_bits))
     refine hG ?_
     have b2 := HW2.out.below hb4 HW2.out.lt
     have hblk2 := HC1.out.below hb4 HC1.out.lt
     have c2 := b2.c0
     have g2 := b2.free 0
     have l2 := b2.lt
     have hb04 := HBR.out.trans (hb4.mono hsr)
     have hbw4 := HBRR.out.trans (hb4.mono HBRR.out.size)
     have hsz4 := hb04.size
     have HB2 := hG b2; have HK2 := hG hblk2; have HB04 := hG hb04; have HBW4 := hG hbw4
     clear b2 hblk2 hb04 hbw4 hb4 c1 g1 l1
     generalize hcv : cmpV (T2 mo) tx = cv at *
     have HCV2 := hG hcv
     clear hcv
     cases wo with
     | none =>
       have t0 : tx.toList = [] := (list_empty _).2 HTX.out.symm
       have t1 : tx.toList.isEmpty = true := by rw [t0]; rfl
       gi_wp2_with (rw [Oper.semAt_eq _ _ _ (fun c h => by cases h)]; go_simp; try go_bits)
       have hbs : Below w1.heap.size w1 (w4.setCell ⟨w1.heap.size + 1, 0, none⟩ (.string (T2 mo))) := HBW4.out.setCell (p := ⟨w1.heap.size + 1, 0, none⟩) (Nat.le_succ _) _
       exact ⟨((keepsOthers_below HB04.out).trans (KeepsOthers.setCell w4 _ _)).from _, ⟨(heap_setCell_other w4 ⟨w1.heap.size + 1, 0, none⟩ _ _ (by show w1.heap.size + 1 + 1 ≠ w1.heap.size + 1; omega)).trans (HB04.out.block _ (by omega)), by simp; omega⟩, ⟨HK2.out.other (by omega) _ _, by rw [HWS.out]; exact HB2.out.set0 _⟩, hbs, by simp; omega⟩
     | some v =>
       have hv := hwo v rfl
       have hcv2 : cv = cmpF mo v := by rw [<- HCV2.out, <- HTX.out]; exact (cmp_T hmo hv).2
       have t0 : ¬ tx.toList = [] := fun h => T2_ne hv (HTX.out.trans ((list_empty _).1 h))
       have t1 : tx.toList.isEmpty = false := by
        cases hh : tx.toList with
        | nil => exact absurd hh t0
        | cons _ _ => rfl
       have hws2 : wrsF L cs (pre ++ [x]) = if cv < 0 then some mo else some v := by rw [HWS.out, hcv2]
       clear HWS hcv2
       by_cases hp : cv < 0
       · rw [if_pos hp] at hws2
         have HWS := hG hws2
         clear hws2
         gi_wp2_with (rw [Oper.semAt_eq _ _ _ (fun c h => by cases h)]; go_simp; try go_bits)
         have hbs : Below w1.heap.size w1 (w4.setCell ⟨w1.heap.size + 1, 0, none⟩ (.string (T2 mo))) := HBW4.out.setCell (p := ⟨w1.heap.size + 1, 0, none⟩) (Nat.le_succ _) _
         exact ⟨((keepsOthers_below HB04.out).trans (KeepsOthers.setCell w4 _ _)).from _, ⟨(heap_setCell_other w4 ⟨w1.heap.size + 1, 0, none⟩ _ _ (by show w1.heap.size + 1 + 1 ≠ w1.heap.size + 1; omega)).trans (HB04.out.block _ (by omega)), by simp; omega⟩, ⟨HK2.out.other (by omega) _ _, by rw [HWS.out]; exact HB2.out.set0 _⟩, hbs, by simp; omega⟩
       · rw [if_neg hp] at hws2
         have HWS := hG hws2
         clear hws2
         gi_wp2_with (rw [Oper.semAt_eq _ _ _ (fun c h => by cases h)]; go_simp; try go_bits)
         exact ⟨(keepsOthers_below HB04.out).from _, ⟨HB04.out.block _ (by omega), hsz4⟩, ⟨HK2.out, by rw [HWS.out]; show Blk _ _ _ #[.string (worT (some v))]; rw [HTX.out]; exact HB2.out⟩, HBW4.out, by omega⟩
 case done =>
  rintro Dd ys' W hD rfl ⟨⟨h1, h2⟩, hB, hs⟩ hK
  obtain ⟨wo, hwo⟩ : ∃ wo, wrsF L cs (ptsAll L a c (d - c + 1).toNat (b - a + 1).toNat) = wo := ⟨_, rfl⟩
  have hok := wrsF_ok (L := L) (cs := cs) (fun c hc => by
   have h := HBK.out
   simp only [bankOK, Bool.and_eq_true, decide_eq_true_eq, List.all_eq_true] at h
   exact h.1.2 c hc) (ptsAll L a c (d - c + 1).toNat (b - a + 1).toNat)
  rw [hwo] at h2 hok
  have c1 := h2.c0
  have HWO := hG hwo
  have hbe := (HBW.out.trans (hB.mono (by omega))).trans (belowK_b (w := w) lc W Dd _ (.deferred none) (by omega) hK rfl rfl)
  have HBE := hG hbe
  clear h1 h2 hB hwo hbe
  cases wo with
  | none =>
    have hw0 : worT none = ⟨#[]⟩ := rfl
    have t0 : (⟨#[]⟩ : ByteArray).toList = [] := (list_empty _).2 rfl
    have t1 : (⟨#[]⟩ : ByteArray).toList.isEmpty = true := by rw [t0]; rfl
    rw [hw0] at c1
    gi_wp2
    refine ⟨by simp, .inl ⟨_, _, rfl, run_takeDeferred hK, ?_⟩⟩
    refine ⟨.tuple #[.string ⟨#[]⟩, .int .i64 4], ?_, by rw [HWO.out]; rfl, HBE.out⟩
    simp [results, Tryz.f27, go_sem]
  | some v =>
    have hv := hok v rfl
    have hw0 : worT (some v) = T2 v := rfl
    rw [hw0] at c1
    have t0 : ¬ (T2 v).toList = [] := fun h => T2_ne hv ((list_empty _).1 h)
    have t1 : (T2 v).toList.isEmpty = false := by
     cases hh : (T2 v).toList with
     | nil => exact absurd hh t0
     | cons _ _ => rfl
    have HV := hG hv
    generalize htx : T2 v = tx at *
    have HTX := hG htx
    clear htx hv hok hw0
    gi_wp2
    refine ⟨by simp, .inl ⟨_, _, rfl, run_takeDeferred hK, ?_⟩⟩
    refine ⟨.tuple #[.string tx, .int .i64 0], ?_, by rw [HWO.out, <- HTX.out]; rfl, HBE.out⟩
    simp [results, Tryz.f27, go_sem]
 case stop =>
  rintro Dd cc pre W hD hpre h _
  exact h.elim
end Go.Proofs.YtahnadhlagabgaaGreatDoor

namespace Go.Proofs.YtahnadhlagabgaaGreatDoor.Z4
def B : Nat := 10000
def val : List Nat -> Nat
 | [] => 0
 | d :: ds => d + B * val ds
def dig (n : Nat) : List Nat := if n = 0 then [] else n % B :: dig (n / B)
termination_by n
decreasing_by exact Nat.div_lt_self (Nat.pos_of_ne_zero ‹_›) (by decide)
theorem B_pos : 0 < B := by decide
theorem dig_zero : dig 0 = [] := by rw [dig]; simp
theorem dig_pos {n : Nat} (h : n ≠ 0) : dig n = n % B :: dig (n / B) := by rw [dig]; simp [h]
theorem val_dig (n : Nat) : val (dig n) = n := by
 induction n using Nat.strongRecOn with
 | _ n ih =>
   by_cases h : n = 0
   · subst h; simp [dig_zero, val]
   · rw [dig_pos h, val, ih _ (Nat.div_lt_self (Nat.pos_of_ne_zero h) (by decide))]
     exact Nat.mod_add_div n B
def Sm (xs : List Nat) : Prop := ∀ d ∈ xs, d < B
theorem sm_dig (n : Nat) : Sm (dig n) := by
 induction n using Nat.strongRecOn with
 | _ n ih =>
   by_cases h : n = 0
   · subst h; simp [dig_zero, Sm]
   · rw [dig_pos h]
     intro d hd
     rcases List.mem_cons.1 hd with rfl | hd
     · exact Nat.mod_lt _ B_pos
     · exact ih _ (Nat.div_lt_self (Nat.pos_of_ne_zero h) (by decide)) d hd
theorem val_nil : val [] = 0 := rfl
theorem val_cons (d : Nat) (ds : List Nat) : val (d :: ds) = d + B * val ds := rfl
theorem val_append (xs ys : List Nat) : val (xs ++ ys) = val xs + B ^ xs.length * val ys := by
 induction xs with
 | nil => simp [val]
 | cons d ds ih => simp only [List.cons_append, val_cons, ih, List.length_cons, Nat.pow_succ]; rw [Nat.mul_add, Nat.add_assoc, Nat.mul_comm (B ^ ds.length) B, Nat.mul_assoc]
theorem val_snoc (xs : List Nat) (d : Nat) : val (xs ++ [d]) = val xs + B ^ xs.length * d := by
 rw [val_append]; simp [val]
theorem val_lt {xs : List Nat} (h : Sm xs) : val xs < B ^ xs.length := by
 induction xs with
 | nil => simp [val]
 | cons d ds ih =>
   have h1 : d < B := h d (by simp)
   have h2 := ih (fun x hx => h x (by simp [hx]))
   simp only [val_cons, List.length_cons, Nat.pow_succ]
   have : B * (val ds + 1) <= B * B ^ ds.length := Nat.mul_le_mul_left _ h2
   rw [Nat.mul_add, Nat.mul_one] at this
   rw [Nat.mul_comm (B ^ ds.length) B]; omega
theorem val_eq_zero {xs : List Nat} : val xs = 0 ↔ ∀ d ∈ xs, d = 0 := by
 induction xs with
 | nil => simp [val]
 | cons d ds ih =>
   simp only [val_cons, List.mem_cons, forall_eq_or_imp, <- ih]
   constructor
   · intro h
     have h1 : d = 0 := by omega
     have h2 : B * val ds = 0 := by omega
     refine ⟨h1, ?_⟩
     rcases Nat.mul_eq_zero.1 h2 with h | h
     · exact absurd h (by decide)
     · exact h
   · rintro ⟨rfl, h⟩; simp [h]
theorem dig_val {xs : List Nat} (h : Sm xs) (hl : xs.getLast? ≠ some 0) : dig (val xs) = xs := by
 induction xs with
 | nil => simp [val, dig_zero]
 | cons d ds ih =>
   have h1 : d < B := h d (by simp)
   have hs : Sm ds := fun x hx => h x (by simp [hx])
   have hne : val (d :: ds) ≠ 0 := by
    intro h0
    have h0' := val_eq_zero.1 h0
    have : ((d :: ds).getLast (by simp)) = 0 := h0' _ (List.getLast_mem _)
    exact hl (by rw [List.getLast?_eq_some_getLast (by simp), this])
   rw [dig_pos hne, val_cons]
   have e1 : (d + B * val ds) % B = d := by rw [Nat.add_mul_mod_self_left, Nat.mod_eq_of_lt h1]
   have e2 : (d + B * val ds) / B = val ds := by rw [Nat.add_mul_div_left _ _ B_pos, Nat.div_eq_of_lt h1, Nat.zero_add]
   rw [e1, e2, ih hs]
   cases ds with
   | nil => simp
   | cons x xs => simpa [List.getLast?_cons_cons] using hl
theorem last_dig (n : Nat) : (dig n).getLast? ≠ some 0 := by
 induction n using Nat.strongRecOn with
 | _ n ih =>
   by_cases h : n = 0
   · subst h; simp [dig_zero]
   · rw [dig_pos h]
     have := ih (n / B) (Nat.div_lt_self (Nat.pos_of_ne_zero h) (by decide))
     by_cases h2 : n / B = 0
     · rw [h2, dig_zero]; simp
       have h3 : n < B := by
        rcases Nat.div_eq_zero_iff.1 h2 with h | h
        · exact absurd h (by decide)
        · exact h
       rw [Nat.mod_eq_of_lt h3]; exact h
     · rw [dig_pos h2] at this ⊢
       simpa [List.getLast?_cons_cons] using this
theorem dig_len_pos {n : Nat} : (dig n).length = 0 ↔ n = 0 := by
 by_cases h : n = 0
 · subst h; simp [dig_zero]
 · rw [dig_pos h]; simp [h]
theorem dig_small {n : Nat} (h : n < B) (h0 : n ≠ 0) : dig n = [n] := by
 rw [dig_pos h0, Nat.mod_eq_of_lt h, Nat.div_eq_of_lt h, dig_zero]
theorem lt_pow_len (n : Nat) : n < B ^ (dig n).length := by
 have := val_lt (sm_dig n); rwa [val_dig] at this
theorem pow_len_le {n : Nat} (h : n ≠ 0) : B ^ ((dig n).length - 1) <= n := by
 induction n using Nat.strongRecOn with
 | _ n ih =>
   rw [dig_pos h]
   by_cases h2 : n / B = 0
   · rw [h2, dig_zero]; simp; omega
   · have := ih _ (Nat.div_lt_self (Nat.pos_of_ne_zero h) (by decide)) h2
     have hl : (dig (n / B)).length ≠ 0 := by rw [Ne, dig_len_pos]; exact h2
     simp only [List.length_cons, Nat.add_sub_cancel]
     obtain ⟨k, hk⟩ : ∃ k, (dig (n / B)).length = k + 1 := ⟨(dig (n/B)).length - 1, by omega⟩
     rw [hk, Nat.add_sub_cancel] at this
     rw [hk, Nat.pow_succ]
     calc B ^ k * B <= n / B * B := Nat.mul_le_mul_right _ this
      _ <= n := Nat.div_mul_le_self n B
theorem lt_of_len {m n : Nat} (h : (dig m).length < (dig n).length) : m < n := by
 have hn : n ≠ 0 := by rintro rfl; simp [dig_zero] at h
 have h1 := lt_pow_len m
 have h2 := pow_len_le hn
 have h3 : B ^ (dig m).length <= B ^ ((dig n).length - 1) := Nat.pow_le_pow_right B_pos (by omega)
 omega
theorem dig_len_mono {m n : Nat} (h : m <= n) : (dig m).length <= (dig n).length := by
 apply Nat.le_of_not_lt
 intro hc
 have := lt_of_len hc
 omega
theorem val_split {l : List Nat} {j x : Nat} (hx : l[j]? = some x) : val l = val (l.take j) + B ^ j * (x + B * val (l.drop (j + 1))) := by
 have hj : j < l.length := (List.getElem?_eq_some_iff.1 hx).1
 have h1 : l = l.take j ++ (x :: l.drop (j + 1)) := by
  have := (List.take_append_drop j l).symm
  rw [List.drop_eq_getElem_cons hj, (List.getElem?_eq_some_iff.1 hx).2] at this
  exact this
 have h2 := congrArg val h1
 rw [val_append, val_cons, List.length_take, Nat.min_eq_left (by omega)] at h2
 exact h2
theorem cmp_digit {l1 l2 : List Nat} (h1 : Sm l1) {j x y : Nat} (hx : l1[j]? = some x) (hy : l2[j]? = some y) (hd : l1.drop (j + 1) = l2.drop (j + 1)) (hlt : x < y) : val l1 < val l2 := by
 rw [val_split hx, val_split hy, hd]
 have hj : j < l1.length := (List.getElem?_eq_some_iff.1 hx).1
 have h3 : val (l1.take j) < B ^ j := by
  have := val_lt (xs := l1.take j) (fun d hd => h1 d (List.mem_of_mem_take hd))
  rwa [List.length_take, Nat.min_eq_left (by omega)] at this
 have h4 : B ^ j * (x + 1 + B * val (l2.drop (j + 1))) <= B ^ j * (y + B * val (l2.drop (j + 1))) := Nat.mul_le_mul_left _ (by omega)
 have h5 : B ^ j * (x + 1 + B * val (l2.drop (j + 1))) = B ^ j * (x + B * val (l2.drop (j + 1))) + B ^ j := by
  rw [show x + 1 + B * val (l2.drop (j + 1)) = (x + B * val (l2.drop (j + 1))) + 1 from by omega, Nat.mul_add, Nat.mul_one]
 omega
def cmpN (m n : Nat) : Int := if m < n then -1 else if n < m then 1 else 0
theorem cmpN_lt {m n : Nat} (h : m < n) : cmpN m n = -1 := by simp [cmpN, h]
theorem cmpN_gt {m n : Nat} (h : n < m) : cmpN m n = 1 := by simp [cmpN, h]; omega
theorem cmpN_eq (n : Nat) : cmpN n n = 0 := by simp [cmpN]
theorem short_step {H d x : Nat} (hd : 0 < d) : ((H % d) * B + x) / d + B * (H / d) = (x + B * H) / d /\ ((H % d) * B + x) % d = (x + B * H) % d := by
 have h : x + B * H = ((H % d) * B + x) + d * (B * (H / d)) := by
  have h1 : d * (H / d) + H % d = H := Nat.div_add_mod H d
  have h2 : B * H = B * (d * (H / d)) + B * (H % d) := by rw [<- Nat.mul_add, h1]
  rw [h2, Nat.mul_comm (H % d) B, Nat.mul_left_comm d B]; omega
 rw [h, Nat.add_mul_div_left _ _ hd, Nat.add_mul_mod_self_left]
 exact ⟨rfl, rfl⟩
theorem short_dig {r d x : Nat} (hr : r < d) (hx : x < B) : (r * B + x) / d < B := by
 apply Nat.div_lt_of_lt_mul
 have : (r + 1) * B <= d * B := Nat.mul_le_mul_right _ hr
 rw [Nat.add_mul] at this; omega
theorem dig_len_val {l : List Nat} (h : Sm l) : (dig (val l)).length <= l.length := by
 have h1 := val_lt h
 apply Nat.le_of_not_lt
 intro hc
 have hne : val l ≠ 0 := by
  intro h0; rw [h0, dig_zero] at hc; simp at hc
 have h2 := pow_len_le hne
 have h3 : B ^ l.length <= B ^ ((dig (val l)).length - 1) := Nat.pow_le_pow_right B_pos (by omega)
 omega
end Go.Proofs.YtahnadhlagabgaaGreatDoor.Z4

namespace Go.Proofs.YtahnadhlagabgaaGreatDoor.Z4
open Go.RowKit
def zs (l : List Nat) : List Value := l.map fun d => Value.int .i64 (d : Nat)
theorem zs_length (l : List Nat) : (zs l).length = l.length := by simp [zs]
theorem zs_append (a b : List Nat) : zs (a ++ b) = zs a ++ zs b := by simp [zs]
theorem zs_ne {l : List Nat} (h : 0 < l.length) : zs l ≠ [] := by
 intro h2; have := congrArg List.length h2; rw [zs_length, List.length_nil] at this; omega
theorem zs_get {l : List Nat} {i d : Nat} (hd : l[i]? = some d) : (zs l)[i]? = some (.int .i64 (d : Nat)) := by simp [zs, hd]
theorem zcell {w : World} {b off : Nat} {l : List Nat} (h : Cells w (some ⟨b, off, none⟩) (zs l)) {i d : Nat} (hd : l[i]? = some d) : w.cell? ⟨b, off + i, none⟩ = some (.int .i64 (d : Nat)) :=
 h.at (zs_get hd)
theorem sm_get {l : List Nat} (h : Sm l) {i d : Nat} (hd : l[i]? = some d) : d <= 9999 := by
 have := h d (List.mem_of_getElem? hd); simp only [B] at this; omega
theorem val_take_zero {l : List Nat} {k : Nat} (h0 : l[k]? = some 0) : val (l.take (k + 1)) = val (l.take k) := by
 rw [take_get h0, val_snoc]; simp
theorem strip_any (ao : Option Addr) (l : List Nat) (c : Nat) (w : World) (hc : Cells w ao (zs l)) (hs : Sm l) (hl : l.length <= 9223372036854775807) (hcap : l.length <= c) (hc2 : c <= 9223372036854775807) :
 Calls Tryz.prog 188 #[.slice ao l.length c] w fun e w' => (e = .returned (.slice ao (dig (val l)).length c) /\ Cells w' ao (zs (dig (val l)))) /\ w = w' := by
 have HC := hG hc; clear hc
 have HS := hG hs; clear hs
 go_enter Tryz.func188, Tryz.ntmps188
 go_wp2
 go_loop [0] (fun v => ∃ k : Nat, k <= l.length /\ v = .slice ao k c /\ val (l.take k) = val l) (fun v => lenOf v)
 case atStart => exact ⟨l.length, Nat.le_refl _, rfl, by rw [List.take_length]⟩
 case round =>
  obtain ⟨k, hk, rfl, hv⟩ := hrel
  by_cases h0 : k = 0
  · subst h0
    rw [List.take_zero, val_nil] at hv
    have hv2 : dig (val l) = [] := by rw [<- hv, dig_zero]
    have HV := hG hv2; clear hv hv2
    go_wp2
    go_ret
    exact ⟨⟨by rw [HV.out]; rfl, by rw [HV.out]; exact Cells.nil _ _⟩, rfl⟩
  · obtain ⟨j, rfl⟩ : ∃ j, k = j + 1 := ⟨k - 1, by omega⟩
    have hj : j < l.length := by omega
    obtain ⟨d, hd⟩ := get_of_lt hj
    obtain ⟨b, off, rfl⟩ := HC.out.addr (zs_ne (by omega))
    have hcell := zcell HC.out hd
    by_cases hd0 : d = 0
    · subst hd0
      have hv2 := val_take_zero hd
      rw [hv] at hv2
      have HV := hG hv2.symm; clear hv hv2 hd
      go_wp2
      go_round
      case rel => exact ⟨j, by omega, by go_num, HV.out⟩
      case measure => simp [lenOf]
    · have hdp : 0 < d := by omega
      have hne : ((d : Int) == 0) = false := by simp; omega
      have hlast : (l.take (j + 1)).getLast? ≠ some 0 := by rw [take_get hd]; simp; omega
      have hsm : Sm (l.take (j + 1)) := fun x hx => HS.out x (List.mem_of_mem_take hx)
      have hv2 : dig (val l) = l.take (j + 1) := by rw [<- hv, dig_val hsm hlast]
      have hl2 : (dig (val l)).length = j + 1 := by rw [hv2, List.length_take]; omega
      have hcs : Cells w (some ⟨b, off, none⟩) (zs (dig (val l))) := by
       rw [hv2, zs, List.map_take]; exact HC.out.take _
      have HL := hG hl2; have HCS := hG hcs; clear hv hv2 hl2 hcs hd hsm hlast
      go_wp2
      go_ret
      exact ⟨⟨by rw [HL.out]; rfl, HCS.out⟩, rfl⟩
set_option maxRecDepth 100000 in
theorem made_any (s : Bool) (ao : Option Addr) (l : List Nat) (c : Nat) (w : World) (hc : Cells w ao (zs l)) (hs : Sm l) (hl : l.length <= 9223372036854775807) (hcap : l.length <= c) (hc2 : c <= 9223372036854775807) :
 Calls Tryz.prog 155 #[.bool s, .slice ao l.length c] w fun e w' => e = .returned (.agg #[.bool (s && decide (0 < (dig (val l)).length)), .slice ao (dig (val l)).length c]) /\ Below w.heap.size w w' := by
 have hst := fun W (h : Cells W ao (zs l)) => strip_any ao l c W h hs hl hcap hc2
 have HST := hG hst; have HC := hG hc
 clear hst hc hs
 have hb1 : (s && decide (0 < (dig (val l)).length)) = (s && decide ((0 : Int) < (dig (val l)).length)) := by
  congr 1; rw [Bool.eq_iff_iff, decide_eq_true_iff, decide_eq_true_iff]; omega
 have HB1 := hG hb1; clear hb1
 have hbw := (Below.refl w.heap.size w).alloc lc (.cells #[.bool false, .slice none 0 0] 127)
 have q0 : (w.alloc (.cells #[.bool false, .slice none 0 0] 127)).cell? ⟨w.heap.size, 0, none⟩ = some (.bool false) := by simp
 cases s
 · skip
   go_enter Tryz.func155, Tryz.ntmps155
   go_wp2_with fail
   refine (HST.out _ (HC.out.below hbw lc)).mono ?_
   rintro e w1 ⟨⟨rfl, hcl⟩, rfl⟩
   clear hcl
   go_wp2
   rw [HB1.out]
   refine bodyPost_ret (v := .agg #[.bool (false && decide ((0 : Int) < (dig (val l)).length)), .slice ao (dig (val l)).length c]) (by simp [results, Tryz.results155, go_sem]) rfl ?_
   exact ⟨rfl, (Below.refl w.heap.size w).alloc lc _⟩
 · skip
   go_enter Tryz.func155, Tryz.ntmps155
   go_wp2_with fail
   refine (HST.out _ (HC.out.below hbw lc)).mono ?_
   rintro e w1 ⟨⟨rfl, hcl⟩, rfl⟩
   clear hcl
   go_wp2
   rw [HB1.out]
   refine bodyPost_ret (v := .agg #[.bool (true && decide ((0 : Int) < (dig (val l)).length)), .slice ao (dig (val l)).length c]) (by simp [results, Tryz.results155, go_sem]) rfl ?_
   exact ⟨rfl, (Below.refl w.heap.size w).alloc lc _⟩
theorem dig_len_i64 {n : Nat} (h : n < 18446744073709551616) : (dig n).length <= 5 := by
 apply Nat.le_of_not_lt
 intro hc
 have hn : n ≠ 0 := by rintro rfl; simp [dig_zero] at hc
 have h1 := pow_len_le hn
 have h2 : B ^ 5 <= B ^ ((dig n).length - 1) := Nat.pow_le_pow_right B_pos (by omega)
 have h3 : B ^ 5 = 100000000000000000000 := by decide
 omega
def ZV (w : World) (v : Value) (n : Int) : Prop := ∃ a c, v = .agg #[.bool (decide (n < 0)), .slice a (dig n.natAbs).length c] /\ Cells w a (zs (dig n.natAbs)) /\ (dig n.natAbs).length <= c /\ c <= 9223372036854775807
theorem ZV.below {w w' : World} {B : Nat} {v : Value} {n : Int} (h : ZV w v n) (hb : Below B w w') (hB : w.heap.size <= B) : ZV w' v n := by
 obtain ⟨a, c, h1, h2, h3⟩ := h
 exact ⟨a, c, h1, h2.below hb hB, h3⟩
def sg (s : Bool) (k : Nat) : Int := if s then -(k : Int) else (k : Int)
theorem zbox {w : World} {ao : Option Addr} {l : List Nat} {b : Nat} {x0 : Bool} {a1 : Option Addr} {n1 c1 : Nat} {u0 u1 : Value} (h : Cells w ao (zs l)) (q0 : w.cell? ⟨b, 0, none⟩ = some (.bool x0)) (q1 : w.cell? ⟨b, 1, none⟩ = some (.slice a1 n1 c1)) : Cells ((w.setCell ⟨b, 0, none⟩ u0).setCell ⟨b, 1, none⟩ u1) ao (zs l) := by
 refine (h.set q0 ?_).set (v0 := .slice a1 n1 c1) ?_ ?_
 · intro x hx e; simp only [zs, List.mem_map] at hx; obtain ⟨d, _, rfl⟩ := hx; cases e
 · rw [World.cell?_setCell_other _ _ _ _ (by simp)]; exact q1
 · intro x hx e; simp only [zs, List.mem_map] at hx; obtain ⟨d, _, rfl⟩ := hx; cases e
theorem sg_in (s : Bool) (k : Nat) (h : k <= 9223372036854775807) : wrap64 (sg s k) = sg s k := by
 unfold sg
 cases s
 · simp only [wrap64]; simp; omega
 · simp only [wrap64]; simp; omega
theorem sg_abs (s : Bool) (k : Nat) : (intOf (.int .i64 (sg s k))).natAbs = k := by
 unfold sg intOf; cases s <;> simp
theorem sg_rem (s : Bool) (k : Nat) : (sg s k).tmod 10000 = sg s (k % B) := by
 unfold sg
 have h : (k : Int).tmod 10000 = ((k % B : Nat) : Int) := by rw [Int.tmod_eq_emod_of_nonneg (by omega)]; simp [B]
 cases s
 · simpa using h
 · simp only [if_true]
   rw [Int.neg_tmod, h]
theorem sg_div (s : Bool) (k : Nat) : (sg s k).tdiv 10000 = sg s (k / B) := by
 unfold sg
 have h : (k : Int).tdiv 10000 = ((k / B : Nat) : Int) := by rw [Int.tdiv_eq_ediv_of_nonneg (by omega)]; simp [B]
 cases s
 · simpa using h
 · simp only [if_true]
   rw [Int.neg_tdiv, h]
set_option maxRecDepth 100000 in
theorem zOf_any (n : Int) (w : World) (h1 : -9223372036854775808 <= n) (h2 : n <= 9223372036854775807) :
 Calls Tryz.prog 118 #[.int .i64 n] w fun e w' => (∃ v, e = .returned v /\ ZV w' v n) /\ Below w.heap.size w w' := by
 obtain ⟨i0, hi, hz0, hz1, hz2⟩ := info_parts Tryz.infoInt
 have hlen := dig_len_i64 (n := n.natAbs) (by omega)
 obtain ⟨s, hs⟩ : ∃ s, s = decide (n < 0) := ⟨_, rfl⟩
 obtain ⟨N, hN⟩ : ∃ N, N = n.natAbs := ⟨_, rfl⟩
 have hn : n = sg s N := by
  unfold sg
  by_cases h : n < 0
  · rw [hs, decide_eq_true h, if_pos rfl]; omega
  · rw [hs, decide_eq_false h]; simp; omega
 have hsg : (s && decide (0 < (dig N).length)) = s := by
  cases hsv : s with
  | false => rfl
  | true =>
    rw [hsv] at hs
    have : N ≠ 0 := by have := of_decide_eq_true hs.symm; omega
    have := mt dig_len_pos.1 this
    simp; omega
 have HZV : ∀ W a c, Cells W a (zs (dig N)) -> (dig N).length <= c -> c <= 9223372036854775807 -> ZV W (.agg #[.bool s, .slice a (dig N).length c]) n := fun W a c q1 q2 q3 => ⟨a, c, by rw [<- hs, <- hN], by rw [<- hN]; exact q1, by rw [<- hN]; exact q2, q3⟩
 have HZ := hG HZV; have HS := hG hs
 rw [<- hN] at hlen
 have hNb : N <= 9223372036854775808 := by omega
 clear HZV hN h1 h2
 subst hn
 clear hs
 have hneg : decide (sg s N < 0) = s := HS.out.symm
 have hbw0 := (Below.refl w.heap.size w).alloc lc (.cells #[.bool false, .slice none 0 0] 127)
 have HBW0 := hG hbw0; clear hbw0
 have HSG := hG hsg; clear hsg
 go_enter Tryz.func118, Tryz.ntmps118
 go_wp2
 go_loopw [0, 4] (fun m v wr => ∃ (ds : List Nat) (k : Nat), m = .int .i64 (sg s k) /\ k <= N /\ dig N = ds ++ dig k /\ wr.ownsRow (w.heap.size + 1) 3 1 v ds.length (zs ds) /\ Below (w.heap.size + 1) (w.alloc (.cells #[.bool false, .slice none 0 0] 127)) wr) (fun m _ _ => (intOf m).natAbs)
 case atStart => exact ⟨[], N, rfl, Nat.le_refl _, rfl, World.ownsRow_nil _ _ _ _, Below.refl _ _⟩
 case round =>
  obtain ⟨ds, k, rfl, hk, hds, hown, hb⟩ := hrel
  have hsz := hb.size
  simp only [World.size_alloc] at hsz
  by_cases h0 : k = 0
  · subst h0
    rw [dig_zero, List.append_nil] at hds
    have hs0 : sg s 0 = 0 := by unfold sg; cases s <;> rfl
    rw [hs0]
    obtain ⟨g, c, rfl, hcs, hc1, hc2⟩ := own_cap hown
    unfold maxLen at hc2
    have hsm : Sm ds := by rw [<- hds]; exact sm_dig _
    have hvd : val ds = N := by rw [<- hds, val_dig]
    have hmd := made_any s g ds c wr hcs hsm (by rw [<- hds]; omega) hc1 hc2
    have hz := HZ.out
    rw [hvd, HSG.out] at hmd
    rw [<- hvd] at hds
    have hvn := hvd
    have HMD := hG hmd; have HZ2 := hG hz; have HCS := hG hcs; have HDS := hG hds
    clear hmd hz hcs hown hds hsm hvd
    go_wp2_with fail
    refine HMD.out.mono ?_
    rintro e w1 ⟨rfl, hb1⟩
    have hbx := hb.trans (hb1.mono hsz)
    have hbw := HBW0.out.trans (hbx.mono (by omega))
    have q0 : w1.cell? ⟨w.heap.size, 0, none⟩ = some (.bool false) := box_keep hbx (by omega) 0
    have q1 : w1.cell? ⟨w.heap.size, 1, none⟩ = some (.slice none 0 0) := box_keep hbx (by omega) 1
    have f0 := box_free hbx (by omega) 0
    have f1 := box_free hbx (by omega) 1
    have hcs1 := HCS.out.below hb1 lc
    have hdn : dig N = ds := by rw [<- hvn]; exact HDS.out
    have hld : (dig N).length = ds.length := by rw [hdn]
    rw [<- hdn] at hcs1
    have HC1 := hG hcs1
    clear hcs1 hdn
    go_wp2
    refine bodyPost_ret (v := .agg #[.bool s, .slice g (dig N).length c]) (by simp [results, Tryz.results118, go_sem, q0, q1, hld]) rfl ?_
    exact ⟨⟨_, rfl, HZ2.out _ _ _ (zbox HC1.out q0 q1) (by omega) hc2⟩, (hbw.setCell lc _).setCell lc _⟩
  · have hds2 : dig N = (ds ++ [k % B]) ++ dig (k / B) := by rw [hds, dig_pos h0]; simp
    have hle : ds.length <= 4 := by
     have := congrArg List.length hds2
     simp only [List.length_append, List.length_singleton] at this; omega
    have HDS := hG hds2; clear hds hds2 hlen
    have hlt : k / B < k := Nat.div_lt_self (by omega) (by decide)
    have hq9 : k % B <= 9999 := by have hqB : k % B < B := Nat.mod_lt _ B_pos; have hB : B = 10000 := rfl; omega
    have e0 : (sg s k != 0) = true := by rw [bne_iff_ne]; unfold sg; cases s <;> simp <;> omega
    have e2 : (sg s k).tdiv 10000 = sg s (k / B) := sg_div s k
    have e1 : (sg s k).tmod 10000 = sg s (k % B) := sg_rem s k
    generalize k % B = q at *
    generalize k / B = kd at *
    have e5 : wrap64 (sg s kd) = sg s kd := sg_in s kd (by omega)
    have HOB : Hid (∀ j, u4.ownBlock = some j -> w.heap.size + 1 <= j) := fun j e => (hown.lt j e).1
    have hA : sg s (q) = ((q : Nat) : Int) ∨ (sg s (q) = -((q : Nat) : Int) /\ 0 < q) := by
     unfold sg
     cases s
     · exact .inl rfl
     · rcases Nat.eq_zero_or_pos (q) with h | h
       · rw [h]; exact .inl rfl
       · exact .inr ⟨rfl, h⟩
    rcases hA with hA | ⟨hA, hqp⟩
    · rw [hA] at e1
      have e3 : ¬ ((q : Nat) : Int) < 0 := by omega
      go_wp2_with (at_builtin; refine wpList_append_own _ rfl _ _ 43 rfl (w.heap.size + 1) 3 i0 (.int .i64 0) 1 8 Tryz.underlying43 hi hz0 hz1 hz2 rfl (by decide) _ _ _ rfl (hown.alloc _) ⟨wr.heap.size, 0, none⟩ 1 1 [.int .i64 (q : Nat)] rfl rfl (news1 _ _ _) (by simp [Value.oneCell']) (by unfold maxLen; omega) (by omega) (by simp; omega) ?_; intro v1 wz hown1 hgrow _)
      have hfin := hown1
      rw [show zs ds ++ [.int .i64 (q : Nat)] = zs (ds ++ [q]) from by rw [zs_append]; rfl] at hfin
      have hbz := (hb.alloc hsz (.cells #[.int .i64 (q : Nat)] 3)).grown hgrow (by simp; omega) HOB.out
      clear hown1 hgrow hown
      have HFIN := hG hfin; clear hfin
      go_wp2
      go_roundw
      case rel => exact ⟨ds ++ [q], kd, by rw [e5], by omega, HDS.out, by simpa using HFIN.out, hbz⟩
      case measure => rw [e5, sg_abs, sg_abs]; omega
    · rw [hA] at e1
      have e3 : -((q : Nat) : Int) < 0 := by omega
      have e4 : IntKind.i64.wrap ((q : Nat) : Int) = ((q : Nat) : Int) := IntWalk.i64_in _ (by omega)
      go_wp2_with (at_builtin; refine wpList_append_own _ rfl _ _ 43 rfl (w.heap.size + 1) 3 i0 (.int .i64 0) 1 8 Tryz.underlying43 hi hz0 hz1 hz2 rfl (by decide) _ _ _ rfl (hown.alloc _) ⟨wr.heap.size, 0, none⟩ 1 1 [.int .i64 (q : Nat)] rfl rfl (news1 _ _ _) (by simp [Value.oneCell']) (by unfold maxLen; omega) (by omega) (by simp; omega) ?_; intro v1 wz hown1 hgrow _)
      have hfin := hown1
      rw [show zs ds ++ [.int .i64 (q : Nat)] = zs (ds ++ [q]) from by rw [zs_append]; rfl] at hfin
      have hbz := (hb.alloc hsz (.cells #[.int .i64 (q : Nat)] 3)).grown hgrow (by simp; omega) HOB.out
      clear hown1 hgrow hown
      have HFIN := hG hfin; clear hfin
      go_wp2
      go_roundw
      case rel => exact ⟨ds ++ [q], kd, by rw [e5], by omega, HDS.out, by simpa using HFIN.out, hbz⟩
      case measure => rw [e5, sg_abs, sg_abs]; omega
theorem drop_of_len {l1 l2 : List Nat} (h : l1.length = l2.length) : l1.drop l1.length = l2.drop l1.length := by
 rw [List.drop_length, h, List.drop_length]
set_option maxRecDepth 100000 in
theorem compare_any (aa ab : Option Addr) (m n : Nat) (ca cb : Nat) (w : World) (ha : Cells w aa (zs (dig m))) (hb : Cells w ab (zs (dig n))) (hm : (dig m).length <= 4611686018427387904) (hn : (dig n).length <= 4611686018427387904) :
 Calls Tryz.prog 192 #[.slice aa (dig m).length ca, .slice ab (dig n).length cb] w fun e w' => e = .returned (.int .i64 (cmpN m n)) /\ Below w.heap.size w w' := by
 have HA := hG ha; clear ha
 have HB := hG hb; clear hb
 by_cases hlen : (dig m).length = (dig n).length
 · have h1 : (((dig m).length : Int) != (dig n).length) = false := by simp [hlen]
   have HL := hG hlen; clear hlen
   go_enter Tryz.func192, Tryz.ntmps192
   go_wp2
   go_loopw [5] (fun i wr => ∃ k : Nat, k <= (dig m).length /\ i = .int .i64 ((k : Int) - 1) /\ (dig m).drop k = (dig n).drop k /\ Below w.heap.size w wr) (fun i _ => (intOf i + 1).toNat)
   case atStart => exact ⟨(dig m).length, Nat.le_refl _, rfl, drop_of_len HL.out, Below.refl _ _⟩
   case round =>
    obtain ⟨k, hk, rfl, hd, hbe⟩ := hrel
    have HD := hG hd; clear hd
    by_cases h0 : k = 0
    · subst h0
      have he : cmpN m n = 0 := by
       have := HD.out
       simp only [List.drop_zero] at this
       have h2 := congrArg val this
       rw [val_dig, val_dig] at h2
       rw [h2, cmpN_eq]
      have HE := hG he; clear he
      go_wp2
      go_ret
      exact ⟨ret_int HE.out.symm, hbe⟩
    · obtain ⟨j, rfl⟩ : ∃ j, k = j + 1 := ⟨k - 1, by omega⟩
      have hj2 : j < (dig n).length := by have := HL.out; omega
      obtain ⟨x, hx⟩ := get_of_lt (show j < (dig m).length by omega)
      obtain ⟨y, hy⟩ := get_of_lt hj2
      obtain ⟨b, off, rfl⟩ := HA.out.addr (zs_ne (by omega))
      obtain ⟨b2, off2, rfl⟩ := HB.out.addr (zs_ne (by omega))
      have c1 := cell_keep (zcell HA.out hx) hbe lc
      have c2 := cell_keep (zcell HB.out hy) hbe lc
      have e1 : (((j + 1 : Nat) : Int) - 1) = (j : Int) := by omega
      rw [e1]
      have i1 : (j : Int) < (dig m).length := by omega
      have i2 : (j : Int) < (dig n).length := by omega
      have i3 : (0 : Int) <= j := by omega
      have HX := hG (sm_get (sm_dig m) hx)
      have HY := hG (sm_get (sm_dig n) hy)
      have hxy : x < y ∨ y < x ∨ x = y := by omega
      rcases hxy with hlt | hgt | heq
      · have he : cmpN m n = -1 := cmpN_lt (by have := cmp_digit (sm_dig m) hx hy HD.out hlt; rwa [val_dig, val_dig] at this)
        have HE := hG he; clear he hx hy e1
        have hne : ((x : Int) != y) = true := by simp; omega
        have hxb : x <= 9999 := HX.out
        have hyb : y <= 9999 := HY.out
        have hw : IntKind.i64.wrap ((x : Int) - y) = (x : Int) - y := IntWalk.i64_in _ (by omega)
        have hm : max (-1) (min 1 ((x : Int) - y)) = -1 := by omega
        go_wp2
        go_quiet (fail)
        go_wp2
        go_quiet (fail)
        go_wp2
        go_ret
        exact ⟨ret_int HE.out.symm, bel_drewN (bel_drewN hbe _) _⟩
      · have he : cmpN m n = 1 := cmpN_gt (by have := cmp_digit (sm_dig n) hy hx HD.out.symm hgt; rwa [val_dig, val_dig] at this)
        have HE := hG he; clear he hx hy e1
        have hne : ((x : Int) != y) = true := by simp; omega
        have hxb : x <= 9999 := HX.out
        have hyb : y <= 9999 := HY.out
        have hw : IntKind.i64.wrap ((x : Int) - y) = (x : Int) - y := IntWalk.i64_in _ (by omega)
        have hm : max (-1) (min 1 ((x : Int) - y)) = 1 := by omega
        go_wp2
        go_quiet (fail)
        go_wp2
        go_quiet (fail)
        go_wp2
        go_ret
        exact ⟨ret_int HE.out.symm, bel_drewN (bel_drewN hbe _) _⟩
      · subst heq
        have he : (dig m).drop j = (dig n).drop j := by
         rw [List.drop_eq_getElem_cons (show j < (dig m).length by omega), List.drop_eq_getElem_cons hj2, HD.out, (List.getElem?_eq_some_iff.1 hx).2, (List.getElem?_eq_some_iff.1 hy).2]
        have HE := hG he; clear he hx hy e1
        have hne : ((x : Int) != x) = false := by simp
        go_wp2
        go_quiet (fail)
        go_wp2
        go_roundw
        case rel => exact ⟨j, by omega, by go_num, HE.out, bel_drewN hbe _⟩
        case measure => simp [intOf]
 · rcases Nat.lt_or_gt_of_ne hlen with hlt | hgt
   · have he : cmpN m n = -1 := cmpN_lt (lt_of_len hlt)
     have HE := hG he; clear he
     have h1 : (((dig m).length : Int) != (dig n).length) = true := by simp; omega
     have hw : IntKind.i64.wrap (((dig m).length : Int) - (dig n).length) = ((dig m).length : Int) - (dig n).length := IntWalk.i64_in _ (by omega)
     have hmx : max (-1) (min 1 (((dig m).length : Int) - (dig n).length)) = -1 := by omega
     go_enter Tryz.func192, Tryz.ntmps192
     go_wp2
     go_ret
     exact ⟨ret_int HE.out.symm, Below.refl _ _⟩
   · have he : cmpN m n = 1 := cmpN_gt (lt_of_len hgt)
     have HE := hG he; clear he
     have h1 : (((dig m).length : Int) != (dig n).length) = true := by simp; omega
     have hw : IntKind.i64.wrap (((dig m).length : Int) - (dig n).length) = ((dig m).length : Int) - (dig n).length := IntWalk.i64_in _ (by omega)
     have hmx : max (-1) (min 1 (((dig m).length : Int) - (dig n).length)) = 1 := by omega
     go_enter Tryz.func192, Tryz.ntmps192
     go_wp2
     go_ret
     exact ⟨ret_int HE.out.symm, Below.refl _ _⟩
def MV (w : World) (v : Value) (n : Nat) : Prop := ∃ a c, v = .slice a (dig n).length c /\ Cells w a (zs (dig n)) /\ (dig n).length <= c /\ c <= 9223372036854775807
theorem MV.below {w w' : World} {B : Nat} {v : Value} {n : Nat} (h : MV w v n) (hb : Below B w w') (hB : w.heap.size <= B) : MV w' v n := by
 obtain ⟨a, c, h1, h2, h3⟩ := h
 exact ⟨a, c, h1, h2.below hb hB, h3⟩
def RV (w : World) (v : Value) (n : Nat) : Prop := (∃ ad c, v = .slice (some ad) (dig n).length c /\ Cells w (some ad) (zs (dig n)) /\ (dig n).length <= c /\ c <= 9223372036854775807) ∨ (v = .slice none 0 0 /\ n = 0)
theorem RV.mv {w : World} {v : Value} {n : Nat} (h : RV w v n) : MV w v n := by
 rcases h with ⟨ad, c, h1, h2, h3, h4⟩ | ⟨h1, h2⟩
 · exact ⟨some ad, c, h1, h2, h3, h4⟩
 · subst h2; exact ⟨none, 0, by rw [dig_zero]; exact h1, by rw [dig_zero]; exact Cells.nil _ _, by rw [dig_zero]; exact Nat.le_refl _, by omega⟩
theorem RV.below {w w' : World} {B : Nat} {v : Value} {n : Nat} (h : RV w v n) (hb : Below B w w') (hB : w.heap.size <= B) : RV w' v n := by
 rcases h with ⟨ad, c, h1, h2, h3⟩ | h
 · exact .inl ⟨ad, c, h1, h2.below hb hB, h3⟩
 · exact .inr h
theorem RV.src {w : World} {v : Value} {n : Nat} (h : RV w v n) : (∃ ad c, v = .slice (some ad) (dig n).length c /\ ∀ j u, (zs (dig n))[j]? = some u -> w.cell? (ad.add j) = some u) ∨ (v = .slice none 0 0 /\ (dig n).length = 0 /\ zs (dig n) = []) := by
 rcases h with ⟨ad, c, h1, h2, h3⟩ | ⟨h1, h2⟩
 · refine .inl ⟨ad, c, h1, fun j u hu => ?_⟩
   rcases h2 with h2 | ⟨b, off, h4, h5⟩
   · rw [h2] at hu; simp at hu
   · cases h4; have h6 := h5 j u hu; rw [show (⟨b, off, none⟩ : Addr).add j = ⟨b, off + j, none⟩ from by cases j <;> simp [Addr.add]]; exact h6
 · subst h2; exact .inr ⟨h1, by rw [dig_zero]; rfl, by rw [dig_zero]; rfl⟩
theorem own_cap2 {w : World} {b : Nat} {e : TypeId} {s : Nat} {v : Value} {n : Nat} {xs : List Value} (h : w.ownsRow b e s v n xs) : ∃ a c, v = .slice a n c /\ Cells w a xs /\ n <= c /\ c <= maxLen /\ (a = none -> c = 0 /\ n = 0) := by
 have h2 := h
 obtain ⟨a, c, h3, h4, h5, h6⟩ := own_cap h
 obtain ⟨_, h1⟩ := h2
 rcases h1 with ⟨hv, hn⟩ | ⟨g, cap, cur, hv, _⟩
 · refine ⟨none, 0, by rw [hv, hn], ?_, by omega, by omega, fun _ => ⟨rfl, hn⟩⟩
   rw [h3] at hv
   simp only [Value.slice.injEq] at hv
   rw [<- hv.1]; exact h4
 · refine ⟨a, c, h3, h4, h5, h6, fun ha => ?_⟩
   rw [h3, ha] at hv
   simp at hv
theorem rv_of {w : World} {g : Option Addr} {n c : Nat} (h : Cells w g (zs (dig n))) (h1 : (dig n).length <= c) (h2 : c <= 9223372036854775807) (hg : g = none -> c = 0 /\ n = 0) : RV w (.slice g (dig n).length c) n := by
 cases g with
 | none =>
   obtain ⟨h3, h4⟩ := hg rfl
   subst h3; subst h4
   exact .inr ⟨by rw [dig_zero]; rfl, rfl⟩
 | some ad => exact .inl ⟨ad, c, rfl, h, h1, h2⟩
theorem val_take_succ (l : List Nat) (i : Nat) : val (l.take (i + 1)) = val (l.take i) + B ^ i * l.getD i 0 := by
 rcases Nat.lt_or_ge i l.length with h | h
 · obtain ⟨x, hx⟩ := get_of_lt h
   rw [take_get hx, val_snoc, List.length_take, Nat.min_eq_left (by omega)]
   simp [List.getD, hx]
 · rw [List.take_of_length_le (by omega), List.take_of_length_le h]
   simp [List.getD, List.getElem?_eq_none h]
theorem less_step {la lb os : List Nat} {i x y o b b' : Nat} (hx : la[i]? = some x) (hy : lb.getD i 0 = y) (hl : os.length = i) (h : val (la.take i) + B ^ i * b = val os + val (lb.take i)) (he : x + B * b' = o + y + b) :
 val (la.take (i + 1)) + B ^ (i + 1) * b' = val (os ++ [o]) + val (lb.take (i + 1)) := by
 rw [val_take_succ, val_take_succ, hy, val_snoc, hl]
 have h1 : la.getD i 0 = x := by simp [List.getD, hx]
 rw [h1, Nat.pow_succ, Nat.mul_assoc]
 have h2 : B ^ i * x + B ^ i * (B * b') = B ^ i * o + B ^ i * y + B ^ i * b := by rw [<- Nat.mul_add, he, Nat.mul_add, Nat.mul_add]
 omega
theorem less_end {m n b : Nat} {os : List Nat} (hs : Sm os) (hl : os.length = (dig m).length) (hle : n <= m) (h : val ((dig m).take (dig m).length) + B ^ (dig m).length * b = val os + val ((dig n).take (dig m).length)) : val os = m - n := by
 rw [List.take_length, val_dig, List.take_of_length_le (dig_len_mono hle), val_dig] at h
 have h1 := val_lt hs
 rw [hl] at h1
 rcases Nat.eq_zero_or_pos b with h0 | h0
 · subst h0; omega
 · have h2 : B ^ (dig m).length * 1 <= B ^ (dig m).length * b := Nat.mul_le_mul_left _ h0
   omega
theorem sm_snoc {l : List Nat} {d : Nat} (h : Sm l) (hd : d < B) : Sm (l ++ [d]) := by
 intro x hx
 rcases List.mem_append.1 hx with h1 | h1
 · exact h x h1
 · rw [List.mem_singleton.1 h1]; exact hd
set_option maxRecDepth 100000 in
set_option maxHeartbeats 2000000 in
theorem less_any (va vb : Value) (m n : Nat) (w : World) (ha : MV w va m) (hbv : MV w vb n) (hle : n <= m) (hl : (dig m).length <= 1099511627776) :
 Calls Tryz.prog 193 #[va, vb] w fun e w' => (∃ v, e = .returned v /\ RV w' v (m - n)) /\ Below w.heap.size w w' := by
 obtain ⟨i0, hi, hz0, hz1, hz2⟩ := info_parts Tryz.infoInt
 obtain ⟨aa, ca, rfl, ha, hac, hac2⟩ := ha
 obtain ⟨ab, cb, rfl, hb0, hbc, hbc2⟩ := hbv
 have hll := dig_len_mono hle
 have HA := hG ha; have HB := hG hb0
 clear ha hb0
 go_enter Tryz.func193, Tryz.ntmps193
 go_wp2
 go_loopw [5, 6, 7] (fun ov bv iv wr => ∃ (i : Nat) (os : List Nat) (b : Nat), i <= (dig m).length /\ iv = .int .i64 i /\ bv = .int .i64 b /\ b <= 1 /\ Sm os /\ val ((dig m).take i) + B ^ i * b = val os + val ((dig n).take i) /\ os.length = i /\ wr.ownsRow w.heap.size 3 1 ov i (zs os) /\ Below w.heap.size w wr) (fun _ _ iv _ => (dig m).length - (intOf iv).toNat)
 case atStart => exact ⟨0, [], 0, Nat.zero_le _, rfl, rfl, by omega, fun d hd => by simp at hd, by simp [val], rfl, World.ownsRow_nil _ _ _ _, Below.refl _ _⟩
 case round =>
  obtain ⟨i, os, b, hi9, rfl, rfl, hb1, hsm, heq, hol, hown, hb⟩ := hrel
  have hsz := hb.size
  by_cases hii : i = (dig m).length
  · subst hii
    have hve := less_end hsm hol hle heq
    obtain ⟨g, c, rfl, hcs, hc1, hc2, hgn⟩ := own_cap2 hown
    have hgn2 : g = none -> c = 0 /\ m - n = 0 := fun h => ⟨(hgn h).1, by have := dig_len_pos.1 (hgn h).2; omega⟩
    have HGN := hG hgn2
    clear hgn hgn2
    unfold maxLen at hc2
    rw [<- hol] at hc1
    have hst := strip_any g os c wr hcs hsm (by rw [hol]; omega) hc1 (by omega)
    rw [hve, hol] at hst
    have hdl := dig_len_mono (show m - n <= m by omega)
    have HST := hG hst; clear hst hcs hown hve heq hsm
    go_wp2_with fail
    refine HST.out.mono ?_
    rintro e w1 ⟨⟨rfl, hcl⟩, rfl⟩
    have HCL := hG hcl; clear hcl
    go_wp2
    go_ret
    exact ⟨⟨_, rfl, rv_of HCL.out (by omega) (by omega) HGN.out⟩, hb⟩
  · have hilt : i < (dig m).length := by omega
    obtain ⟨x, hx⟩ := get_of_lt hilt
    obtain ⟨ba, offa, rfl⟩ := HA.out.addr (zs_ne (by omega))
    have cx := cell_keep (zcell HA.out hx) hb lc
    have hxb := sm_get (sm_dig m) hx
    have j0 : (i : Int) < (dig m).length := by omega
    have e1 : IntKind.i64.wrap ((x : Int) - b) = (x : Int) - b := IntWalk.i64_in _ (by omega)
    have HOB : Hid (∀ j, u5.ownBlock = some j -> w.heap.size <= j) := fun j e => (hown.lt j e).1
    have ein : IntKind.i64.wrap ((i : Int) + 1) = (i : Int) + 1 := IntWalk.i64_in _ (by omega)
    have HHX := hG hx; have HHEQ := hG heq; have HHSM := hG hsm; have HHOL := hG hol
    clear hx heq hsm hol
    have hB : B = 10000 := rfl
    by_cases hib : i < (dig n).length
    · obtain ⟨y, hy⟩ := get_of_lt hib
      obtain ⟨bb, offb, rfl⟩ := HB.out.addr (zs_ne (by omega))
      have cy := cell_keep (zcell HB.out hy) hb lc
      have hyb := sm_get (sm_dig n) hy
      have hyd : (dig n).getD i 0 = y := by simp [List.getD, hy]
      have j1 : (i : Int) < (dig n).length := by omega
      by_cases hneg : x < b + y
      · obtain ⟨p, hp⟩ : ∃ p, p = b + y - x := ⟨_, rfl⟩
        obtain ⟨o, ho⟩ : ∃ o, o = x + B - b - y := ⟨_, rfl⟩
        have e2 : IntKind.i64.wrap ((x : Int) - b - y) = -(p : Int) := by rw [show (x : Int) - b - y = -(p : Int) from by omega]; exact IntWalk.i64_in _ (by omega)
        have e3 : -(p : Int) < 0 := by omega
        have e4 : IntKind.i64.wrap (-(p : Int) + 10000) = (o : Int) := by rw [show -(p : Int) + 10000 = (o : Int) from by omega]; exact IntWalk.i64_in _ (by omega)
        have HEQ := hG (less_step (o := o) (b' := 1) HHX.out hyd HHOL.out HHEQ.out (by omega))
        have HSM := hG (sm_snoc (d := o) HHSM.out (by omega))
        have HOSL := HHOL
        clear hy hyd ho hp hB
        go_wp2_with (at_builtin; refine wpList_append_own _ rfl _ _ 43 rfl w.heap.size 3 i0 (.int .i64 0) 1 8 Tryz.underlying43 hi hz0 hz1 hz2 rfl (by decide) _ _ _ rfl (hown.alloc _) ⟨wr.heap.size, 0, none⟩ 1 1 [.int .i64 (o : Nat)] rfl rfl (news1 _ _ _) (by simp [Value.oneCell']) (by unfold maxLen; omega) (by omega) (by simp; omega) ?_; intro v1 wz hown1 hgrow _)
        have hfin := hown1
        rw [show zs os ++ [.int .i64 (o : Nat)] = zs (os ++ [o]) from by rw [zs_append]; rfl] at hfin
        have hbz := (hb.alloc hsz (.cells #[.int .i64 (o : Nat)] 3)).grown hgrow (by simp; omega) HOB.out
        clear hown1 hgrow hown
        have HFIN := hG hfin; clear hfin
        go_wp2
        go_roundw
        case rel => exact ⟨i + 1, os ++ [o], 1, by omega, rfl, rfl, by omega, HSM.out, HEQ.out, by simpa using HOSL.out, by simpa using HFIN.out, hbz⟩
        case measure => simp [intOf]; omega
      · obtain ⟨o, ho⟩ : ∃ o, o = x - b - y := ⟨_, rfl⟩
        have e2 : IntKind.i64.wrap ((x : Int) - b - y) = (o : Int) := by rw [show (x : Int) - b - y = (o : Int) from by omega]; exact IntWalk.i64_in _ (by omega)
        have e3 : ¬ (o : Int) < 0 := by omega
        have HEQ := hG (less_step (o := o) (b' := 0) HHX.out hyd HHOL.out HHEQ.out (by omega))
        have HSM := hG (sm_snoc (d := o) HHSM.out (by omega))
        have HOSL := HHOL
        clear hy hyd ho hB
        go_wp2_with (at_builtin; refine wpList_append_own _ rfl _ _ 43 rfl w.heap.size 3 i0 (.int .i64 0) 1 8 Tryz.underlying43 hi hz0 hz1 hz2 rfl (by decide) _ _ _ rfl (hown.alloc _) ⟨wr.heap.size, 0, none⟩ 1 1 [.int .i64 (o : Nat)] rfl rfl (news1 _ _ _) (by simp [Value.oneCell']) (by unfold maxLen; omega) (by omega) (by simp; omega) ?_; intro v1 wz hown1 hgrow _)
        have hfin := hown1
        rw [show zs os ++ [.int .i64 (o : Nat)] = zs (os ++ [o]) from by rw [zs_append]; rfl] at hfin
        have hbz := (hb.alloc hsz (.cells #[.int .i64 (o : Nat)] 3)).grown hgrow (by simp; omega) HOB.out
        clear hown1 hgrow hown
        have HFIN := hG hfin; clear hfin
        go_wp2
        go_roundw
        case rel => exact ⟨i + 1, os ++ [o], 0, by omega, rfl, rfl, by omega, HSM.out, HEQ.out, by simpa using HOSL.out, by simpa using HFIN.out, hbz⟩
        case measure => simp [intOf]; omega
    · have hyd : (dig n).getD i 0 = 0 := by simp [List.getD, List.getElem?_eq_none (show (dig n).length <= i by omega)]
      have j1 : ¬ (i : Int) < (dig n).length := by omega
      by_cases hneg : x < b
      · obtain ⟨o, ho⟩ : ∃ o, o = x + B - b := ⟨_, rfl⟩
        have e2 : IntKind.i64.wrap ((x : Int) - b) = -1 := by rw [show (x : Int) - b = -1 from by omega]; rfl
        have e4 : (9999 : Int) = (o : Int) := by omega
        have HEQ := hG (less_step (o := o) (b' := 1) HHX.out hyd HHOL.out HHEQ.out (by omega))
        have HSM := hG (sm_snoc (d := o) HHSM.out (by omega))
        have HOSL := HHOL
        obtain rfl : o = 9999 := by omega
        clear hyd ho hB e1 e4
        go_wp2_with (at_builtin; refine wpList_append_own _ rfl _ _ 43 rfl w.heap.size 3 i0 (.int .i64 0) 1 8 Tryz.underlying43 hi hz0 hz1 hz2 rfl (by decide) _ _ _ rfl (hown.alloc _) ⟨wr.heap.size, 0, none⟩ 1 1 [.int .i64 9999] rfl rfl (news1 _ _ _) (by simp [Value.oneCell']) (by unfold maxLen; omega) (by omega) (by simp; omega) ?_; intro v1 wz hown1 hgrow _)
        have hfin := hown1
        rw [show zs os ++ [.int .i64 9999] = zs (os ++ [9999]) from by rw [zs_append]; rfl] at hfin
        have hbz := (hb.alloc hsz (.cells #[.int .i64 9999] 3)).grown hgrow (by simp; omega) HOB.out
        clear hown1 hgrow hown
        have HFIN := hG hfin; clear hfin
        go_wp2
        go_roundw
        case rel => exact ⟨i + 1, os ++ [9999], 1, by omega, rfl, rfl, by omega, HSM.out, HEQ.out, by simpa using HOSL.out, by simpa using HFIN.out, hbz⟩
        case measure => simp [intOf]; omega
      · obtain ⟨o, ho⟩ : ∃ o, o = x - b := ⟨_, rfl⟩
        have e2 : IntKind.i64.wrap ((x : Int) - b) = (o : Int) := by rw [show (x : Int) - b = (o : Int) from by omega]; exact IntWalk.i64_in _ (by omega)
        have e3 : ¬ (o : Int) < 0 := by omega
        have HEQ := hG (less_step (o := o) (b' := 0) HHX.out hyd HHOL.out HHEQ.out (by omega))
        have HSM := hG (sm_snoc (d := o) HHSM.out (by omega))
        have HOSL := HHOL
        clear hyd ho hB e1
        go_wp2_with (at_builtin; refine wpList_append_own _ rfl _ _ 43 rfl w.heap.size 3 i0 (.int .i64 0) 1 8 Tryz.underlying43 hi hz0 hz1 hz2 rfl (by decide) _ _ _ rfl (hown.alloc _) ⟨wr.heap.size, 0, none⟩ 1 1 [.int .i64 (o : Nat)] rfl rfl (news1 _ _ _) (by simp [Value.oneCell']) (by unfold maxLen; omega) (by omega) (by simp; omega) ?_; intro v1 wz hown1 hgrow _)
        have hfin := hown1
        rw [show zs os ++ [.int .i64 (o : Nat)] = zs (os ++ [o]) from by rw [zs_append]; rfl] at hfin
        have hbz := (hb.alloc hsz (.cells #[.int .i64 (o : Nat)] 3)).grown hgrow (by simp; omega) HOB.out
        clear hown1 hgrow hown
        have HFIN := hG hfin; clear hfin
        go_wp2
        go_roundw
        case rel => exact ⟨i + 1, os ++ [o], 0, by omega, rfl, rfl, by omega, HSM.out, HEQ.out, by simpa using HOSL.out, by simpa using HFIN.out, hbz⟩
        case measure => simp [intOf]; omega
end Go.Proofs.YtahnadhlagabgaaGreatDoor.Z4
