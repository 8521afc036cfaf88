/- Parts of a proof, in build order: JQ, LL, LP, LT, LJ, OI, JR, JA, LR. -/
import Derived.Test.YtdpjdifoonfcdaaGreatDoorKc12
import Derived.Lib.ItoaLen

namespace Go.Proofs.YtdpjdifoonfcdaaGreatDoor
open Go.RowKit Go.Shelf
theorem wpListIn_load_arr {F : Fence} {n : Nat} {P : Program} {ops : Array Oper} {rest : List Oper} {o : Oper} {a : Act} {w : World} {Q : Exit -> Act -> World -> Prop} (hgd : o.guard = none) (ty : TypeId) (x : Operand) (ho : o.op = .load ty x)
 (p : Addr) (hx : a.eval x = .pointer (some p)) (V : Array Value) (d : TypeDesc) (hc : ∀ j v, V[j]? = some v -> w.cell? (p.add j) = some v)
 (hu : P.underlying ty = some d) (hd : (match d with | .struct _ | .array _ _ => true | _ => false) = true) (hi : (P.info? ty).map (·.size) = some V.size)
 (h : wpListIn F n P ops Q rest (a.put o.dst (.agg V)) w) : wpListIn F n P ops Q (o :: rest) a w :=
 wpListIn_plain hgd fun K hK => by
  have hs : ∀ r, Oper.semAt r a.eval o = execOp a.eval o := by
   intro r
   cases r with
   | none => rfl
   | some l => exact Oper.semAt_some l _ o (fun c h => by rw [ho] at h; cases h)
  have he : (execOp a.eval o).run P w = .ok (.value (.agg V)) w := exec_load_arr ty x ho p hx V d hc hu hd hi
  unfold Oper.wpIn
  refine ⟨fun f hf => by simp [Oper.about, ho] at hf, ?_⟩
  rw [hs, he, Oper.uponIn_value]
  exact hK _ _ h
theorem match_call (L p q r s : Int) (h : matE L p q r s = 0) : ∃ n d : Int, (∀ W : World, Calls Tryz.prog 89 #[.agg (shp L (wav L p q)), .agg (shp L (wav L r s))] W fun e w' => e = .returned (.agg #[.int .i64 n, .int .i64 d]) /\ Below W.heap.size W w') /\
 (∀ W : World, Tab W -> Calls Tryz.prog 90 #[.agg #[.int .i64 n, .int .i64 d]] W fun e w' => e = .returned (.tuple #[.string (T2 (mFr L p q r s)), .int .i64 0]) /\ Below W.heap.size W w') := by
 obtain ⟨h1, h2, h3, h4⟩ := matE_zero h
 have hL := waveOK_true h1
 have hd := matD_pos h1 h2 h3 h4
 have hn := mat_bd (r := r) (s := s) h1
 have hsq := bestN_sq (wav L p q) (wav L r s) L.toNat (by omega) (by omega)
 rw [Int.toNat_of_nonneg (show 0 <= L by omega)] at hsq
 have hsq' : matN L p q r s * matN L p q r s <= matD L p q r s := hsq
 have m2 := Int.mul_nonneg hn.1 hn.1
 have hT := (mFr_ok h).2
 refine ⟨matN L p q r s * matN L p q r s, matD L p q r s, fun W => ?_, fun W ht => ?_⟩
 · have hm := matched_any L.toNat (wav L p q) (wav L r s) W (wav_length _ _ _) (wav_length _ _ _) (by omega) (by omega) (wav_bd _ _ _) (wav_bd _ _ _)
   rw [show ((L.toNat : Nat) : Int) = L by omega] at hm
   exact hm
 · have hm := num_any (matN L p q r s * matN L p q r s) (matD L p q r s) W ht (by omega) (by omega) (by omega) (by omega) (by omega)
   unfold matT at hT
   rw [if_pos h] at hT
   rw [<- hT]
   exact hm
theorem bankOK_len9 {L : Int} {cs : List (Int × Int)} (h : bankOK L cs = true) : cs.length <= 64 := by
 simp only [bankOK, Bool.and_eq_true, decide_eq_true_eq] at h
 exact h.1.1
theorem list_empty (s : ByteArray) : s.toList = [] ↔ s = ⟨#[]⟩ := by
 rw [ByteArray.toList_eq]
 constructor
 · intro h
   obtain ⟨d⟩ := s
   obtain ⟨l⟩ := d
   simp only at h
   subst h; rfl
 · rintro rfl; rfl
def worE (o : Option (Nat × Nat)) : Int := match o with | none => 4 | some _ => 0
theorem bar_zero : barS ⟨#[48]⟩ = some (0, 1) := by decide +kernel
set_option maxRecDepth 1000000 in
set_option maxHeartbeats 4000000 in
theorem Worst_good (L a b c d : Int) (cs : List (Int × Int)) (ao : Option Addr) (cap : Nat) (w : World) (ht : Tab w) (hc : Cells w ao (prs cs)) (hl : cs.length <= 9223372036854775807) (hcap : cs.length <= cap) (hcap2 : cap <= 9223372036854775807) (hE0 : covE L a b c d cs ⟨#[48]⟩ = 0) :
 Calls Tryz.prog 31 #[.agg #[.int .i64 L, .int .i64 a, .int .i64 b, .int .i64 c, .int .i64 d], .slice ao cs.length cap] w fun e w' => e = .returned (.tuple #[.string (worT (wrsF L cs (ptsAll L a c (d - c + 1).toNat (b - a + 1).toNat))), .int .i64 (worE (wrsF L cs (ptsAll L a c (d - c + 1).toNat (b - a + 1).toNat)))]) /\ Below w.heap.size w w' := by
 obtain ⟨W0, hW0⟩ : ∃ W0, w.alloc (.cells #[.int .i64 L, .int .i64 a, .int .i64 b, .int .i64 c, .int .i64 d] 43) = W0 := ⟨_, rfl⟩
 have hB0 : Below w.heap.size w W0 := by rw [<- hW0]; exact (Below.refl _ w).alloc (Nat.le_refl _) _
 have hs0 : W0.heap.size = w.heap.size + 1 := by rw [<- hW0]; simp
 have q0 : Blk W0 w.heap.size 43 #[.int .i64 L, .int .i64 a, .int .i64 b, .int .i64 c, .int .i64 d] := by rw [<- hW0]; exact Blk.new w _ _
 have ht0 := ht.below hB0 (Nat.le_refl _)
 have hcv := covering_any L a b c d cs ao cap ⟨#[48]⟩ W0 ht0 (by decide) (hc.below hB0 (Nat.le_refl _)) hl hcap hcap2
 have HW0 := Lib.hid hW0; have HCV := Lib.hid hcv; have HB0 := Lib.hid hB0; have HS0 := Lib.hid hs0; have Q0 := Lib.hid q0; have HT0 := Lib.hid ht0
 clear hW0 hcv ht ht0 hc hB0 hs0 q0
 refine (callsIn_wide (n := 8)).1 ?_
 refine callsIn_of_wp_marks Tryz.func31 rfl trivial ?_ rfl
 simp only [Tryz.ntmps31, List.size_toArray, List.length_cons, List.length_nil, Nat.reduceAdd, Nat.reduceSub, Array.replicate_succ, Array.replicate_zero, List.push_toArray, List.append_toArray, List.nil_append, List.cons_append]
 gi_wp2_with (refine ⟨trivial, ?_⟩; gi_at_call 73; rw [HW0.out]; refine (callsIn_wide.2 HCV.out).mono ?_; rintro r w1 ⟨⟨hE, hf, hbk, C, bo, cb, N, D, rfl, hbs, hC, hcs⟩ | ⟨hE, rfl⟩, hb1⟩ <;> refine Hid.out ?_)
 rotate_left
 · exact absurd hE0 hE
 refine Lib.hid ?_
 have hbw := HB0.out.trans (hb1.mono HB0.out.size)
 have hsz := HS0.out
 have hs1 := hb1.size
 obtain ⟨z0, z1, z2, z3, z4⟩ : w1.cell? ⟨w.heap.size, 0, none⟩ = some (.int .i64 L) /\ w1.cell? ⟨w.heap.size, 1, none⟩ = some (.int .i64 a) /\ w1.cell? ⟨w.heap.size, 2, none⟩ = some (.int .i64 b) /\ w1.cell? ⟨w.heap.size, 3, none⟩ = some (.int .i64 c) /\ w1.cell? ⟨w.heap.size, 4, none⟩ = some (.int .i64 d) := by
  have h := Q0.out.below hb1 (by omega)
  exact ⟨h.cell 0, h.cell 1, h.cell 2, h.cell 3, h.cell 4⟩
 have hlt : w.heap.size < w1.heap.size := by omega
 have HCC := Lib.hid hC; have HCS := Lib.hid hcs; have HB1 := Lib.hid hb1; have HBW := Lib.hid hbw; have HE := Lib.hid hE; have HF := Lib.hid hf; have HBK := Lib.hid hbk; have HT1 := Lib.hid (HT0.out.below hb1 (Nat.le_refl _))
 clear hC hcs hb1 hbw hE hE0 hf hbk hbs
 gi_wp2_with (refine ⟨trivial, ?_⟩; gi_at_call 74; refine (callsIn_wide.2 (points_any L a b c d _)).mono ?_; rintro r w2 ⟨rfl, rfl⟩; refine Hid.out ?_)
 refine Lib.hid ?_
 gi_wp2
 clear z0 z1 z2 z3 z4
 obtain ⟨W1, hW1⟩ : ∃ W1, ((w1.alloc (.cells #[.pointer (some ⟨C, 0, none⟩)] 149)).alloc (.cells #[.string ⟨#[]⟩] 34)).alloc (.cells #[.int .i64 L, .int .i64 a, .int .i64 b, .int .i64 c, .int .i64 d] 43) = W1 := ⟨_, rfl⟩
 have hBW1 : Below w1.heap.size w1 W1 := by rw [<- hW1]; exact (((Below.refl _ _).alloc (Nat.le_refl _) _).alloc (by simp) _).alloc (by simp; omega) _
 have hsW1 : W1.heap.size = w1.heap.size + 3 := by rw [<- hW1]; simp
 have y0 : Blk W1 w1.heap.size 149 #[.pointer (some ⟨C, 0, none⟩)] := by unfold Blk; rw [<- hW1, hold_old _ _ _ (by simp; omega)]; exact heap_alloc2_old w1 _ _
 have y1 : Blk W1 (w1.heap.size + 1) 34 #[.string ⟨#[]⟩] := by unfold Blk; rw [<- hW1, hold_old _ _ _ (by simp)]; exact heap_alloc2_new w1 _ _
 have y2 : W1.heap[w1.heap.size + 1 + 1]? = some (.cells #[.int .i64 L, .int .i64 a, .int .i64 b, .int .i64 c, .int .i64 d] 43 (0, 0)) := by
  have h := heap_alloc_new ((w1.alloc (.cells #[.pointer (some ⟨C, 0, none⟩)] 149)).alloc (.cells #[.string ⟨#[]⟩] 34)) (.cells #[.int .i64 L, .int .i64 a, .int .i64 b, .int .i64 c, .int .i64 d] 43)
  rw [show ((w1.alloc (.cells #[.pointer (some ⟨C, 0, none⟩)] 149)).alloc (.cells #[.string ⟨#[]⟩] 34)).heap.size = w1.heap.size + 1 + 1 by simp] at h
  rw [<- hW1]; exact h
 rw [hW1]
 have HW1 := Lib.hid hW1
 clear hW1
 obtain ⟨Z, hZ⟩ : ∃ Z, Z = shp 0 (smp 0 0 0) := ⟨_, rfl⟩
 have z : Tryz.zeroCells129 = Z := by rw [hZ]; exact zero101
 have hZs : Z.size = 65 := by rw [hZ, shp_size, smp_length]
 clear hZ
 refine wpIn_rangeFunc_ownH rfl (by omega) (gf := 141) (lb := #[.pointer (some ⟨w1.heap.size + 1 + 1, 0, none⟩)]) rfl trivial (enters_of Tryz.func141 (by kernel_rfl) rfl)
  (points_stops _ (by omega) (w1.heap.size + 1 + 1) L a b c d HF.out W1 y2) KeepB.trans (keepB_b (by omega)) (Below.refl _ _) (fun _ => rfl)
  (fun pre W => (Blk W w1.heap.size 149 #[.pointer (some ⟨C, 0, none⟩)] /\ Blk W (w1.heap.size + 1) 34 #[.string (worT (wrsF L cs pre))]) /\ Below w1.heap.size w1 W /\ W1.heap.size <= W.heap.size)
  (fun _ _ _ => False)
  (OwnFrom.and (Own.from (fun s A B row hs hg hr => ⟨row_kept hs.1 hg hr, row_kept hs.2 hg hr⟩) _) (OwnFrom.and (ownFrom_below (Nat.le_refl _) (by omega)) (fun _ _ _ _ hs hg _ => Nat.le_trans hs hg.size)))
  (fun _ _ _ _ _ hs _ _ => hs)
  ⟨⟨y0, y1⟩, hBW1, Nat.le_refl _⟩
  (fun x a' W => ∃ Bx, w1.heap.size + 3 <= Bx /\ W.heap[Bx]? = some (.cells (shp L (wav L x.1.1 x.1.2)) 129 (0, 0)) /\ a' = { tmps := #[.agg #[.int .i64 L, .int .i64 a, .int .i64 b, .int .i64 c, .int .i64 d], .slice ao cs.length cap, .pointer (some ⟨w.heap.size, 0, none⟩), undef, .string ⟨#[]⟩, .int .i64 0, .pointer (some ⟨w1.heap.size, 0, none⟩), .int .i64 0, .pointer (some ⟨w1.heap.size + 1, 0, none⟩), undef, .pointer (some ⟨Bx, 0, none⟩), undef, undef, undef, undef, undef, undef, undef, undef, undef, .tuple #[.pointer (some ⟨C, 0, none⟩), .int .i64 0], .agg #[.int .i64 L, .int .i64 a, .int .i64 b, .int .i64 c, .int .i64 d], .slice ao cs.length cap, .tuple #[.pointer (some ⟨C, 0, none⟩), .int .i64 0], .pointer (some ⟨C, 0, none⟩), .int .i64 0, .int .i64 0, .bool false, undef, .agg #[.int .i64 L, .int .i64 a, .int .i64 b, .int .i64 c, .int .i64 d], .func (.func 141) #[] #[.pointer (some ⟨w1.heap.size + 1 + 1, 0, none⟩)], .agg #[.int .i64 x.1.1, .int .i64 x.1.2], .agg (shp L (wav L x.1.1 x.1.2)), undef, undef, undef, undef, undef, undef, undef, undef, undef, undef, undef, undef, undef, undef, undef, undef, undef, undef, undef, undef, undef, undef, undef, undef, undef, undef, undef, undef, undef, undef, undef, undef, undef, undef, undef, undef, undef, undef, undef, undef, undef, undef], defers := [] })
  (fun x a' _ X Y row hs hg hr => by
   obtain ⟨Bx, h1, h2, h3⟩ := hs
   refine ⟨Bx, h1, (hg.block Bx (Array.getElem?_eq_some_iff.1 h2).1 (fun e => ?_)).trans h2, h3⟩
   obtain ⟨_, o, ho, hc⟩ := hr Bx e.symm
   rw [h2] at ho; cases ho; cases hc)
  ?assign ?body ?done ?stop
 case assign =>
  rintro l pre x W K ⟨⟨h1, h2⟩, hB1, hs⟩ hK
  have hst := store_shape (shp L (wav L x.1.1 x.1.2)) Z (by rw [shp_size, wav_length]) hZs shp_mem
  have hVs : (shp L (wav L x.1.1 x.1.2)).size = 65 := by rw [shp_size, wav_length]
  unfold ptV
  generalize shp L (wav L x.1.1 x.1.2) = V at *
  have hne : ¬ V = #[] := by intro h; rw [h] at hVs; simp at hVs
  gi_wp2_with (rw [Oper.semAt_eq _ _ _ (fun c h => by cases h)]; go_simp; try go_bits)
  have hal := (Below.refl W.heap.size W).alloc (Nat.le_refl _) (.cells V 129)
  exact hK _ _ ((KeepsOthers.alloc _ _).from _) (KeepB.of hal (by omega)) ⟨⟨h1.below hal h1.lt, h2.below hal h2.lt⟩, hB1.alloc hB1.size _, by simp; omega⟩ ⟨W.heap.size, by omega, heap_alloc_new _ _, rfl⟩
 case body =>
  rintro l pre x a' W hl ⟨r, hr⟩ ⟨⟨h1, h2⟩, hB, hs⟩ ⟨Bx, hBx, bX, rfl⟩ hlt
  have hb0 := HB1.out.trans (hB.mono hs1)
  have htW := HT1.out.below hB (Nat.le_refl _)
  have i1 := h1.c0
  have i2 := h2.c0
  have f2 := h2.free 0
  have hcC : ∀ W', Below w1.heap.size w1 W' -> W'.cell? ⟨C, 5, none⟩ = some (.slice bo cs.length cb) := fun W' h => cell_keep ((cell_of_row w1 _ 5 _ _ _ HCC.out).trans rfl) h (Nat.le_refl _)
  have i5 := hcC W hB
  have hcB : ∀ W', Below w1.heap.size w1 W' -> Cells W' bo (shpL L (wvs L cs)) := fun W' h => HCS.out.below h (Nat.le_refl _)
  have hVs : (shp L (wav L x.1.1 x.1.2)).size = 65 := by rw [shp_size, wav_length]
  have hinf : (Tryz.prog.info? 129).map (·.size) = some (shp L (wav L x.1.1 x.1.2)).size := by rw [hVs]; kernel_rfl
  have HINF := Lib.hid hinf; have HBX := Lib.hid bX; have HB := Lib.hid hB; have HCB := Lib.hid hcB; have HCC2 := Lib.hid hcC; have H1 := Lib.hid h1; have H2 := Lib.hid h2; have HTW := Lib.hid htW
  clear hinf bX hcB hcC h1 h2 htW
  have hall : ∀ c ∈ cs, chOK L c = true := by
   have h := HBK.out
   simp only [bankOK, Bool.and_eq_true, decide_eq_true_eq, List.all_eq_true] at h
   exact h.1.2
  have HALL := Lib.hid hall
  have hl64 := bankOK_len9 HBK.out
  clear hall
  generalize hVV : shp L (wav L x.1.1 x.1.2) = V at *
  have HVV := Lib.hid hVV
  clear hVV
  gi_wp2_with (rw [Oper.semAt_eq _ _ _ (fun c h => by cases h)]; go_simp; try go_bits)
  gi_loopw [11, 38] (fun v i wr => ∃ k : Nat, k <= cs.length /\ i = .int .i64 k /\ v = .string (T2 (mostF L x.1 (cs.take k))) /\ Below W.heap.size W wr) (fun _ i _ => cs.length - (intOf i).toNat)
  case atStart => exact ⟨0, Nat.zero_le _, rfl, by rw [List.take_zero]; exact (congrArg Value.string T2_zero).symm, Below.refl _ _⟩
  case round =>
   obtain ⟨k, hk, rfl, rfl, hbr⟩ := hrel
   have hsr := hbr.size
   have hBr := HB.out.trans (hbr.mono HB.out.size)
   by_cases hlt : k < cs.length
   · obtain ⟨⟨r, s⟩, hrs⟩ := get_of_lt hlt
     have hy : (wvs L cs)[k]? = some (wav L r s) := by rw [wvs, List.getElem?_map, hrs]; rfl
     have hcb := HCB.out wr hBr
     obtain ⟨bb, ob, rfl⟩ := hcb.addr (by
      intro h
      have h2 := shpL_get (L := L) (fun z hz => by simp only [wvs, List.mem_map] at hz; obtain ⟨c, _, rfl⟩ := hz; exact wav_length _ _ _) hy (j := 0) (v := .int .i64 L) rfl
      rw [h] at h2; simp at h2)
     have hcell : ∀ j v, (shp L (wav L r s))[j]? = some v -> wr.cell? ((⟨bb, ob + k * 65, none⟩ : Addr).add j) = some v := by
      intro j v hv
      rw [Addr.add_lit, Nat.add_assoc]
      exact hcb.at (shpL_get (L := L) (fun z hz => by simp only [wvs, List.mem_map] at hz; obtain ⟨c, _, rfl⟩ := hz; exact wav_length _ _ _) hy hv)
     have hch : chOK L (r, s) = true := HALL.out _ (List.mem_of_getElem? hrs)
     have hm0 := pt_match x hch
     obtain ⟨n, dd, hmt, hnm⟩ := match_call L x.1.1 x.1.2 r s hm0
     rw [HVV.out] at hmt
     have hfr := (mFr_ok hm0).1
     have hmo := mostF_ok x (cs := cs.take k) (fun c hc => HALL.out c (List.mem_of_mem_take hc))
     have hsn := mostF_snoc L x.1 (cs.take k) (r, s)
     rw [show cs.take k ++ [(r, s)] = cs.take (k + 1) by rw [List.take_add_one, hrs]; rfl] at hsn
     simp only at hsn
     generalize mFr L x.1.1 x.1.2 r s = fr at *
     generalize mostF L x.1 (cs.take k) = mo at *
     have hcm := fun (W' : World) (h : Below W.heap.size W W') => cmp_any (T2 fr) (T2 mo) W' (HTW.out.below h (Nat.le_refl _)) (T2_size hfr) (T2_size hmo)
     rw [(cmp_T hfr hmo).1, (cmp_T hfr hmo).2] at hcm
     have hV2 : (shp L (wav L r s)).size = 65 := by rw [shp_size, wav_length]
     have hinf2 : (Tryz.prog.info? 129).map (·.size) = some (shp L (wav L r s)).size := by rw [hV2]; kernel_rfl
     have hst2 := store_shape (shp L (wav L r s)) Z (by rw [shp_size, wav_length]) hZs shp_mem
     generalize shp L (wav L r s) = V2 at *
     have hne2 : ¬ V2 = #[] := by intro h; rw [h] at hV2; simp at hV2
     have k1 : (k : Int) < cs.length := by omega
     have k2 : (0 : Int) <= k := by omega
     have hal := hbr.alloc hsr (.cells V2 129)
     have hx1 : (wr.alloc (.cells V2 129)).heap[Bx]? = some (.cells V 129 (0, 0)) := (hal.block _ (Array.getElem?_eq_some_iff.1 HBX.out).1).trans HBX.out
     have HCE := Lib.hid hcell; have HMT := Lib.hid hmt; have HNM := Lib.hid hnm; have HCM := Lib.hid hcm; have HSN := Lib.hid hsn; have HI2 := Lib.hid hinf2; have HAL := Lib.hid hal; have HX1 := Lib.hid hx1; have HBR := Lib.hid hbr
     clear hcell hmt hnm hcm hsn hinf2 hal hx1 hcb hy hrs hch hm0 hfr hmo hbr hBr
     gi_wp2_with (first
      | (refine wpListIn_load_arr (by rfl) 129 _ (by rfl) ⟨bb, ob + k * 65, none⟩ (by rfl) V2 _ HCE.out Tryz.underlying129 (by rfl) HI2.out ?_)
      | (refine wpListIn_load_row (by rfl) 129 _ (by rfl) Bx (by rfl) _ V _ _ HX1.out Tryz.underlying129 (by rfl) HINF.out ?_)
      | (refine wpListIn_load_row (by rfl) 129 _ (by rfl) wr.heap.size (by rfl) _ V2 _ _ (heap_alloc_new wr _) Tryz.underlying129 (by rfl) HI2.out ?_)
      | (refine ⟨trivial, ?_⟩; gi_at_call 89; refine (CallsIn.inRound l (callsIn_wide.2 (HMT.out _))).mono ?_; rintro r' w2 ⟨rfl, hb2⟩; refine Hid.out ?_)
      | (rw [Oper.semAt_eq _ _ _ (fun c h => by cases h)]; go_simp; try go_bits))
     refine Lib.hid ?_
     have hb02 := HAL.out.trans (hb2.mono HAL.out.size)
     gi_wp2_with (first
      | (refine ⟨trivial, ?_⟩; gi_at_call 90; refine (CallsIn.inRound l (callsIn_wide.2 (HNM.out _ (HTW.out.below hb02 (Nat.le_refl _))))).mono ?_; rintro r' w3 ⟨rfl, hb3⟩; refine Hid.out ?_)
      | (rw [Oper.semAt_eq _ _ _ (fun c h => by cases h)]; go_simp; try go_bits))
     refine Lib.hid ?_
     have hb03 := hb02.trans (hb3.mono hb02.size)
     gi_wp2_with (first
      | (refine ⟨trivial, ?_⟩; gi_at_call 32; refine (CallsIn.inRound l (callsIn_wide.2 (HCM.out _ hb03))).mono ?_; rintro r' w4 ⟨rfl, hb4⟩; refine Hid.out ?_)
      | (rw [Oper.semAt_eq _ _ _ (fun c h => by cases h)]; go_simp; try go_bits))
     refine Lib.hid ?_
     have hb04 := hb03.trans (hb4.mono hb03.size)
     have HB04 := Lib.hid hb04
     clear hb02 hb03 hb04 hb2 hb3 hb4
     by_cases hp : 0 < cmpF fr mo
     · rw [if_pos hp] at HSN
       generalize cmpF fr mo = cv at *
       gi_wp2_with (rw [Oper.semAt_eq _ _ _ (fun c h => by cases h)]; go_simp; try go_bits)
       go_roundw
       case rel => exact ⟨k + 1, by omega, by go_num, by rw [HSN.out], HB04.out⟩
       case measure => simp [intOf]; omega
     · rw [if_neg hp] at HSN
       generalize cmpF fr mo = cv at *
       gi_wp2_with (rw [Oper.semAt_eq _ _ _ (fun c h => by cases h)]; go_simp; try go_bits)
       go_roundw
       case rel => exact ⟨k + 1, by omega, by go_num, by rw [HSN.out], HB04.out⟩
       case measure => simp [intOf]; omega
   · obtain rfl : k = cs.length := by omega
     rw [List.take_length]
     have hmo := mostF_ok x HALL.out
     have hws := wrsF_snoc L cs pre x
     have hwo := wrsF_ok HALL.out pre
     generalize mostF L x.1 cs = mo at *
     generalize wrsF L cs pre = wo at *
     have hsw : (worT wo).size <= 1099511627776 /\ Lib.hasSuffix (worT wo).data.toList [105] = false := by
      cases wo with
      | none => exact ⟨by decide, by decide⟩
      | some v => exact T2_size (hwo v rfl)
     generalize htx : worT wo = tx at *
     have HTX := Lib.hid htx
     clear htx
     have hcm := cmp_any (T2 mo) tx wr (HTW.out.below hbr (Nat.le_refl _)) (T2_size hmo) hsw
     have b1 := H2.out.below hbr H2.out.lt
     have hblk1 := H1.out.below hbr H1.out.lt
     have c1 := b1.c0
     have g1 := b1.free 0
     have l1 := b1.lt
     have HCM := Lib.hid hcm; have HW2 := Lib.hid b1; have HC1 := Lib.hid hblk1; have HBR := Lib.hid hbr; have HBRR := Lib.hid hBr; have HWS := Lib.hid hws
     clear hcm b1 hblk1 hbr hBr hws hsw
     gi_wp2_with (first
      | (refine ⟨trivial, ?_⟩; gi_at_call 32; refine (CallsIn.inRound l (callsIn_wide.2 HCM.out)).mono ?_; rintro r' w4 ⟨rfl, hb4⟩; refine Hid.out ?_)
      | (rw [Oper.semAt_eq _ _ _ (fun c h => by cases h)]; go_simp; try go_bits))
     refine Lib.hid ?_
     have b2 := HW2.out.below hb4 HW2.out.lt
     have hblk2 := HC1.out.below hb4 HC1.out.lt
     have c2 := b2.c0
     have g2 := b2.free 0
     have l2 := b2.lt
     have hb04 := HBR.out.trans (hb4.mono hsr)
     have hbw4 := HBRR.out.trans (hb4.mono HBRR.out.size)
     have hsz4 := hb04.size
     have HB2 := Lib.hid b2; have HK2 := Lib.hid hblk2; have HB04 := Lib.hid hb04; have HBW4 := Lib.hid hbw4
     clear b2 hblk2 hb04 hbw4 hb4 c1 g1 l1
     generalize hcv : cmpV (T2 mo) tx = cv at *
     have HCV2 := Lib.hid hcv
     clear hcv
     cases wo with
     | none =>
       have t0 : tx.toList = [] := (list_empty _).2 HTX.out.symm
       have t1 : tx.toList.isEmpty = true := by rw [t0]; rfl
       gi_wp2_with (rw [Oper.semAt_eq _ _ _ (fun c h => by cases h)]; go_simp; try go_bits)
       have hbs : Below w1.heap.size w1 (w4.setCell ⟨w1.heap.size + 1, 0, none⟩ (.string (T2 mo))) := HBW4.out.setCell (p := ⟨w1.heap.size + 1, 0, none⟩) (Nat.le_succ _) _
       exact ⟨((keepsOthers_below HB04.out).trans (KeepsOthers.setCell w4 _ _)).from _, ⟨(heap_setCell_other w4 ⟨w1.heap.size + 1, 0, none⟩ _ _ (by show w1.heap.size + 1 + 1 ≠ w1.heap.size + 1; omega)).trans (HB04.out.block _ (by omega)), by simp; omega⟩, ⟨HK2.out.other (by omega) _ _, by rw [HWS.out]; exact HB2.out.set0 _⟩, hbs, by simp; omega⟩
     | some v =>
       have hv := hwo v rfl
       have hcv2 : cv = cmpF mo v := by rw [<- HCV2.out, <- HTX.out]; exact (cmp_T hmo hv).2
       have t0 : ¬ tx.toList = [] := fun h => T2_ne hv (HTX.out.trans ((list_empty _).1 h))
       have t1 : tx.toList.isEmpty = false := by
        cases hh : tx.toList with
        | nil => exact absurd hh t0
        | cons _ _ => rfl
       have hws2 : wrsF L cs (pre ++ [x]) = if cv < 0 then some mo else some v := by rw [HWS.out, hcv2]
       clear HWS hcv2
       by_cases hp : cv < 0
       · rw [if_pos hp] at hws2
         have HWS := Lib.hid hws2
         clear hws2
         gi_wp2_with (rw [Oper.semAt_eq _ _ _ (fun c h => by cases h)]; go_simp; try go_bits)
         have hbs : Below w1.heap.size w1 (w4.setCell ⟨w1.heap.size + 1, 0, none⟩ (.string (T2 mo))) := HBW4.out.setCell (p := ⟨w1.heap.size + 1, 0, none⟩) (Nat.le_succ _) _
         exact ⟨((keepsOthers_below HB04.out).trans (KeepsOthers.setCell w4 _ _)).from _, ⟨(heap_setCell_other w4 ⟨w1.heap.size + 1, 0, none⟩ _ _ (by show w1.heap.size + 1 + 1 ≠ w1.heap.size + 1; omega)).trans (HB04.out.block _ (by omega)), by simp; omega⟩, ⟨HK2.out.other (by omega) _ _, by rw [HWS.out]; exact HB2.out.set0 _⟩, hbs, by simp; omega⟩
       · rw [if_neg hp] at hws2
         have HWS := Lib.hid hws2
         clear hws2
         gi_wp2_with (rw [Oper.semAt_eq _ _ _ (fun c h => by cases h)]; go_simp; try go_bits)
         exact ⟨(keepsOthers_below HB04.out).from _, ⟨HB04.out.block _ (by omega), hsz4⟩, ⟨HK2.out, by rw [HWS.out]; show Blk _ _ _ #[.string (worT (some v))]; rw [HTX.out]; exact HB2.out⟩, HBW4.out, by omega⟩
 case done =>
  rintro Dd ys' W hD rfl ⟨⟨h1, h2⟩, hB, hs⟩ hK
  obtain ⟨wo, hwo⟩ : ∃ wo, wrsF L cs (ptsAll L a c (d - c + 1).toNat (b - a + 1).toNat) = wo := ⟨_, rfl⟩
  have hok := wrsF_ok (L := L) (cs := cs) (fun c hc => by
   have h := HBK.out
   simp only [bankOK, Bool.and_eq_true, decide_eq_true_eq, List.all_eq_true] at h
   exact h.1.2 c hc) (ptsAll L a c (d - c + 1).toNat (b - a + 1).toNat)
  rw [hwo] at h2 hok
  have c1 := h2.c0
  have HWO := Lib.hid hwo
  have hbe := (HBW.out.trans (hB.mono (by omega))).trans (belowK_b (w := w) (Nat.le_refl _) W Dd _ (.deferred none) (by omega) hK rfl rfl)
  have HBE := Lib.hid hbe
  clear h1 h2 hB hwo hbe
  cases wo with
  | none =>
    have hw0 : worT none = ⟨#[]⟩ := rfl
    have t0 : (⟨#[]⟩ : ByteArray).toList = [] := (list_empty _).2 rfl
    have t1 : (⟨#[]⟩ : ByteArray).toList.isEmpty = true := by rw [t0]; rfl
    rw [hw0] at c1
    gi_wp2
    refine ⟨by simp, .inl ⟨_, _, rfl, run_takeDeferred hK, ?_⟩⟩
    refine ⟨.tuple #[.string ⟨#[]⟩, .int .i64 4], ?_, by rw [HWO.out]; rfl, HBE.out⟩
    simp [results, Tryz.f31, go_sem]
  | some v =>
    have hv := hok v rfl
    have hw0 : worT (some v) = T2 v := rfl
    rw [hw0] at c1
    have t0 : ¬ (T2 v).toList = [] := fun h => T2_ne hv ((list_empty _).1 h)
    have t1 : (T2 v).toList.isEmpty = false := by
     cases hh : (T2 v).toList with
     | nil => exact absurd hh t0
     | cons _ _ => rfl
    have HV := Lib.hid hv
    generalize htx : T2 v = tx at *
    have HTX := Lib.hid htx
    clear htx hv hok hw0
    gi_wp2
    refine ⟨by simp, .inl ⟨_, _, rfl, run_takeDeferred hK, ?_⟩⟩
    refine ⟨.tuple #[.string tx, .int .i64 0], ?_, by rw [HWO.out, <- HTX.out]; rfl, HBE.out⟩
    simp [results, Tryz.f31, go_sem]
 case stop =>
  rintro Dd cc pre W hD hpre h _
  exact h.elim
end Go.Proofs.YtdpjdifoonfcdaaGreatDoor

namespace Go.Proofs.YtdpjdifoonfcdaaGreatDoor
open Go.RowKit Go.Shelf
structure Bls (B : Nat) (L : Int) (pre : List (Pt L)) (v8 v9 : Value) (W : World) : Prop where
 b8 : Blk W B 44 #[v8]
 r8 : W.ownsRow (B + 3) 23 2 v8 pre.length (prs (pairsOf pre))
 b9 : Blk W (B + 1) 152 #[v9]
 r9 : W.ownsRow (B + 3) 129 65 v9 pre.length (shpL L (wvP L pre))
theorem Bls.keptF {B : Nat} {L : Int} {pre : List (Pt L)} {v8 v9 : Value} {W X : World} {row : Option Nat} (h : Bls B L pre v8 v9 W) (hg : W.grownBy X row) (hr : ∀ r, row = some r -> ∃ o : Obj, W.heap[r]? = some o /\ o.isCells = false) : Bls B L pre v8 v9 X :=
 ⟨row_kept h.b8 hg hr, own_keptF h.r8 hg hr, row_kept h.b9 hg hr, own_keptF h.r9 hg hr⟩
theorem Bls.below {B : Nat} {L : Int} {pre : List (Pt L)} {v8 v9 : Value} {W X : World} (h : Bls B L pre v8 v9 W) (hb : Below W.heap.size W X) : Bls B L pre v8 v9 X :=
 ⟨h.b8.below hb h.b8.lt, own_belowK h.r8 hb (Nat.le_refl _), h.b9.below hb h.b9.lt, own_belowK h.r9 hb (Nat.le_refl _)⟩
def Apt (B Bx : Nat) (W : World) : Prop := ∃ v8 v9, Blk W B 44 #[v8] /\ Blk W (B + 1) 152 #[v9] /\ some Bx ≠ v8.ownBlock /\ some (Bx + 1) ≠ v9.ownBlock
theorem Apt.keptF {B Bx : Nat} {W X : World} {row : Option Nat} (h : Apt B Bx W) (hg : W.grownBy X row) (hr : ∀ r, row = some r -> ∃ o : Obj, W.heap[r]? = some o /\ o.isCells = false) : Apt B Bx X := by
 obtain ⟨v8, v9, h1, h2, h3⟩ := h
 exact ⟨v8, v9, row_kept h1 hg hr, row_kept h2 hg hr, h3⟩
theorem Apt.below {B Bx : Nat} {W X : World} (h : Apt B Bx W) (hb : Below W.heap.size W X) : Apt B Bx X := by
 obtain ⟨v8, v9, h1, h2, h3⟩ := h
 exact ⟨v8, v9, h1.below hb h1.lt, h2.below hb h2.lt, h3⟩
theorem Bls.apt {B : Nat} {L : Int} {pre : List (Pt L)} {v8 v9 : Value} {W : World} (h : Bls B L pre v8 v9 W) : Apt B W.heap.size W :=
 ⟨v8, v9, h.b8, h.b9, fun e => by have := (h.r8.lt _ e.symm).2; omega, fun e => by have := (h.r9.lt _ e.symm).2; omega⟩
theorem Apt.of {B Bx : Nat} {L : Int} {pre : List (Pt L)} {v8 v9 : Value} {W : World} (h : Apt B Bx W) (hb : Bls B L pre v8 v9 W) : some Bx ≠ v8.ownBlock /\ some (Bx + 1) ≠ v9.ownBlock := by
 obtain ⟨u8, u9, h1, h2, h3⟩ := h
 have e1 := h1.symm.trans hb.b8
 have e2 := h2.symm.trans hb.b9
 simp only [Option.some.injEq, Obj.cells.injEq, Array.mk.injEq, List.cons.injEq, and_true] at e1 e2
 rw [<- e1, <- e2]
 exact h3
theorem run_make_slices {n : Nat} {z : Int} (hz : z = n) (h : n <= 100000) (w : World) : (Instr.makeSlice 31 (.int .i64 z) (.int .i64 z)).run Tryz.prog w = .ok (.slice (some ⟨w.heap.size, 0, none⟩) n n) (w.alloc (.cells (List.replicate n (.slice none 0 0)).toArray 24)) := by
 subst hz
 obtain ⟨i0, hi, hz0, hz1, hz2⟩ := info_parts Tryz.infoInts
 have hr := run_make (P := Tryz.prog) w 31 24 i0 (.slice none 0 0) Tryz.underlying31 hi hz0 .i64 .i64 n n (by omega) (by omega) (by rw [hz2]; omega) (by omega)
 rw [hr, hz1]
 simp only [Int.toNat_natCast, Nat.mul_one]
 have : madeCells (Value.slice none 0 0).cells n = (List.replicate n (Value.slice none 0 0)).toArray := by
  apply Array.ext
  · simp [madeCells]
  · intro i h1 h2
    simp [madeCells, Value.cells, Nat.mod_one]
 rw [this]
set_option maxRecDepth 1000000 in
set_option maxHeartbeats 8000000 in
theorem Build_good (n m : Nat) (L a b c d : Int) (s : ByteArray) (w : World) (ht : Tab w) (hs : s.size <= 140737488351232) (hE0 : covE L a b c d [] s = 0) (hbs0 : barS s = some (n, m)) :
 Calls Tryz.prog 19 #[.agg #[.int .i64 L, .int .i64 a, .int .i64 b, .int .i64 c, .int .i64 d], .string s] w fun e w' => (∃ ao co, e = .returned (.tuple #[.slice ao (bldL L (ptsAll L a c (d - c + 1).toNat (b - a + 1).toNat) (bldO n m L (ptsAll L a c (d - c + 1).toNat (b - a + 1).toNat))).length co, .int .i64 (bldX (bldO n m L (ptsAll L a c (d - c + 1).toNat (b - a + 1).toNat)))]) /\ Cells w' ao (prs (bldL L (ptsAll L a c (d - c + 1).toNat (b - a + 1).toNat) (bldO n m L (ptsAll L a c (d - c + 1).toNat (b - a + 1).toNat)))) /\ (bldL L (ptsAll L a c (d - c + 1).toNat (b - a + 1).toNat) (bldO n m L (ptsAll L a c (d - c + 1).toNat (b - a + 1).toNat))).length <= co /\ co <= 9223372036854775807) /\ Below w.heap.size w w' := by
 obtain ⟨W0, hW0⟩ : ∃ W0, w.alloc (.cells #[.int .i64 L, .int .i64 a, .int .i64 b, .int .i64 c, .int .i64 d] 43) = W0 := ⟨_, rfl⟩
 have hB0 : Below w.heap.size w W0 := by rw [<- hW0]; exact (Below.refl _ w).alloc (Nat.le_refl _) _
 have hs0 : W0.heap.size = w.heap.size + 1 := by rw [<- hW0]; simp
 have q0 : Blk W0 w.heap.size 43 #[.int .i64 L, .int .i64 a, .int .i64 b, .int .i64 c, .int .i64 d] := by rw [<- hW0]; exact Blk.new w _ _
 have ht0 := ht.below hB0 (Nat.le_refl _)
 have hcv := covering_any L a b c d [] none 0 s W0 ht0 hs (Cells.nil _ _) (by simp) (by simp) (by simp)
 rw [List.length_nil] at hcv
 have HW0 := Lib.hid hW0; have HCV := Lib.hid hcv; have HB0 := Lib.hid hB0; have HS0 := Lib.hid hs0; have Q0 := Lib.hid q0; have HT0 := Lib.hid ht0
 clear hW0 hcv ht ht0 hB0 hs0 q0
 refine (callsIn_wide (n := 8)).1 ?_
 refine callsIn_of_wp_marks Tryz.func19 rfl trivial ?_ rfl
 simp only [Tryz.ntmps19, List.size_toArray, List.length_cons, List.length_nil, Nat.reduceAdd, Nat.reduceSub, Array.replicate_succ, Array.replicate_zero, List.push_toArray, List.append_toArray, List.nil_append, List.cons_append]
 gi_wp2_with fail
 refine wpIn_wide.2 ?_
 apply wp_scope_straight
 go_wp2_with fail
 rw [HW0.out]
 refine HCV.out.mono ?_
 rintro r w1 ⟨⟨hE, hf, -, C, bo, cb, N, D, rfl, hbs, hC, -⟩ | ⟨hE, rfl⟩, hb1⟩
 rotate_left
 · exact absurd hE0 hE
 have hnm := hbs0.symm.trans hbs
 simp only [Option.some.injEq, Prod.mk.injEq] at hnm
 obtain ⟨rfl, rfl⟩ := hnm
 have hbw := HB0.out.trans (hb1.mono HB0.out.size)
 have hsz := HS0.out
 have hs1 := hb1.size
 obtain ⟨z0, z1, z2, z3, z4⟩ : w1.cell? ⟨w.heap.size, 0, none⟩ = some (.int .i64 L) /\ w1.cell? ⟨w.heap.size, 1, none⟩ = some (.int .i64 a) /\ w1.cell? ⟨w.heap.size, 2, none⟩ = some (.int .i64 b) /\ w1.cell? ⟨w.heap.size, 3, none⟩ = some (.int .i64 c) /\ w1.cell? ⟨w.heap.size, 4, none⟩ = some (.int .i64 d) := by
  have h := Q0.out.below hb1 (by omega)
  exact ⟨h.cell 0, h.cell 1, h.cell 2, h.cell 3, h.cell 4⟩
 have hlt : w.heap.size < w1.heap.size := by omega
 have HCC := Lib.hid hC; have HB1 := Lib.hid hb1; have HBW := Lib.hid hbw; have HF := Lib.hid hf
 clear hC hb1 hbw hE hE0 hf hbs
 go_wp2_with fail
 refine (points_any L a b c d _).mono ?_
 rintro r w2 ⟨rfl, rfl⟩
 go_wp2_with fail
 clear z0 z1 z2 z3 z4
 obtain ⟨W1, hW1⟩ : ∃ W1, ((w1.alloc (.cells #[.slice none 0 0] 44)).alloc (.cells #[.slice none 0 0] 152)).alloc (.cells #[.int .i64 L, .int .i64 a, .int .i64 b, .int .i64 c, .int .i64 d] 43) = W1 := ⟨_, rfl⟩
 have hBW1 : Below w1.heap.size w1 W1 := by rw [<- hW1]; exact (((Below.refl _ _).alloc (Nat.le_refl _) _).alloc (by simp) _).alloc (by simp; omega) _
 have hsW1 : W1.heap.size = w1.heap.size + 3 := by rw [<- hW1]; simp
 have y0 : Blk W1 w1.heap.size 44 #[.slice none 0 0] := by unfold Blk; rw [<- hW1, hold_old _ _ _ (by simp; omega)]; exact heap_alloc2_old w1 _ _
 have y1 : Blk W1 (w1.heap.size + 1) 152 #[.slice none 0 0] := by unfold Blk; rw [<- hW1, hold_old _ _ _ (by simp)]; exact heap_alloc2_new w1 _ _
 have y2 : W1.heap[w1.heap.size + 1 + 1]? = some (.cells #[.int .i64 L, .int .i64 a, .int .i64 b, .int .i64 c, .int .i64 d] 43 (0, 0)) := by
  have h := heap_alloc_new ((w1.alloc (.cells #[.slice none 0 0] 44)).alloc (.cells #[.slice none 0 0] 152)) (.cells #[.int .i64 L, .int .i64 a, .int .i64 b, .int .i64 c, .int .i64 d] 43)
  rw [show ((w1.alloc (.cells #[.slice none 0 0] 44)).alloc (.cells #[.slice none 0 0] 152)).heap.size = w1.heap.size + 1 + 1 by simp] at h
  rw [<- hW1]; exact h
 rw [hW1]
 have HW1 := Lib.hid hW1
 clear hW1
 have hF0 : Bls w1.heap.size L [] (.slice none 0 0) (.slice none 0 0) W1 := ⟨y0, World.ownsRow_nil _ _ _ _, y1, World.ownsRow_nil _ _ _ _⟩
 clear y0 y1
 obtain ⟨Z, hZ⟩ : ∃ Z, Z = shp 0 (smp 0 0 0) := ⟨_, rfl⟩
 have z : Tryz.zeroCells129 = Z := by rw [hZ]; exact zero101
 have hZs : Z.size = 65 := by rw [hZ, shp_size, smp_length]
 have HZ := Lib.hid hZ
 have HL4 : Hid ((ptsAll L a c (d - c + 1).toNat (b - a + 1).toNat).length <= 400) := Lib.hid (Nat.le_trans (ptsAll_len L a c (d - c + 1).toNat (b - a + 1).toNat) (fam_true HF.out).2.2.2.2.2.2.2.2)
 clear hZ
 refine (wpIn_wide (n := 8)).1 ?_
 refine wpIn_rangeFunc_ownH rfl (by omega) (gf := 141) (lb := #[.pointer (some ⟨w1.heap.size + 1 + 1, 0, none⟩)]) rfl trivial (enters_of Tryz.func141 (by kernel_rfl) rfl)
  (points_stops _ (by omega) (w1.heap.size + 1 + 1) L a b c d HF.out W1 y2) KeepB.trans (keepB_b (by omega)) (Below.refl _ _) (fun _ => rfl)
  (fun pre W => (∃ v8 v9, Bls w1.heap.size L pre v8 v9 W) /\ Below w1.heap.size w1 W /\ W1.heap.size <= W.heap.size)
  (fun _ _ _ => False)
  (OwnFrom.and (Own.from (fun s A B row hs hg hr => by obtain ⟨v8, v9, h⟩ := hs; exact ⟨v8, v9, h.keptF hg hr⟩) _) (OwnFrom.and (ownFrom_below (Nat.le_refl _) (by omega)) (fun _ _ _ _ hs hg _ => Nat.le_trans hs hg.size)))
  (fun _ _ _ _ _ hs _ _ => hs)
  ⟨⟨_, _, hF0⟩, hBW1, Nat.le_refl _⟩
  (fun x a' W => ∃ Bx, w1.heap.size + 3 <= Bx /\ Apt w1.heap.size Bx W /\ W.heap[Bx]? = some (.cells #[.int .i64 x.1.1, .int .i64 x.1.2] 23 (0, 0)) /\ W.heap[Bx + 1]? = some (.cells (shp L (wav L x.1.1 x.1.2)) 129 (0, 0)) /\ a' = { tmps := #[.agg #[.int .i64 L, .int .i64 a, .int .i64 b, .int .i64 c, .int .i64 d], .string s, .pointer (some ⟨w.heap.size, 0, none⟩), undef, .slice none 0 0, .int .i64 0, .pointer (some ⟨C, 0, none⟩), .int .i64 0, .pointer (some ⟨w1.heap.size, 0, none⟩), .pointer (some ⟨w1.heap.size + 1, 0, none⟩), .pointer (some ⟨Bx, 0, none⟩), .pointer (some ⟨Bx + 1, 0, none⟩), undef, undef, undef, undef, undef, undef, undef, undef, undef, undef, undef, undef, undef, undef, undef, undef, undef, undef, .tuple #[.pointer (some ⟨C, 0, none⟩), .int .i64 0], .agg #[.int .i64 L, .int .i64 a, .int .i64 b, .int .i64 c, .int .i64 d], .string s, .tuple #[.pointer (some ⟨C, 0, none⟩), .int .i64 0], .pointer (some ⟨C, 0, none⟩), .int .i64 0, .int .i64 0, .bool false, undef, .agg #[.int .i64 L, .int .i64 a, .int .i64 b, .int .i64 c, .int .i64 d], .func (.func 141) #[] #[.pointer (some ⟨w1.heap.size + 1 + 1, 0, none⟩)], .agg #[.int .i64 x.1.1, .int .i64 x.1.2], .agg (shp L (wav L x.1.1 x.1.2)), undef, undef, undef, undef, undef, undef, undef, undef, undef, undef, undef, undef, undef, undef, undef, undef, undef, undef, undef, undef, undef, undef, undef, undef, undef, undef, undef, undef, undef, undef, undef, undef, undef, undef, undef, undef, undef, undef, undef, undef, undef, undef, undef, undef, undef, undef, undef, undef, undef, undef, undef, undef, undef, undef, undef, undef, undef, undef, undef, undef, undef, undef, undef, undef, undef, undef, undef, undef, undef, undef, undef, undef, undef, undef, undef, undef, undef, undef, undef, undef, undef, undef, undef, undef, undef, undef, undef, undef, undef, undef, undef, undef, undef, undef, undef, undef, undef, undef, undef, undef, undef, undef, undef, undef, undef, undef, undef, undef, undef], defers := [] })
  (fun x a' _ X Y row hs hg hr => by
   obtain ⟨Bx, h1, h0, h2, h3, h4⟩ := hs
   refine ⟨Bx, h1, h0.keptF hg (fun r e => (hr r e).2), (hg.block Bx (Array.getElem?_eq_some_iff.1 h2).1 (fun e => ?_)).trans h2, (hg.block (Bx + 1) (Array.getElem?_eq_some_iff.1 h3).1 (fun e => ?_)).trans h3, h4⟩
   · obtain ⟨_, o, ho, hc⟩ := hr Bx e.symm
     rw [h2] at ho; cases ho; cases hc
   · obtain ⟨_, o, ho, hc⟩ := hr (Bx + 1) e.symm
     rw [h3] at ho; cases ho; cases hc)
  ?assign ?body ?done ?stop
 case assign =>
  --<<
  rintro l pre x W K ⟨⟨v8, v9, hF1⟩, hB1, hs⟩ hK
  have hst := store_shape (shp L (wav L x.1.1 x.1.2)) Z (by rw [shp_size, wav_length]) hZs shp_mem
  have hVs : (shp L (wav L x.1.1 x.1.2)).size = 65 := by rw [shp_size, wav_length]
  unfold ptV
  generalize shp L (wav L x.1.1 x.1.2) = V at *
  have hne : ¬ V = #[] := by intro h; rw [h] at hVs; simp at hVs
  have hst2 := hst (W.alloc (.cells #[.int .i64 x.1.1, .int .i64 x.1.2] 23))
  rw [show (W.alloc (.cells #[.int .i64 x.1.1, .int .i64 x.1.2] 23)).heap.size = W.heap.size + 1 by simp] at hst2
  clear hst
  gi_wp2_with (rw [Oper.semAt_eq _ _ _ (fun c h => by cases h)]; go_simp; try go_bits)
  have hal := ((Below.refl W.heap.size W).alloc (Nat.le_refl _) (.cells #[.int .i64 x.1.1, .int .i64 x.1.2] 23)).alloc (by simp) (.cells V 129)
  have hn1 := heap_alloc2_old W (.cells #[.int .i64 x.1.1, .int .i64 x.1.2] 23) (.cells V 129)
  have hn2 := heap_alloc2_new W (.cells #[.int .i64 x.1.1, .int .i64 x.1.2] 23) (.cells V 129)
  exact hK _ _ (((KeepsOthers.alloc _ _).trans (KeepsOthers.alloc _ _)).from _) (KeepB.of hal (by omega)) ⟨⟨v8, v9, hF1.below hal⟩, hB1.trans (hal.mono hB1.size), by simp; omega⟩ ⟨W.heap.size, by omega, (hF1.apt).below hal, hn1, hn2, rfl⟩
  -->>
 case body =>
  --<<
  rintro l pre x a' W hl ⟨r, hr⟩ ⟨⟨v8, v9, hF1⟩, hB, hs⟩ ⟨Bx, hBx, hap, bC, bX, rfl⟩ hlt
  have hVs : (shp L (wav L x.1.1 x.1.2)).size = 65 := by rw [shp_size, wav_length]
  have hinf : (Tryz.prog.info? 129).map (·.size) = some (shp L (wav L x.1.1 x.1.2)).size := by rw [hVs]; kernel_rfl
  have hone : ∀ u ∈ (shp L (wav L x.1.1 x.1.2)).toList, u.oneCell' = true := shp_mem
  have hp2 : prs (pairsOf (pre ++ [x])) = prs (pairsOf pre) ++ [.int .i64 x.1.1, .int .i64 x.1.2] := prs_pairs_snoc _ _
  have hp3 : shpL L (wvP L (pre ++ [x])) = shpL L (wvP L pre) ++ (shp L (wav L x.1.1 x.1.2)).toList := by rw [wvP, List.map_append, List.map_cons, List.map_nil, shpL_snoc]; rfl
  have hl2 : (pre ++ [x]).length = pre.length + 1 := by simp
  have hap := hap.of hF1
  have hlen : pre.length < 400 := by have h1 := ptsAll_len L a c (d - c + 1).toNat (b - a + 1).toNat; have h2 := (fam_true HF.out).2.2.2.2.2.2.2.2; omega
  obtain ⟨i8, hi8, hz8, hs8, hb8⟩ := info_parts Tryz.infoChirp
  obtain ⟨i9, hi9, hz9, hs9, hb9⟩ := info_parts Tryz.infoShape
  have hz9 : i9.zero = some (.agg Z) := by rw [hz9, HZ.out]
  generalize shp L (wav L x.1.1 x.1.2) = V at *
  have hr0 : Rd w1.heap.size Bx x.1.1 x.1.2 V W W.drew v8 v8 pre.length (prs (pairsOf pre)) v9 v9 pre.length (shpL L (wvP L pre)) := ⟨KeepsOthers.drew _, (Below.refl _ _).drew, by have := hs; show _ <= W.heap.size; omega, rfl, hF1.b8, hF1.b9, hF1.r8, hF1.r9, bC, bX⟩
  have hsF : W.drew.cell? ⟨w1.heap.size, 0, none⟩ = some v8 /\ W.drew.cell? ⟨w1.heap.size + 1, 0, none⟩ = some v9 /\ W.drew.cell? ⟨Bx, 0, none⟩ = some (.int .i64 x.1.1) /\ W.drew.cell? ⟨Bx, 1, none⟩ = some (.int .i64 x.1.2) /\ W.drew.heap[Bx + 1]? = some (.cells V 129 (0, 0)) := ⟨hr0.b8.c0, hr0.b9.c0, hr0.c.cell 0, hr0.c.cell 1, hr0.x⟩
  clear bC bX hF1 hlt hr hl
  gi_wp2_with fail
  refine wpIn_region_roundJ (T := fun j w' => (j ≠ 4 -> j ≠ 5 -> j < 8 -> w'.cell? ⟨w1.heap.size, 0, none⟩ = some v8) /\ (j < 9 -> (w'.cell? ⟨w1.heap.size + 1, 0, none⟩ = some v9 /\ w'.cell? ⟨Bx, 0, none⟩ = some (.int .i64 x.1.1) /\ w'.cell? ⟨Bx, 1, none⟩ = some (.int .i64 x.1.2) /\ w'.heap[Bx + 1]? = some (.cells V 129 (0, 0))))) (by kernel_rfl) (by kernel_rfl) (fun ⟨_, _, h⟩ => h) ?_
  refine tjV 4 v9 (fun w' => (w'.cell? ⟨w1.heap.size + 1, 0, none⟩ = some v9 /\ w'.cell? ⟨Bx, 0, none⟩ = some (.int .i64 x.1.1) /\ w'.cell? ⟨Bx, 1, none⟩ = some (.int .i64 x.1.2) /\ w'.heap[Bx + 1]? = some (.cells V 129 (0, 0)))) (fun j => decide (j < 9)) hsF.2 (fun _ h => ⟨fun h4 h5 _ => absurd rfl h4, fun _ => h⟩) (fun j hj _ h => h.2 (of_decide_eq_true hj)) ?_
  refine tjV 5 (.agg V) (fun w' => (w'.cell? ⟨w1.heap.size + 1, 0, none⟩ = some v9 /\ w'.cell? ⟨Bx, 0, none⟩ = some (.int .i64 x.1.1) /\ w'.cell? ⟨Bx, 1, none⟩ = some (.int .i64 x.1.2) /\ w'.heap[Bx + 1]? = some (.cells V 129 (0, 0)))) (fun j => decide (j < 9)) hsF.2 (fun _ h => ⟨fun h4 h5 _ => absurd rfl h5, fun _ => h⟩) (fun j hj _ h => h.2 (of_decide_eq_true hj)) ?_ (hy := by intro w9 h; exact exec_load_row 129 _ rfl (Bx + 1) rfl 129 V (0, 0) _ h.2.2.2 Tryz.underlying129 (by rfl) hinf)
  refine tjV 0 v8 (fun w' => (w'.cell? ⟨w1.heap.size, 0, none⟩ = some v8 /\ w'.cell? ⟨w1.heap.size + 1, 0, none⟩ = some v9 /\ w'.cell? ⟨Bx, 0, none⟩ = some (.int .i64 x.1.1) /\ w'.cell? ⟨Bx, 1, none⟩ = some (.int .i64 x.1.2) /\ w'.heap[Bx + 1]? = some (.cells V 129 (0, 0)))) (fun j => decide (j ≠ 4 /\ j ≠ 5 /\ j < 8)) hsF (fun _ h => ⟨fun _ _ _ => h.1, fun _ => h.2⟩) (fun j hj _ h => have h9 := of_decide_eq_true hj; ⟨h.1 h9.1 h9.2.1 h9.2.2, h.2 (by omega)⟩) ?_
  refine tjV 1 (.agg #[.int .i64 x.1.1, .int .i64 x.1.2]) (fun w' => (w'.cell? ⟨w1.heap.size, 0, none⟩ = some v8 /\ w'.cell? ⟨w1.heap.size + 1, 0, none⟩ = some v9 /\ w'.cell? ⟨Bx, 0, none⟩ = some (.int .i64 x.1.1) /\ w'.cell? ⟨Bx, 1, none⟩ = some (.int .i64 x.1.2) /\ w'.heap[Bx + 1]? = some (.cells V 129 (0, 0)))) (fun j => decide (j ≠ 4 /\ j ≠ 5 /\ j < 8)) hsF (fun _ h => ⟨fun _ _ _ => h.1, fun _ => h.2⟩) (fun j hj _ h => have h9 := of_decide_eq_true hj; ⟨h.1 h9.1 h9.2.1 h9.2.2, h.2 (by omega)⟩) ?_
  --BODY9<<
  obtain ⟨wd, hwd⟩ : ∃ W9, W.drew = W9 := ⟨_, rfl⟩
  rw [hwd]
  rw [hwd] at hr0
  clear hsF
  refine tjB 2 6 (fun K hK => ?_) (fun K hK => ?_)
  go_simp
  have hr1 := hr0.alloc (.cells #[.int .i64 x.1.1, .int .i64 x.1.2] 23)
  have hn1 := Blk.new wd 23 #[.int .i64 x.1.1, .int .i64 x.1.2]
  refine hK.out _ _ ⟨fun _ _ _ => hr1.b8.c0, fun _ => ⟨hr1.b9.c0, hr1.c.cell 0, hr1.c.cell 1, hr1.x⟩⟩ ?_
  clear hK K
  try simp only [Act.put, List.setIfInBounds_toArray, List.set_cons_zero, List.set_cons_succ]
  generalize hX1 : wd.alloc (.cells #[.int .i64 x.1.1, .int .i64 x.1.2] 23) = X1 at *
  generalize hk1 : wd.heap.size = k1 at *
  refine tjB 3 6 (fun K hK => ?_) (fun K hK => ?_)
  have hzz2 := hr1.sz
  refine step_append_lies _ (by rfl) _ _ _ (by rfl) (w1.heap.size + 3) 23 i8 _ 2 16 Tryz.underlying44 hi8 hz8 hs8 hb8 rfl (by omega) v8 pre.length (prs (pairsOf pre)) (by rfl) hr1.r8 ⟨k1, 0, none⟩ 1 1 [.int .i64 x.1.1, .int .i64 x.1.2] (by rfl) (by rfl) (World.news_of_block (cs := #[.int .i64 x.1.1, .int .i64 x.1.2]) (t := 23) (fr := (0, 0)) hn1) (by simp [Value.oneCell']) (by omega) (by unfold maxLen; omega) (by omega) (by omega) X1.heap.size rfl ?_
  intro g2 c2 X2 ho2 hg2 hat2 hlt2
  have hr2 := hr1.grow8 ho2 hg2 hap.1
  refine hK.out _ _ ⟨fun _ _ _ => hr2.b8.c0, fun _ => ⟨hr2.b9.c0, hr2.c.cell 0, hr2.c.cell 1, hr2.x⟩⟩ ?_
  clear hK K
  try simp only [Act.put, List.setIfInBounds_toArray, List.set_cons_zero, List.set_cons_succ]
  refine tjC 6 (fun K hK => ?_)
  refine step_build_one (by rfl) 152 129 _ (by rfl) i9 V Z (by rfl) Tryz.underlying152 hi9 hz9 (hs9.trans hVs.symm) (hZs.trans hVs.symm) (by omega) (by omega) ?_
  have hr3 := hr2.alloc (.cells V 129)
  have hn3 := Blk.new X2 129 V
  refine hK.out _ _ ⟨fun _ _ _ => hr3.b8.c0, fun _ => ⟨hr3.b9.c0, hr3.c.cell 0, hr3.c.cell 1, hr3.x⟩⟩ ?_
  clear hK K
  try simp only [Act.put, List.setIfInBounds_toArray, List.set_cons_zero, List.set_cons_succ]
  generalize hX3 : X2.alloc (.cells V 129) = X3 at *
  generalize hk3 : X2.heap.size = k3 at *
  refine tjC 7 (fun K hK => ?_)
  have hzz4 := hr3.sz
  refine step_append_lies _ (by rfl) _ _ _ (by rfl) (w1.heap.size + 3) 129 i9 _ 65 520 Tryz.underlying152 hi9 hz9 hs9 hb9 (by rw [Value.cells]; exact hZs) (by omega) v9 pre.length (shpL L (wvP L pre)) (by rfl) hr3.r9 ⟨k3, 0, none⟩ 1 1 V.toList (by rfl) (by rw [Array.length_toList, hVs]) (World.news_of_block (cs := V) (t := 129) (fr := (0, 0)) hn3) hone (by omega) (by unfold maxLen; omega) (by omega) (by omega) X3.heap.size rfl ?_
  intro g4 c4 X4 ho4 hg4 hat4 hlt4
  have hr4 := hr3.grow9 ho4 hg4 hap.2
  refine hK.out _ _ ⟨fun _ _ _ => hr4.b8.c0, fun _ => ⟨hr4.b9.c0, hr4.c.cell 0, hr4.c.cell 1, hr4.x⟩⟩ ?_
  clear hK K
  try simp only [Act.put, List.setIfInBounds_toArray, List.set_cons_zero, List.set_cons_succ]
  refine tjC 8 (fun K hK => ?_)
  have ha5 := hr4.b8.c0
  have hf5 := hr4.b8.free 0
  go_simp
  have hr5 := hr4.store8 hBx (.slice (some ⟨g2, 0, none⟩) (pre.length + 1) c2)
  refine hK.out _ _ ⟨fun _ _ h => absurd h (by decide), fun _ => ⟨hr5.b9.c0, hr5.c.cell 0, hr5.c.cell 1, hr5.x⟩⟩ ?_
  clear hK K
  try simp only [Act.put, List.setIfInBounds_toArray, List.set_cons_zero, List.set_cons_succ]
  refine tjC 9 (fun K hK => ?_)
  have ha6 := hr5.b9.c0
  have hf6 := hr5.b9.free 0
  go_simp
  have hr6 := hr5.store9 hBx (.slice (some ⟨g4, 0, none⟩) (pre.length + 1) c4)
  refine hK.out _ _ ⟨fun _ _ h => absurd h (by decide), fun h => absurd h (by decide)⟩ ?_
  clear hK K
  try simp only [Act.put, List.setIfInBounds_toArray, List.set_cons_zero, List.set_cons_succ]
  refine wpAnyJ_done (by kernel_rfl) ?_ _
  exact ⟨hr6.k.from _, ⟨hr6.fam, hr6.be.size⟩, ⟨_, _, ⟨hr6.b8, by rw [hp2, hl2]; exact hr6.r8, hr6.b9, by rw [hp3, hl2]; exact hr6.r9⟩⟩, hB.trans hr6.be, Nat.le_trans hs hr6.be.size⟩
  refine step_build_one (by rfl) 152 129 _ (by rfl) i9 V Z (by rfl) Tryz.underlying152 hi9 hz9 (hs9.trans hVs.symm) (hZs.trans hVs.symm) (by omega) (by omega) ?_
  have hr7 := hr1.alloc (.cells V 129)
  have hn7 := Blk.new X1 129 V
  refine hK.out _ _ ⟨fun _ _ _ => hr7.b8.c0, fun _ => ⟨hr7.b9.c0, hr7.c.cell 0, hr7.c.cell 1, hr7.x⟩⟩ ?_
  clear hK K
  try simp only [Act.put, List.setIfInBounds_toArray, List.set_cons_zero, List.set_cons_succ]
  have hm7 := hn1.alloc (.cells V 129)
  generalize hX7 : X1.alloc (.cells V 129) = X7 at *
  generalize hk7 : X1.heap.size = k7 at *
  refine tjC 3 (fun K hK => ?_)
  have hzz8 := hr7.sz
  refine step_append_lies _ (by rfl) _ _ _ (by rfl) (w1.heap.size + 3) 23 i8 _ 2 16 Tryz.underlying44 hi8 hz8 hs8 hb8 rfl (by omega) v8 pre.length (prs (pairsOf pre)) (by rfl) hr7.r8 ⟨k1, 0, none⟩ 1 1 [.int .i64 x.1.1, .int .i64 x.1.2] (by rfl) (by rfl) (World.news_of_block (cs := #[.int .i64 x.1.1, .int .i64 x.1.2]) (t := 23) (fr := (0, 0)) hm7) (by simp [Value.oneCell']) (by omega) (by unfold maxLen; omega) (by omega) (by omega) X7.heap.size rfl ?_
  intro g8 c8 X8 ho8 hg8 hat8 hlt8
  have hr8 := hr7.grow8 ho8 hg8 hap.1
  have hm8 := hn7.kept hg8 (own_ne_blk hr7.r8 hn7 (by decide))
  refine hK.out _ _ ⟨fun _ _ _ => hr8.b8.c0, fun _ => ⟨hr8.b9.c0, hr8.c.cell 0, hr8.c.cell 1, hr8.x⟩⟩ ?_
  clear hK K
  try simp only [Act.put, List.setIfInBounds_toArray, List.set_cons_zero, List.set_cons_succ]
  refine tjC 7 (fun K hK => ?_)
  have hzz9 := hr8.sz
  refine step_append_lies _ (by rfl) _ _ _ (by rfl) (w1.heap.size + 3) 129 i9 _ 65 520 Tryz.underlying152 hi9 hz9 hs9 hb9 (by rw [Value.cells]; exact hZs) (by omega) v9 pre.length (shpL L (wvP L pre)) (by rfl) hr8.r9 ⟨k7, 0, none⟩ 1 1 V.toList (by rfl) (by rw [Array.length_toList, hVs]) (World.news_of_block (cs := V) (t := 129) (fr := (0, 0)) hm8) hone (by omega) (by unfold maxLen; omega) (by omega) (by omega) X8.heap.size rfl ?_
  intro g9 c9 X9 ho9 hg9 hat9 hlt9
  have hr9 := hr8.grow9 ho9 hg9 hap.2
  refine hK.out _ _ ⟨fun _ _ _ => hr9.b8.c0, fun _ => ⟨hr9.b9.c0, hr9.c.cell 0, hr9.c.cell 1, hr9.x⟩⟩ ?_
  clear hK K
  try simp only [Act.put, List.setIfInBounds_toArray, List.set_cons_zero, List.set_cons_succ]
  refine tjC 8 (fun K hK => ?_)
  have ha10 := hr9.b8.c0
  have hf10 := hr9.b8.free 0
  go_simp
  have hr10 := hr9.store8 hBx (.slice (some ⟨g8, 0, none⟩) (pre.length + 1) c8)
  refine hK.out _ _ ⟨fun _ _ h => absurd h (by decide), fun _ => ⟨hr10.b9.c0, hr10.c.cell 0, hr10.c.cell 1, hr10.x⟩⟩ ?_
  clear hK K
  try simp only [Act.put, List.setIfInBounds_toArray, List.set_cons_zero, List.set_cons_succ]
  refine tjC 9 (fun K hK => ?_)
  have ha11 := hr10.b9.c0
  have hf11 := hr10.b9.free 0
  go_simp
  have hr11 := hr10.store9 hBx (.slice (some ⟨g9, 0, none⟩) (pre.length + 1) c9)
  refine hK.out _ _ ⟨fun _ _ h => absurd h (by decide), fun h => absurd h (by decide)⟩ ?_
  clear hK K
  try simp only [Act.put, List.setIfInBounds_toArray, List.set_cons_zero, List.set_cons_succ]
  refine wpAnyJ_done (by kernel_rfl) ?_ _
  exact ⟨hr11.k.from _, ⟨hr11.fam, hr11.be.size⟩, ⟨_, _, ⟨hr11.b8, by rw [hp2, hl2]; exact hr11.r8, hr11.b9, by rw [hp3, hl2]; exact hr11.r9⟩⟩, hB.trans hr11.be, Nat.le_trans hs hr11.be.size⟩
  refine step_build_one (by rfl) 152 129 _ (by rfl) i9 V Z (by rfl) Tryz.underlying152 hi9 hz9 (hs9.trans hVs.symm) (hZs.trans hVs.symm) (by omega) (by omega) ?_
  have hr12 := hr0.alloc (.cells V 129)
  have hn12 := Blk.new wd 129 V
  refine hK.out _ _ ⟨fun _ _ _ => hr12.b8.c0, fun _ => ⟨hr12.b9.c0, hr12.c.cell 0, hr12.c.cell 1, hr12.x⟩⟩ ?_
  clear hK K
  try simp only [Act.put, List.setIfInBounds_toArray, List.set_cons_zero, List.set_cons_succ]
  generalize hX12 : wd.alloc (.cells V 129) = X12 at *
  generalize hk12 : wd.heap.size = k12 at *
  refine tjC 2 (fun K hK => ?_)
  go_simp
  have hr13 := hr12.alloc (.cells #[.int .i64 x.1.1, .int .i64 x.1.2] 23)
  have hn13 := Blk.new X12 23 #[.int .i64 x.1.1, .int .i64 x.1.2]
  refine hK.out _ _ ⟨fun _ _ _ => hr13.b8.c0, fun _ => ⟨hr13.b9.c0, hr13.c.cell 0, hr13.c.cell 1, hr13.x⟩⟩ ?_
  clear hK K
  try simp only [Act.put, List.setIfInBounds_toArray, List.set_cons_zero, List.set_cons_succ]
  generalize hX13 : X12.alloc (.cells #[.int .i64 x.1.1, .int .i64 x.1.2] 23) = X13 at *
  generalize hk13 : X12.heap.size = k13 at *
  have hm13 := hn12.alloc (.cells #[.int .i64 x.1.1, .int .i64 x.1.2] 23)
  rw [hX13] at hm13
  refine tjC 3 (fun K hK => ?_)
  have hzz14 := hr13.sz
  refine step_append_lies _ (by rfl) _ _ _ (by rfl) (w1.heap.size + 3) 23 i8 _ 2 16 Tryz.underlying44 hi8 hz8 hs8 hb8 rfl (by omega) v8 pre.length (prs (pairsOf pre)) (by rfl) hr13.r8 ⟨k13, 0, none⟩ 1 1 [.int .i64 x.1.1, .int .i64 x.1.2] (by rfl) (by rfl) (World.news_of_block (cs := #[.int .i64 x.1.1, .int .i64 x.1.2]) (t := 23) (fr := (0, 0)) hn13) (by simp [Value.oneCell']) (by omega) (by unfold maxLen; omega) (by omega) (by omega) X13.heap.size rfl ?_
  intro g14 c14 X14 ho14 hg14 hat14 hlt14
  have hr14 := hr13.grow8 ho14 hg14 hap.1
  have hm14 := hm13.kept hg14 (own_ne_blk hr13.r8 hm13 (by decide))
  refine hK.out _ _ ⟨fun _ _ _ => hr14.b8.c0, fun _ => ⟨hr14.b9.c0, hr14.c.cell 0, hr14.c.cell 1, hr14.x⟩⟩ ?_
  clear hK K
  try simp only [Act.put, List.setIfInBounds_toArray, List.set_cons_zero, List.set_cons_succ]
  refine tjC 7 (fun K hK => ?_)
  have hzz15 := hr14.sz
  refine step_append_lies _ (by rfl) _ _ _ (by rfl) (w1.heap.size + 3) 129 i9 _ 65 520 Tryz.underlying152 hi9 hz9 hs9 hb9 (by rw [Value.cells]; exact hZs) (by omega) v9 pre.length (shpL L (wvP L pre)) (by rfl) hr14.r9 ⟨k12, 0, none⟩ 1 1 V.toList (by rfl) (by rw [Array.length_toList, hVs]) (World.news_of_block (cs := V) (t := 129) (fr := (0, 0)) hm14) hone (by omega) (by unfold maxLen; omega) (by omega) (by omega) X14.heap.size rfl ?_
  intro g15 c15 X15 ho15 hg15 hat15 hlt15
  have hr15 := hr14.grow9 ho15 hg15 hap.2
  refine hK.out _ _ ⟨fun _ _ _ => hr15.b8.c0, fun _ => ⟨hr15.b9.c0, hr15.c.cell 0, hr15.c.cell 1, hr15.x⟩⟩ ?_
  clear hK K
  try simp only [Act.put, List.setIfInBounds_toArray, List.set_cons_zero, List.set_cons_succ]
  refine tjC 8 (fun K hK => ?_)
  have ha16 := hr15.b8.c0
  have hf16 := hr15.b8.free 0
  go_simp
  have hr16 := hr15.store8 hBx (.slice (some ⟨g14, 0, none⟩) (pre.length + 1) c14)
  refine hK.out _ _ ⟨fun _ _ h => absurd h (by decide), fun _ => ⟨hr16.b9.c0, hr16.c.cell 0, hr16.c.cell 1, hr16.x⟩⟩ ?_
  clear hK K
  try simp only [Act.put, List.setIfInBounds_toArray, List.set_cons_zero, List.set_cons_succ]
  refine tjC 9 (fun K hK => ?_)
  have ha17 := hr16.b9.c0
  have hf17 := hr16.b9.free 0
  go_simp
  have hr17 := hr16.store9 hBx (.slice (some ⟨g15, 0, none⟩) (pre.length + 1) c15)
  refine hK.out _ _ ⟨fun _ _ h => absurd h (by decide), fun h => absurd h (by decide)⟩ ?_
  clear hK K
  try simp only [Act.put, List.setIfInBounds_toArray, List.set_cons_zero, List.set_cons_succ]
  refine wpAnyJ_done (by kernel_rfl) ?_ _
  exact ⟨hr17.k.from _, ⟨hr17.fam, hr17.be.size⟩, ⟨_, _, ⟨hr17.b8, by rw [hp2, hl2]; exact hr17.r8, hr17.b9, by rw [hp3, hl2]; exact hr17.r9⟩⟩, hB.trans hr17.be, Nat.le_trans hs hr17.be.size⟩
  --BODY9>>
  -->>
 case done =>
  rintro Dd ys' W hD rfl ⟨⟨v8, v9, hF⟩, hB, hs⟩ hK
  generalize hlp : ptsAll L a c (d - c + 1).toNat (b - a + 1).toNat = l at *
  have HLP := Lib.hid hlp
  clear hlp
  obtain ⟨a8, e8, hv8, -⟩ := own_cells hF.r8
  obtain ⟨a9, e9, hv9, -⟩ := own_cells hF.r9
  subst hv8; subst hv9
  have c8 := hF.b8.c0
  have c9 := hF.b9.c0
  have hl4 : l.length <= 400 := HL4.out
  have hmk := fun W => run_make_slices (n := l.length) (z := (l.length : Int)) rfl (by omega) W
  obtain ⟨Z0, hZ0⟩ : ∃ Z0, (List.replicate l.length (Value.slice none 0 0)).toArray = Z0 := ⟨_, rfl⟩
  rw [hZ0] at hmk
  have hal := (Below.refl W.heap.size W).alloc (Nat.le_refl _) (.cells Z0 24)
  have d9 := cell_keep c9 hal (Nat.le_refl _)
  have hZb := Blk.new W 24 Z0
  have hc9 := (own_cells hF.r9)
  obtain ⟨a9', e9', h9', hcc9⟩ := hc9
  obtain ⟨rfl, -, rfl⟩ := Value.slice.inj h9'
  have hc8 := (own_cells hF.r8)
  obtain ⟨a8', e8', h8', hcc8⟩ := hc8
  obtain ⟨rfl, -, rfl⟩ := Value.slice.inj h8'
  have hCW := (hB.block C (Array.getElem?_eq_some_iff.1 HCC.out).1).trans HCC.out
  have hfm := fam_true HF.out
  obtain ⟨-, -, hn6, hm6, hnm, -⟩ := barS_some hbs0
  have hkk : ∀ ws, Below W.heap.size W ws -> ws.cell? ⟨w1.heap.size, 0, none⟩ = some (.slice a8 l.length e8) /\ Cells ws a8 (prs (pairsOf l)) /\ ws.cell? ⟨w1.heap.size + 1, 0, none⟩ = some (.slice a9 l.length e9) /\ Cells ws a9 (shpL L (wvP L l)) /\ ws.cell? ⟨C, 6, none⟩ = some (.int .i64 n) /\ ws.cell? ⟨C, 7, none⟩ = some (.int .i64 m) := fun ws h =>
   ⟨cell_keep c8 h (Nat.le_refl _), hcc8.below h (Nat.le_refl _), cell_keep c9 h (Nat.le_refl _), hcc9.below h (Nat.le_refl _), cell_keep ((cell_of_row W _ 6 _ _ _ hCW).trans rfl) h (Nat.le_refl _), cell_keep ((cell_of_row W _ 7 _ _ _ hCW).trans rfl) h (Nat.le_refl _)⟩
  have hWW : Below w.heap.size w W := HBW.out.trans (hB.mono (by have := HBW.out.size; omega))
  have hbB : w1.heap.size + 1 < W.heap.size := by omega
  have HGG : Hid (∀ b, b < l.length -> ∃ row, (svM n m L l l)[b]? = some row /\ row.length = l.length /\ rowAt (svM n m L l l) b = row) := Lib.hid fun b h => svM_row h
  have HSF : Hid (∀ mm : List Bool, mm.length = l.length -> ((bestTo (svM n m L l l) mm l.length).2 = 0 ↔ mm.count true = 0)) := Lib.hid fun mm h => by
   rw [<- h]
   exact most_zero fun a ha => svM_self (by omega) (by omega)
  have HRS : Hid (bldO n m L l = grd (svM n m L l l) l.length 65 (List.replicate l.length true) []) := Lib.hid (by unfold bldO; rw [List.map_const'])
  have HKK := Lib.hid hkk; have HZB := Lib.hid hZb; have HWW := Lib.hid hWW; have HDD := Lib.hid hK; have HAL := Lib.hid hal
  have HL1 := Lib.hid (show 1 <= L by omega); have HL64 := Lib.hid (show L <= 64 by omega)
  clear hkk hZb hWW hK hal hcc9 hcc8 hCW hfm hF c8
  go_wp2_with fail
  clear c9
  have hw4 : W.heap.size < (W.alloc (.cells Z0 24)).heap.size := by simp
  generalize W.alloc (.cells Z0 24) = W4 at *
  clear d9 hmk
  refine build_loop1 n m L l (svM n m L l l) W.heap.size (w1.heap.size + 1) C a9 e9 W4 _ _ _ _ _ _ _ _ _ _ _ _ _ _ _ _ _ _ _ _ _ _ _ _ _ _ _ _ _ _ _ _ _ _ _ _ _ _ _ _ _ _ _ _ _ _ _ _ _ _ _ _ _ _ _ _ _ _ _ _ _ _ _ _ _ _ _ _ _ _ _ _ _ _ _ _ _ _ _ _ _ _ _ _ _ _ _ _ _ _ _ _ _ _ _ _ _ _ _ _ _ _ _ _ _ _ _ _ _ _ _ _ _ _ _ _ _ _ _ _ _ _ _ _ _ _ _ _ _ _ _ _ _ _ _ _ _ _ _ _ _ _ _ _ _ _ _ _ rfl HL1.out HL64.out (by omega) (by omega) hl4 hw4 (Lib.hid fun ws h => (HKK.out ws (HAL.out.trans h)).2.2) (by rw [hZ0]; exact HZB) ?_
  intro a' w5 hx
  unfold Loop1X at hx
  obtain ⟨⟨vs, hb5, hv5, hr5⟩, hbe5, v13, v14, v15, v16, v17, v18, v56, v57, v58, v59, v60, v61, v62, v63, v64, v65, v66, v67, v68, v69, v70, v71, v72, v73, v74, v75, v76, v77, v78, v79, v80, v81, v82, v83, v84, v85, v86, v87, v88, v89, v90, rfl⟩ := hx
  have hdd5 := (hbe5.block Dd (by have := (Array.getElem?_eq_some_iff.1 HDD.out).1; omega)).trans ((HAL.out.block Dd (Array.getElem?_eq_some_iff.1 HDD.out).1).trans HDD.out)
  have hb05 := HAL.out.trans hbe5
  have hmm := @run_makeMap Tryz.prog
  have hal6 := (Below.refl w5.heap.size w5).alloc (Nat.le_refl _) (.map #[] 0)
  have z9 := ((HKK.out _ (hb05.trans (hal6.mono hb05.size))).2.2.1)
  have hk6 : ∀ ws, Below w5.heap.size w5 ws -> ws.cell? ⟨w1.heap.size, 0, none⟩ = some (.slice a8 l.length e8) /\ Cells ws a8 (prs (pairsOf l)) /\ ws.cell? ⟨w1.heap.size + 1, 0, none⟩ = some (.slice a9 l.length e9) /\ Blk ws W.heap.size 24 vs.toArray /\ RowsOf ws W.heap.size 3 vs (ixC (svM n m L l l) l.length) := fun ws h => by
   obtain ⟨h1, h2, h3, -⟩ := HKK.out ws (hb05.trans (h.mono hb05.size))
   exact ⟨h1, h2, h3, hb5.below h hb5.lt, hr5.below h (Nat.le_refl _)⟩
  have HDD5 := Lib.hid hdd5; have HB05 := Lib.hid hb05; have HAL6 := Lib.hid hal6; have HK6 := Lib.hid hk6; have HV5 := Lib.hid hv5
  have hM6 := World.ownsMap_made w5 Tryz.prog 3 (plainElem (H := Unit) Tryz.prog 4)
  have HM6 := Lib.hid hM6
  clear hdd5 hb05 hal6 hk6 hv5 hb5 hr5 hbe5 hM6
  dsimp only
  go_wp2_with fail
  have hsz6 : (w5.alloc (.map #[] 0)).heap.size = w5.heap.size + 1 := by simp
  generalize w5.alloc (.map #[] 0) = W6 at *
  clear z9 hmm
  refine build_loop3 l.length w5.heap.size W6 _ _ _ _ _ _ _ _ _ _ _ _ _ _ _ _ _ _ _ _ _ _ _ _ _ _ _ _ _ _ _ _ _ _ _ _ _ _ _ _ _ _ _ _ _ _ _ _ _ _ _ _ _ _ _ _ _ _ _ _ _ _ _ _ _ _ _ _ _ _ _ _ _ _ _ _ _ _ _ _ _ _ _ _ _ _ _ _ _ _ _ _ _ _ _ _ _ _ _ _ _ _ _ _ _ _ _ _ _ _ _ _ _ _ _ _ _ _ _ _ _ _ _ _ _ _ _ _ _ _ _ _ _ _ _ _ _ _ _ _ _ _ _ _ _ _ _ _ _ _ _  hl4 HM6 ?_
  intro a' w7 hx
  unfold Loop3X at hx
  obtain ⟨hD7, hbe7, v20, v94, v95, v96, v97, v98, v99, rfl⟩ := hx
  have hb67 := HAL6.out.trans hbe7
  have hsz7 := hbe7.size
  have HD7 := Lib.hid hD7; have HB67 := Lib.hid hb67
  clear hD7 hbe7 hb67
  dsimp only
  go_wp2_with fail
  go_step3
  go_wp2_with fail
  refine build_loop4 l (svM n m L l l) (bldO n m L l) vs W.heap.size w5.heap.size w1.heap.size (w1.heap.size + 1) a8 a9 e8 e9 w7 _ _ _ _ _ _ _ _ _ _ _ _ _ _ _ _ _ _ _ _ _ _ _ _ _ _ _ _ _ _ _ _ _ _ _ _ _ _ _ _ _ _ _ _ _ _ _ _ _ _ _ _ _ _ _ _ _ _ _ _ _ _ _ _ _ _ _ _ _ _ _ _ _ _ _ _ _ _ _ _ _ _ _ _ _ _ _ _ _ _ _ _ _ _ _ _ _ _ _ _ _ _ _ _ _ _ _ _ _ _ _ _ _ _ _ _ _ _ _ _ _ _ _ _ _ _ _ _ _ _ _ _ _ _ _ _ _ _ _ _ _ _ _ _ _ _ _ _ _  hl4 (by have := HB67.out.size; have := HAL6.out.size; omega) HV5.out HGG HSF HRS (Lib.hid fun ws h => HK6.out ws (HB67.out.trans h)) HD7 ?_ ?_
  · intro a' w8 hx
    unfold Loop4B at hx
    obtain ⟨hbe8, out, ov, hres, ho64, how, x4, x5, x22, x23, x24, x25, x26, x27, x28, x29, x100, x101, x102, x103, x104, x105, x106, x107, x108, x109, x110, x111, x112, x113, x114, x115, x116, x117, x118, x119, x120, x121, x122, x123, x124, x125, x126, x127, x128, x129, x130, x131, x132, x133, x134, x135, x136, x137, x138, x139, x140, x141, x142, x143, x144, x145, x146, x147, x148, x149, x150, rfl⟩ := hx
    have hdd8 := ((HB67.out.trans hbe8).block Dd (by have := (Array.getElem?_eq_some_iff.1 HDD.out).1; have := HAL.out.size; have := HB05.out.size; omega)).trans HDD5.out
    have hb8 := HWW.out.trans ((HB05.out.trans ((HB67.out.trans hbe8).mono HB05.out.size)).mono HWW.out.size)
    obtain ⟨oa, oc, rfl, hoc, hon, hom⟩ := own_cap how
    have hdl : Dd < w8.heap.size := (Array.getElem?_eq_some_iff.1 hdd8).1
    have hgp := grownBy_putObj' w8 Dd (.deferred none)
    have hfin := hb8.trans (belowK_b (w := w) (Nat.le_refl _) w8 Dd _ (.deferred none) (by omega) hdd8 rfl rfl)
    dsimp only
    have hpl : (pick (pairsOf l) out).length = out.length := List.length_map _
    have hmx : maxLen = 9223372036854775807 := rfl
    obtain ⟨a', c', h1, hcells⟩ := own_cells (own_keptF how hgp (fun r e => by cases e; exact ⟨_, hdd8, rfl⟩))
    obtain ⟨rfl, -, rfl⟩ := Value.slice.inj h1
    have HCE := Lib.hid hcells; have HFIN := Lib.hid hfin; have HPL := Lib.hid hpl; have HRES := Lib.hid hres; have HD8 := Lib.hid hdd8
    clear hcells hfin hpl hres how hoc hgp hb8 hbe8 hdd8 h1
    go_wp2_with fail
    rw [Exit.noGoto_ret]
    refine ⟨by simp, .inl ⟨_, _, rfl, run_takeDeferred HD8.out, ?_⟩⟩
    refine ⟨.tuple #[.slice oa out.length oc, .int .i64 0], ?_, ⟨oa, oc, ?_, ?_, ?_, by omega⟩, HFIN.out⟩
    · simp [results, Tryz.f19, go_sem]
    · rw [HLP.out, HRES.out]
      show _ = Ending.returned (.tuple #[.slice oa (pick (pairsOf l) out).length oc, .int .i64 0])
      rw [HPL.out]
    · rw [HLP.out, HRES.out]; exact HCE.out
    · rw [HLP.out, HRES.out]
      show (pick (pairsOf l) out).length <= oc
      rw [HPL.out]; exact hon
  · intro a' w8 hx
    unfold Loop4R at hx
    obtain ⟨hbe8, hres, ov, x22, x23, x24, x25, x26, x27, x28, x29, x100, x101, x102, x103, x104, x105, x106, x107, x108, x109, x110, x111, x112, x113, x114, x115, x116, x117, x118, x119, x120, x121, x122, x123, x124, x125, x126, x127, x128, x129, x130, x131, x132, x133, x134, x135, x136, x137, x138, x139, x140, x141, x142, x143, x144, x145, x146, x147, x148, x149, x150, rfl⟩ := hx
    have hdd8 := ((HB67.out.trans hbe8).block Dd (by have := (Array.getElem?_eq_some_iff.1 HDD.out).1; have := HAL.out.size; have := HB05.out.size; omega)).trans HDD5.out
    have hb8 := HWW.out.trans ((HB05.out.trans ((HB67.out.trans hbe8).mono HB05.out.size)).mono HWW.out.size)
    have hdl : Dd < w8.heap.size := (Array.getElem?_eq_some_iff.1 hdd8).1
    have hgp := grownBy_putObj' w8 Dd (.deferred none)
    have hfin := hb8.trans (belowK_b (w := w) (Nat.le_refl _) w8 Dd _ (.deferred none) (by omega) hdd8 rfl rfl)
    have HFIN := Lib.hid hfin; have HRES := Lib.hid hres; have HD8 := Lib.hid hdd8
    clear hfin hres hgp hb8 hbe8 hdd8
    dsimp only
    go_wp2_with fail
    rw [Exit.noGoto_ret]
    refine ⟨by simp, .inl ⟨_, _, rfl, run_takeDeferred HD8.out, ?_⟩⟩
    refine ⟨.tuple #[.slice none 0 0, .int .i64 3], ?_, ⟨none, 0, ?_, ?_, ?_, by decide⟩, HFIN.out⟩
    · simp [results, Tryz.f19, go_sem]
    · rw [HLP.out, HRES.out]; rfl
    · rw [HLP.out, HRES.out]; exact Cells.nil _ _
    · rw [HLP.out, HRES.out]; exact Nat.le_refl _
 case stop =>
  rintro Dd cc pre W hD hpre h _
  exact h.elim
end Go.Proofs.YtdpjdifoonfcdaaGreatDoor

namespace Go.Proofs.YtdpjdifoonfcdaaGreatDoor
open Go.RowKit Go.Shelf
set_option maxRecDepth 1000000 in
set_option maxHeartbeats 2000000 in
theorem Build_bad (L a b c d : Int) (s : ByteArray) (w : World) (ht : Tab w) (hs : s.size <= 140737488351232) (hE0 : covE L a b c d [] s ≠ 0) :
 Calls Tryz.prog 19 #[.agg #[.int .i64 L, .int .i64 a, .int .i64 b, .int .i64 c, .int .i64 d], .string s] w fun e w' => (∃ ao co, e = .returned (.tuple #[.slice ao (buiR L a b c d s).length co, .int .i64 (buiE L a b c d s)]) /\ Cells w' ao (prs (buiR L a b c d s)) /\ (buiR L a b c d s).length <= co /\ co <= 9223372036854775807) /\ Below w.heap.size w w' := by
 obtain ⟨h1, h2⟩ := bui_no hE0
 rw [h1, h2]
 obtain ⟨W0, hW0⟩ : ∃ W0, w.alloc (.cells #[.int .i64 L, .int .i64 a, .int .i64 b, .int .i64 c, .int .i64 d] 43) = W0 := ⟨_, rfl⟩
 have hB0 : Below w.heap.size w W0 := by rw [<- hW0]; exact (Below.refl _ w).alloc (Nat.le_refl _) _
 have hcv := covering_any L a b c d [] none 0 s W0 (ht.below hB0 (Nat.le_refl _)) hs (Cells.nil _ _) (by simp) (by simp) (by simp)
 rw [List.length_nil] at hcv
 have HW0 := Lib.hid hW0; have HCV := Lib.hid hcv; have HB0 := Lib.hid hB0; have HE0 := Lib.hid hE0
 clear hW0 hcv ht hB0 hE0 h1 h2
 go_enter Tryz.func19, Tryz.ntmps19
 go_wp2_with fail
 apply wp_scope_straight
 go_wp2_with fail
 rw [HW0.out]
 refine HCV.out.mono ?_
 rintro r w1 ⟨⟨hE, -⟩ | ⟨hE, rfl⟩, hb1⟩
 · exact absurd hE HE0.out
 have hbw := HB0.out.trans (hb1.mono HB0.out.size)
 have HBW := Lib.hid hbw
 generalize hvv : covE L a b c d [] s = v at *
 have HVV := Lib.hid hvv
 have hv : (v != 0) = true := by simpa using hE
 clear hvv hb1 hbw
 go_wp2_with fail
 rw [Exit.noGoto_ret]
 go_ret2
 exact ⟨⟨none, 0, by rw [HVV.out]; rfl, Cells.nil _ _, Nat.le_refl _, by decide⟩, HBW.out⟩
end Go.Proofs.YtdpjdifoonfcdaaGreatDoor

namespace Go.Proofs.YtdpjdifoonfcdaaGreatDoor
open Go.RowKit
theorem Build_any (L a b c d : Int) (s : ByteArray) (w : World) (ht : Tab w) (hs : s.size <= 140737488351232) :
 Calls Tryz.prog 19 #[.agg #[.int .i64 L, .int .i64 a, .int .i64 b, .int .i64 c, .int .i64 d], .string s] w fun e w' => (∃ ao co, e = .returned (.tuple #[.slice ao (buiR L a b c d s).length co, .int .i64 (buiE L a b c d s)]) /\ Cells w' ao (prs (buiR L a b c d s)) /\ (buiR L a b c d s).length <= co /\ co <= 9223372036854775807) /\ Below w.heap.size w w' := by
 by_cases hE : covE L a b c d [] s = 0
 · obtain ⟨_, _, n, m, hb⟩ := covE_0 hE
   have h := Build_good n m L a b c d s w ht hs hE hb
   obtain ⟨h1, h2⟩ := bui_yes hE hb
   rw [h1, h2]
   exact h
 · exact Build_bad L a b c d s w ht hs hE
end Go.Proofs.YtdpjdifoonfcdaaGreatDoor

namespace Go.Proofs.YtdpjdifoonfcdaaGreatDoor
open Go.RowKit
theorem mFr_cross {L p q r s : Int} (h : matE L p q r s = 0) : ((mFr L p q r s).1 : Int) * matD L p q r s = matN L p q r s * matN L p q r s * (mFr L p q r s).2 := by
 obtain ⟨h1, h2, h3, h4⟩ := matE_zero h
 have hd := matD_pos h1 h2 h3 h4
 have hn := mat_bd (r := r) (s := s) h1
 have m2 := Int.mul_nonneg hn.1 hn.1
 unfold mFr redI
 simp only
 generalize matN L p q r s * matN L p q r s = n at *
 generalize matD L p q r s = d at *
 obtain ⟨a, rfl⟩ : ∃ a : Nat, n = a := ⟨n.toNat, by omega⟩
 obtain ⟨b, rfl⟩ : ∃ b : Nat, d = b := ⟨d.toNat, by omega⟩
 rw [Int.natAbs_natCast, Int.toNat_natCast, <- Int.natCast_mul, <- Int.natCast_mul]
 congr 1
 have hg : 0 < Nat.gcd a b := Nat.gcd_pos_of_pos_right _ (by omega)
 obtain ⟨x, hx⟩ := Nat.gcd_dvd_left a b
 obtain ⟨y, hy⟩ := Nat.gcd_dvd_right a b
 generalize Nat.gcd a b = g at *
 subst hx; subst hy
 rw [Nat.mul_div_cancel_left _ hg, Nat.mul_div_cancel_left _ hg, <- Nat.mul_assoc, Nat.mul_comm x g]
theorem srv_match {N D : Nat} {L p q r s : Int} (h : matE L p q r s = 0) (hs : (srv N D L.toNat (wav L p q) (wav L r s)).isSome = true) : (N : Int) * (mFr L p q r s).2 <= (mFr L p q r s).1 * D := by
 obtain ⟨h1, h2, h3, h4⟩ := matE_zero h
 have hL := waveOK_true h1
 have hd := matD_pos h1 h2 h3 h4
 have hc := mFr_cross h
 unfold srv fstS at hs
 rw [List.find?_isSome] at hs
 obtain ⟨z, hz, hr⟩ := hs
 obtain ⟨i, hi, rfl⟩ := List.mem_map.1 hz
 rw [List.mem_range] at hi
 rw [mkS_val (by omega) (by omega)] at hr
 unfold rchB at hr
 rw [Bool.and_eq_true, decide_eq_true_eq, decide_eq_true_eq] at hr
 have hge := bestN_ge (wav L p q) (wav L r s) L.toNat (by omega) (1 - (L.toNat : Int) + i) (by omega) (by omega)
 rw [show ((L.toNat : Nat) : Int) = L by omega] at hr hge
 have hN : matN L p q r s = bestN (wav L p q) (wav L r s) L.toNat := rfl
 have hDe : matD L p q r s = ovl (wav L p q) (wav L p q) L 0 * ovl (wav L r s) (wav L r s) L 0 := rfl
 rw [<- hN] at hge
 rw [<- hDe] at hr
 generalize ovl (wav L p q) (wav L r s) L (1 - L + i) = o at *
 generalize matN L p q r s = M at *
 generalize matD L p q r s = E at *
 obtain ⟨r1, r2⟩ := hr
 have k1 : o * o <= M * M := Int.mul_le_mul hge hge (by omega) (by omega)
 have k2 : o * o * (D : Int) <= M * M * D := Int.mul_le_mul_of_nonneg_right k1 (by omega)
 have k3 : E * (N : Int) <= M * M * D := Int.le_trans r2 k2
 generalize (mFr L p q r s).1 = A at *
 generalize (mFr L p q r s).2 = B at *
 refine Int.le_of_mul_le_mul_right (a := E) ?_ (by omega)
 have k4 : E * (N : Int) * B <= M * M * D * B := Int.mul_le_mul_of_nonneg_right k3 (by omega)
 have e1 : (N : Int) * B * E = E * N * B := by rw [Int.mul_comm, Int.mul_assoc]
 have e2 : (A : Int) * D * E = M * M * D * B := by
  rw [Int.mul_assoc, Int.mul_comm (D : Int) E, <- Int.mul_assoc, hc, Int.mul_assoc, Int.mul_comm (B : Int) D, <- Int.mul_assoc]
 rw [e1, e2]
 exact k4
def geF (p q : Nat × Nat) : Prop := (q.1 : Int) * p.2 <= p.1 * q.2
theorem geF_trans {p q r : Nat × Nat} (h1 : geF p q) (h2 : geF q r) (hq : q.2 ≠ 0) : geF p r := by
 unfold geF at *
 refine Int.le_of_mul_le_mul_right (a := (q.2 : Int)) ?_ (by omega)
 have a1 : (r.1 : Int) * q.2 * p.2 <= q.1 * r.2 * p.2 := Int.mul_le_mul_of_nonneg_right h2 (by omega)
 have a2 : (q.1 : Int) * p.2 * r.2 <= p.1 * q.2 * r.2 := Int.mul_le_mul_of_nonneg_right h1 (by omega)
 have e1 : (r.1 : Int) * p.2 * q.2 = r.1 * q.2 * p.2 := by rw [Int.mul_assoc, Int.mul_comm (p.2 : Int), <- Int.mul_assoc]
 have e2 : (q.1 : Int) * r.2 * p.2 = q.1 * p.2 * r.2 := by rw [Int.mul_assoc, Int.mul_comm (r.2 : Int), <- Int.mul_assoc]
 have e3 : (p.1 : Int) * q.2 * r.2 = p.1 * r.2 * q.2 := by rw [Int.mul_assoc, Int.mul_comm (q.2 : Int), <- Int.mul_assoc]
 rw [e1, <- e3]
 rw [e2] at a1
 exact Int.le_trans a1 a2
theorem geF_of_cmp {p q : Nat × Nat} (h : ¬ cmpF p q < 0) : geF p q := by
 unfold cmpF at h
 unfold geF
 split at h
 · omega
 · split at h
   · omega
   · omega
theorem cmp_of_geF {p q : Nat × Nat} (h : geF p q) : 0 <= cmpF p q := by
 unfold geF at h
 unfold cmpF
 split
 · omega
 · rw [if_neg (by omega)]; omega
theorem geF_refl (p : Nat × Nat) : geF p p := by unfold geF; exact Int.le_refl _
theorem geF_gt {p q : Nat × Nat} (h : 0 < cmpF p q) : geF p q := geF_of_cmp (by omega)
theorem geF_le {p q : Nat × Nat} (h : ¬ 0 < cmpF p q) : geF q p := by
 unfold cmpF at h
 unfold geF
 split at h
 · omega
 · split at h
   · omega
   · omega
theorem mostF_ge {L : Int} (x : Pt L) {cs : List (Int × Int)} (h : ∀ c ∈ cs, chOK L c = true) : ∀ c ∈ cs, geF (mostF L x.1 cs) (mFr L x.1.1 x.1.2 c.1 c.2) := by
 unfold mostF
 suffices H : ∀ (cs : List (Int × Int)) (m : Nat × Nat), (∀ c ∈ cs, chOK L c = true) -> FrOK m -> geF (cs.foldl (fun m c => if 0 < cmpF (mFr L x.1.1 x.1.2 c.1 c.2) m then mFr L x.1.1 x.1.2 c.1 c.2 else m) m) m /\ ∀ c ∈ cs, geF (cs.foldl (fun m c => if 0 < cmpF (mFr L x.1.1 x.1.2 c.1 c.2) m then mFr L x.1.1 x.1.2 c.1 c.2 else m) m) (mFr L x.1.1 x.1.2 c.1 c.2) from (H cs _ h fr01).2
 intro cs
 induction cs with
 | nil => intro m _ _; exact ⟨geF_refl _, fun c hc => by cases hc⟩
 | cons c r ih =>
   intro m hc hm
   rw [List.foldl_cons]
   have hf := (mFr_ok (pt_match x (hc c (by simp)))).1
   have hok : FrOK (if 0 < cmpF (mFr L x.1.1 x.1.2 c.1 c.2) m then mFr L x.1.1 x.1.2 c.1 c.2 else m) := by split; exact hf; exact hm
   obtain ⟨i1, i2⟩ := ih _ (fun d hd => hc d (by simp [hd])) hok
   have hstep : geF (if 0 < cmpF (mFr L x.1.1 x.1.2 c.1 c.2) m then mFr L x.1.1 x.1.2 c.1 c.2 else m) m /\ geF (if 0 < cmpF (mFr L x.1.1 x.1.2 c.1 c.2) m then mFr L x.1.1 x.1.2 c.1 c.2 else m) (mFr L x.1.1 x.1.2 c.1 c.2) := by
    split
    · rename_i hp; exact ⟨geF_gt hp, geF_refl _⟩
    · rename_i hp; exact ⟨geF_refl _, geF_le hp⟩
   refine ⟨geF_trans i1 hstep.1 hok.1, fun d hd => ?_⟩
   rcases List.mem_cons.1 hd with h | h
   · rw [h]; exact geF_trans i1 hstep.2 hok.1
   · exact i2 d h
theorem wrsF_is {L : Int} {cs : List (Int × Int)} : ∀ {l : List (Pt L)} {v : Nat × Nat}, wrsF L cs l = some v -> ∃ x ∈ l, v = mostF L x.1 cs := by
 intro l v
 unfold wrsF
 suffices H : ∀ (l : List (Pt L)) (w : Option (Nat × Nat)), (l.foldl (fun w x => match w with | none => some (mostF L x.1 cs) | some v => if cmpF (mostF L x.1 cs) v < 0 then some (mostF L x.1 cs) else some v) w) = some v -> (∃ x ∈ l, v = mostF L x.1 cs) ∨ w = some v from fun h => (H l none h).resolve_right (by simp)
 intro l
 induction l with
 | nil => intro w h; exact .inr h
 | cons x r ih =>
   intro w h
   rw [List.foldl_cons] at h
   rcases ih _ h with ⟨y, hy, e⟩ | h2
   · exact .inl ⟨y, by simp [hy], e⟩
   · cases w with
     | none => exact .inl ⟨x, by simp, (Option.some.inj h2).symm⟩
     | some u =>
       simp only at h2
       split at h2
       · exact .inl ⟨x, by simp, (Option.some.inj h2).symm⟩
       · exact .inr h2
theorem wrs_least {N D : Nat} {L : Int} {cs : List (Int × Int)} {l : List (Pt L)} (hcs : ∀ c ∈ cs, chOK L c = true) (hs : ∀ x ∈ l, (fitP (N : Int) D L (wvs L cs) x).isSome = true) {v : Nat × Nat} (hv : wrsF L cs l = some v) : geF v (N, D) := by
 obtain ⟨x, hx, rfl⟩ := wrsF_is hv
 have h1 := hs x hx
 have hex : ∃ c ∈ cs, (srv (N : Int) D L.toNat (wav L x.1.1 x.1.2) (wav L c.1 c.2)).isSome = true := by
  refine Classical.byContradiction fun hn => ?_
  have : fitF (srv (N : Int) D L.toNat (wav L x.1.1 x.1.2)) (wvs L cs) = none := fitF_none (fun i y hy => by
   obtain ⟨c, hc, rfl⟩ := List.mem_map.1 (List.mem_of_getElem? hy)
   cases he : srv (N : Int) D L.toNat (wav L x.1.1 x.1.2) (wav L c.1 c.2) with
   | none => rfl
   | some u => exact absurd ⟨c, hc, by rw [he]; rfl⟩ hn)
  unfold fitP at h1
  rw [this] at h1
  cases h1
 obtain ⟨c, hc, hsv⟩ := hex
 have hm0 := pt_match x (hcs c hc)
 have h2 := srv_match hm0 hsv
 exact geF_trans (mostF_ge x hcs c hc) h2 (mFr_ok hm0).1.1
end Go.Proofs.YtdpjdifoonfcdaaGreatDoor

namespace Go.Proofs.YtdpjdifoonfcdaaGreatDoor
open Go.RowKit Go.Shelf
def proE (L a b c d : Int) (cs : List (Int × Int)) (s : ByteArray) : Int := if covE L a b c d cs s = 0 then (if misR L a b c d cs s = [] then 0 else 4) else covE L a b c d cs s
def proR (L a b c d : Int) (cs : List (Int × Int)) (s : ByteArray) : List (Int × Int) := if covE L a b c d cs s = 0 /\ misR L a b c d cs s = [] then prfR L a b c d cs s else []
def ProRes (L a b c d : Int) (cs : List (Int × Int)) (s : ByteArray) (w : World) (e : Ending) (w' : World) : Prop :=
 (∃ p cp, e = .returned (.tuple #[.slice p (proR L a b c d cs s).length cp, .int .i64 (proE L a b c d cs s)]) /\ Cells w' p (prs (proR L a b c d cs s))) /\ Below w.heap.size w w'
set_option maxRecDepth 100000 in
set_option maxHeartbeats 2000000 in
theorem Prove_any (L a b c d : Int) (cs : List (Int × Int)) (ao : Option Addr) (cap : Nat) (s : ByteArray) (w : World) (ht : Tab w) (hs : s.size <= 140737488351232) (hc : Cells w ao (prs cs)) (hl : cs.length <= 9223372036854775807) (hcap : cs.length <= cap) (hcap2 : cap <= 9223372036854775807) :
 Calls Tryz.prog 29 #[.agg #[.int .i64 L, .int .i64 a, .int .i64 b, .int .i64 c, .int .i64 d], .slice ao cs.length cap, .string s] w (ProRes L a b c d cs s w) := by
 obtain ⟨W0, hW0⟩ : ∃ W0, w.alloc (.cells #[.int .i64 L, .int .i64 a, .int .i64 b, .int .i64 c, .int .i64 d] 43) = W0 := ⟨_, rfl⟩
 have hB0 : Below w.heap.size w W0 := by rw [<- hW0]; exact (Below.refl _ w).alloc (Nat.le_refl _) _
 have hcv := covering_any L a b c d cs ao cap s W0 (ht.below hB0 (Nat.le_refl _)) hs (hc.below hB0 (Nat.le_refl _)) hl hcap hcap2
 have HW0 := Lib.hid hW0; have HCV := Lib.hid hcv; have HB0 := Lib.hid hB0
 clear hW0 hcv ht hc hB0
 go_enter Tryz.func29, Tryz.ntmps29
 go_wp2_with fail
 rw [HW0.out]
 refine HCV.out.mono ?_
 rintro e w1 ⟨⟨hE, hf, hbk, C, bo, cb, N, D, rfl, hbs, hC, hcs⟩ | ⟨hE, rfl⟩, hb1⟩
 · have hft := fits_cov hE hbs hf hbk hC hcs
   have HFT := Lib.hid hft; have HE := Lib.hid hE
   have hbw := HB0.out.trans (hb1.mono HB0.out.size)
   clear hft hE hf hbk hbs hC hcs hb1
   go_wp2_with fail
   refine HFT.out.mono ?_
   rintro e w2 ⟨⟨p, k, cp, m, cm, rfl, hk, hp, -⟩, hb2⟩
   have hbw2 := hbw.trans (hb2.mono hbw.size)
   have HP := Lib.hid hp; have HKK := Lib.hid hk
   clear hp hb2
   by_cases hm : misR L a b c d cs s = []
   · have h0 : (misR L a b c d cs s).length = 0 := by rw [hm]; rfl
     have hpe : proE L a b c d cs s = 0 := by unfold proE; rw [if_pos HE.out, if_pos hm]
     have hpr : proR L a b c d cs s = prfR L a b c d cs s := by unfold proR; rw [if_pos ⟨HE.out, hm⟩]
     have HPE := Lib.hid hpe; have HPR := Lib.hid hpr
     rw [h0]
     clear hpe hpr hm h0 hk
     go_wp2_with fail
     go_ret2
     exact ⟨⟨p, cp, by rw [HPE.out, HPR.out, HKK.out]; rfl, by rw [HPR.out]; exact HP.out⟩, hbw2⟩
   · have h0 : (0 : Int) < ((misR L a b c d cs s).length : Int) := by
      have : 0 < (misR L a b c d cs s).length := List.length_pos_iff.2 hm
      omega
     have hpe : proE L a b c d cs s = 4 := by unfold proE; rw [if_pos HE.out, if_neg hm]
     have hpr : proR L a b c d cs s = [] := by unfold proR; rw [if_neg (fun h => hm h.2)]
     have HPE := Lib.hid hpe; have HPR := Lib.hid hpr
     clear hpe hpr hm hk
     generalize (misR L a b c d cs s).length = ml at *
     go_wp2_with fail
     go_ret2
     exact ⟨⟨none, 0, by rw [HPE.out, HPR.out]; rfl, by rw [HPR.out]; exact Cells.nil _ _⟩, hbw2⟩
 · have hpe : proE L a b c d cs s = covE L a b c d cs s := by unfold proE; rw [if_neg hE]
   have hpr : proR L a b c d cs s = [] := by unfold proR; rw [if_neg (fun h => hE h.1)]
   have HPE := Lib.hid hpe; have HPR := Lib.hid hpr
   have hbw := HB0.out.trans (hb1.mono HB0.out.size)
   clear hpe hpr hb1
   generalize covE L a b c d cs s = v at *
   have hv : (v != 0) = true := by simpa using hE
   go_wp2_with fail
   go_ret2
   exact ⟨⟨none, 0, by rw [HPE.out, HPR.out]; rfl, by rw [HPR.out]; exact Cells.nil _ _⟩, hbw⟩
end Go.Proofs.YtdpjdifoonfcdaaGreatDoor

namespace Go.Proofs.YtdpjdifoonfcdaaGreatDoor
open Go.RowKit Go.Shelf
def worV (L a b c d : Int) (cs : List (Int × Int)) : ByteArray := if covE L a b c d cs ⟨#[48]⟩ = 0 then worT (wrsF L cs (ptsAll L a c (d - c + 1).toNat (b - a + 1).toNat)) else ⟨#[]⟩
def worX (L a b c d : Int) (cs : List (Int × Int)) : Int := if covE L a b c d cs ⟨#[48]⟩ = 0 then worE (wrsF L cs (ptsAll L a c (d - c + 1).toNat (b - a + 1).toNat)) else covE L a b c d cs ⟨#[48]⟩
set_option maxRecDepth 100000 in
set_option maxHeartbeats 2000000 in
theorem Worst_any (L a b c d : Int) (cs : List (Int × Int)) (ao : Option Addr) (cap : Nat) (w : World) (ht : Tab w) (hc : Cells w ao (prs cs)) (hl : cs.length <= 9223372036854775807) (hcap : cs.length <= cap) (hcap2 : cap <= 9223372036854775807) :
 Calls Tryz.prog 31 #[.agg #[.int .i64 L, .int .i64 a, .int .i64 b, .int .i64 c, .int .i64 d], .slice ao cs.length cap] w fun e w' => e = .returned (.tuple #[.string (worV L a b c d cs), .int .i64 (worX L a b c d cs)]) /\ Below w.heap.size w w' := by
 by_cases hE : covE L a b c d cs ⟨#[48]⟩ = 0
 · have h := Worst_good L a b c d cs ao cap w ht hc hl hcap hcap2 hE
   rw [show worV L a b c d cs = worT (wrsF L cs (ptsAll L a c (d - c + 1).toNat (b - a + 1).toNat)) from if_pos hE, show worX L a b c d cs = worE (wrsF L cs (ptsAll L a c (d - c + 1).toNat (b - a + 1).toNat)) from if_pos hE]
   exact h
 · rw [show worV L a b c d cs = ⟨#[]⟩ from if_neg hE, show worX L a b c d cs = covE L a b c d cs ⟨#[48]⟩ from if_neg hE]
   obtain ⟨W0, hW0⟩ : ∃ W0, w.alloc (.cells #[.int .i64 L, .int .i64 a, .int .i64 b, .int .i64 c, .int .i64 d] 43) = W0 := ⟨_, rfl⟩
   have hB0 : Below w.heap.size w W0 := by rw [<- hW0]; exact (Below.refl _ w).alloc (Nat.le_refl _) _
   have hs0 : W0.heap.size = w.heap.size + 1 := by rw [<- hW0]; simp
   have q0 : Blk W0 w.heap.size 43 #[.int .i64 L, .int .i64 a, .int .i64 b, .int .i64 c, .int .i64 d] := by rw [<- hW0]; exact Blk.new w _ _
   have hcv := covering_any L a b c d cs ao cap ⟨#[48]⟩ W0 (ht.below hB0 (Nat.le_refl _)) (by decide) (hc.below hB0 (Nat.le_refl _)) hl hcap hcap2
   have HW0 := Lib.hid hW0; have HCV := Lib.hid hcv; have HB0 := Lib.hid hB0; have HE := Lib.hid hE
   clear hW0 hcv ht hc hB0 hs0 q0 hE
   go_enter Tryz.func31, Tryz.ntmps31
   go_wp2_with fail
   rw [HW0.out]
   refine HCV.out.mono ?_
   rintro r w1 ⟨⟨h0, _⟩ | ⟨hE, rfl⟩, hb1⟩
   · exact absurd h0 HE.out
   · have hbw := HB0.out.trans (hb1.mono HB0.out.size)
     generalize hvv : covE L a b c d cs ⟨#[48]⟩ = v at hE ⊢
     have HVV := Lib.hid hvv
     have hv : (v != 0) = true := by simpa using hE
     clear hvv hb1
     go_wp2_with fail
     go_ret2
     exact ⟨by rw [HVV.out]; rfl, hbw.alloc hbw.size _⟩
end Go.Proofs.YtdpjdifoonfcdaaGreatDoor

namespace Go.Proofs.YtdpjdifoonfcdaaGreatDoor
open Go.RowKit Go.Shelf
def chkB (L : Int) (cs : List (Int × Int)) : Int := if inB 4 L 64 = false then 70 else if bankOK L cs = false then 72 else 0
set_option maxRecDepth 100000 in
set_option maxHeartbeats 2000000 in
theorem checkBank_any (L : Int) (cs : List (Int × Int)) (ao : Option Addr) (cap : Nat) (w : World) (hc : Cells w ao (prs cs)) (hl : cs.length <= 9223372036854775807) (hcap : cs.length <= cap) (hcap2 : cap <= 9223372036854775807) :
 Calls Tryz.prog 28 #[.int .i64 L, .slice ao cs.length cap] w fun e w' => e = .returned (.int .i64 (chkB L cs)) /\ Below w.heap.size w w' := by
 have hwv := waves_any L cs ao cap w hc hl hcap hcap2
 have hwi := fun W => bwithin_any L 4 64 W
 have hE : chkB L cs = if inB 4 L 64 = false then 70 else if bankOK L cs = false then 72 else 0 := rfl
 have HWV := Lib.hid hwv
 clear hwv hc
 cases h4 : inB 4 L 64 with
 | false =>
   rw [h4, if_pos rfl] at hE
   rw [h4] at hwi
   have HW := Lib.hid hwi; have HE := Lib.hid hE
   clear hwi hE h4
   go_enter Tryz.func28, Tryz.ntmps28
   go_wp2_with (go_at_call 66; refine (HW.out _).mono ?_; rintro e w1 ⟨rfl, rfl⟩)
   go_ret
   exact ⟨by rw [HE.out]; rfl, Below.refl _ _⟩
 | true =>
   rw [h4, if_neg (by decide)] at hE
   rw [h4] at hwi
   have HW := Lib.hid hwi
   clear hwi h4
   cases hb : bankOK L cs with
   | false =>
     rw [hb, if_pos rfl] at hE
     have HE := Lib.hid hE; have HB := Lib.hid hb
     clear hE hb
     go_enter Tryz.func28, Tryz.ntmps28
     go_wp2_with (first
      | (go_at_call 66; refine (HW.out _).mono ?_; rintro e w1 ⟨rfl, rfl⟩)
      | (go_at_call 87; refine HWV.out.mono ?_; rintro e w1 ⟨hr, hb1⟩; rw [HB.out] at hr; obtain rfl : e = _ := hr))
     go_ret
     exact ⟨by rw [HE.out]; rfl, hb1⟩
   | true =>
     rw [hb, if_neg (by decide)] at hE
     have HE := Lib.hid hE; have HB := Lib.hid hb
     clear hE hb
     go_enter Tryz.func28, Tryz.ntmps28
     go_wp2_with (first
      | (go_at_call 66; refine (HW.out _).mono ?_; rintro e w1 ⟨rfl, rfl⟩)
      | (go_at_call 87; refine HWV.out.mono ?_; rintro e w1 ⟨hr, hb1⟩; rw [HB.out] at hr; obtain ⟨bo, cb, rfl, _⟩ := hr))
     go_ret
     exact ⟨by rw [HE.out]; rfl, hb1⟩
end Go.Proofs.YtdpjdifoonfcdaaGreatDoor

namespace Go.Proofs.YtdpjdifoonfcdaaGreatDoor
open Go.RowKit
theorem fitF_at {g : List Int -> Option Sh} {ys : List (List Int)} {u : Nat × Int} (h : fitF g ys = some u) : ∃ y sh, ys[u.1]? = some y /\ g y = some sh /\ sh.1 = u.2 := by
 induction ys generalizing u with
 | nil => cases h
 | cons y r ih =>
   unfold fitF at h
   split at h
   · rename_i s hs
     obtain rfl := Option.some.inj h
     exact ⟨y, s, rfl, hs, rfl⟩
   · obtain ⟨v, hv, rfl⟩ := Option.map_eq_some_iff.1 h
     obtain ⟨z, sh, h1, h2, h3⟩ := ih hv
     exact ⟨z, sh, h1, h2, h3⟩
theorem srv_at {n d : Int} {L : Nat} (hL : L <= 64) {xs ys : List Int} {sh : Sh} (h : srv n d L xs ys = some sh) : (1 - (L : Int) <= sh.1 /\ sh.1 <= (L : Int) - 1) /\ rchB n d xs ys L sh.1 = true := by
 unfold srv fstS at h
 exact ⟨(shl_mem hL).1 (List.mem_of_find?_eq_some h), by simpa using List.find?_some h⟩
theorem prvI_fit {n d n2 d2 L : Int} {ys : List (List Int)} {x : Pt L} (hL1 : 1 <= L) (hL : L <= 64) (hd : 0 < d) (hd2 : 0 <= d2) (hle : n2 * d <= n * d2) (hs : (fitP n d L ys x).isSome = true) : prvI n2 d2 L ys x (fitI (fitP n d L ys x), fitS (fitP n d L ys x)) = true := by
 obtain ⟨u, hu⟩ := Option.isSome_iff_exists.1 hs
 rw [hu]
 obtain ⟨y, sh, h1, h2, h3⟩ := fitF_at hu
 obtain ⟨⟨a1, a2⟩, a3⟩ := srv_at (by omega) h2
 have hlt := (List.getElem?_eq_some_iff.1 h1).1
 rw [show ((L.toNat : Nat) : Int) = L by omega] at a3
 show prvI n2 d2 L ys x ((u.1 : Int), u.2) = true
 unfold prvI
 rw [Bool.and_eq_true, Bool.and_eq_true]
 refine ⟨⟨?_, ?_⟩, ?_⟩
 · simp only [inB, decide_eq_true_eq]; omega
 · simp only [inB, decide_eq_true_eq]; omega
 · simp only [Int.toNat_natCast]
   rw [List.getD_eq_getElem?_getD, h1, <- h3]
   exact rchB_le hd hd2 hle a3
theorem prvL_fit {n d n2 d2 L : Int} {ys : List (List Int)} (hL1 : 1 <= L) (hL : L <= 64) (hd : 0 < d) (hd2 : 0 <= d2) (hle : n2 * d <= n * d2) : ∀ {l : List (Pt L)}, (∀ x ∈ l, (fitP n d L ys x).isSome = true) -> prvL n2 d2 L ys l (prfL n d L ys l) = true := by
 intro l
 induction l with
 | nil => intro _; rfl
 | cons x r ih =>
   intro h
   simp only [prfL, List.map_cons, prvL, Bool.and_eq_true]
   exact ⟨prvI_fit hL1 hL hd hd2 hle (h x (by simp)), ih fun y hy => h y (by simp [hy])⟩
structure Built (L a b c d : Int) (s : ByteArray) (cs : List (Int × Int)) : Prop where
 len : cs.length <= 64
 mis : misR L a b c d cs s = []
 cov : covE L a b c d cs s = 0
 cov0 : covE L a b c d cs ⟨#[48]⟩ = 0
 chk : chkB L cs = 0
 pro : proE L a b c d cs s = 0
 prv : prvR L a b c d cs s (proR L a b c d cs s) = true
 prv0 : prvR L a b c d cs ⟨#[48]⟩ (proR L a b c d cs s) = true
 wor : (worX L a b c d cs = 4 /\ (proR L a b c d cs s).length = 0) ∨ (worX L a b c d cs = 0 /\ cmpE (worV L a b c d cs) s = 0 /\ 0 <= cmpV (worV L a b c d cs) s /\ (worV L a b c d cs).size <= 1099511627776 /\ Lib.hasSuffix (worV L a b c d cs).data.toList [105] = false)
theorem built_all {L a b c d : Int} {s : ByteArray} {n m : Nat} {res : List Nat} (hE : covE L a b c d [] s = 0) (hb : barS s = some (n, m)) (hr : bldO n m L (ptsAll L a c (d - c + 1).toNat (b - a + 1).toNat) = some res) : Built L a b c d s (pick (pairsOf (ptsAll L a c (d - c + 1).toNat (b - a + 1).toNat)) res) := by
 obtain ⟨hf, -, -⟩ := covE_0 hE
 obtain ⟨-, hgs, -, -, hnm, hm0⟩ := barS_some hb
 have hfam := fam_true hf
 have hbk := built_bank (ptsAll_nodup L a c _ _) hnm hr
 have hsv := built_serves hnm hr
 obtain ⟨cs, hcs⟩ : ∃ cs, cs = pick (pairsOf (ptsAll L a c (d - c + 1).toNat (b - a + 1).toNat)) res := ⟨_, rfl⟩
 rw [<- hcs] at hbk hsv ⊢
 have hcov : covE L a b c d cs s = 0 := by rw [covE, hf, hbk, if_neg (by decide), if_neg (by decide), if_neg (by rw [hb]; intro h; cases h)]
 have hcov0 : covE L a b c d cs ⟨#[48]⟩ = 0 := by rw [covE, hf, hbk, if_neg (by decide), if_neg (by decide), if_neg (by rw [bar_zero]; intro h; cases h)]
 have hmis : misR L a b c d cs s = [] := by rw [(misR_yes hcov hb).1]; exact misI_nil hsv
 have hpro : proE L a b c d cs s = 0 := by unfold proE; rw [if_pos hcov, if_pos hmis]
 have hprR : proR L a b c d cs s = prfL n m L (wvs L cs) (ptsAll L a c (d - c + 1).toNat (b - a + 1).toNat) := by unfold proR; rw [if_pos ⟨hcov, hmis⟩, (misR_yes hcov hb).2]
 have hall : ∀ c ∈ cs, chOK L c = true := by
  have h := hbk
  simp only [bankOK, Bool.and_eq_true, decide_eq_true_eq, List.all_eq_true] at h
  exact h.1.2
 refine ⟨bankOK_len9 hbk, hmis, hcov, hcov0, ?_, hpro, ?_, ?_, ?_⟩
 · unfold chkB
   rw [if_neg (by simp only [inB, decide_eq_false_iff_not]; omega), hbk, if_neg (by decide)]
 · unfold prvR
   rw [if_pos hcov, hb, hprR]
   exact prvL_fit (by omega) (by omega) (by omega) (by omega) (Int.le_refl _) hsv
 · unfold prvR
   rw [if_pos hcov0, bar_zero, hprR]
   exact prvL_fit (by omega) (by omega) (by omega) (by omega) (by simp) hsv
 · unfold worX worV
   rw [if_pos hcov0, if_pos hcov0]
   cases hw : wrsF L cs (ptsAll L a c (d - c + 1).toNat (b - a + 1).toNat) with
   | none =>
     refine .inl ⟨rfl, ?_⟩
     rw [hprR, (wrsF_none _ hall).1 hw]; rfl
   | some v =>
     have hv := wrsF_ok hall _ v hw
     have hg := wrs_least hall hsv hw
     have hc := cmp_of_geF hg
     refine .inr ⟨rfl, ?_, ?_, T2_size hv⟩
     · show cmpE (T2 v) s = 0
       unfold cmpE
       rw [getR_T hv, hgs]
     · show 0 <= cmpV (T2 v) s
       unfold cmpV
       rw [getR_T hv, hgs]
       exact hc
theorem barS_small {s : ByteArray} {N D : Nat} (h : barS s = some (N, D)) : s.size <= 1099511627776 /\ Lib.hasSuffix s.data.toList [105] = false := by
 obtain ⟨h1, h2, h3, h4, _, _⟩ := barS_some h
 refine ⟨?_, h1⟩
 rw [(getR_text h2).1]
 refine Nat.le_trans (ratT_size _ _ _) ?_
 have a := Lib.nDigits_le20 N (by omega)
 have b := Lib.nDigits_le20 D (by omega)
 omega
end Go.Proofs.YtdpjdifoonfcdaaGreatDoor
