/- Parts of a proof, in build order: Y2, YC, YB, Y3, YD, YE, YG, YK, LA, LB. -/
import Derived.Test.YtdpjdifoonfcdaaGreatDoorKn9
import Derived.Deep.RegionHeld

namespace Go.Proofs.YtdpjdifoonfcdaaGreatDoor
open Go.RowKit
theorem wpList_load_arr {P : Program} {ops : Array Oper} {rest : List Oper} {o : Oper} {a : Act} {w : World} {Q : Exit -> Act -> World -> Prop} (hgd : o.guard = none) (ty : TypeId) (x : Operand) (ho : o.op = .load ty x)
 (p : Addr) (hx : a.eval x = .pointer (some p)) (V : Array Value) (d : TypeDesc) (hc : ∀ j v, V[j]? = some v -> w.cell? (p.add j) = some v)
 (hu : P.underlying ty = some d) (hd : (match d with | .struct _ | .array _ _ => true | _ => false) = true) (hi : (P.info? ty).map (·.size) = some V.size)
 (h : wpList P ops Q rest (a.put o.dst (.agg V)) w) : wpList P ops Q (o :: rest) a w := by
 refine wpList_load_list hgd ty x ho p hx V.toList d (fun j v hj => hc j v (by simpa using hj)) hu hd (by simpa using hi) ?_
 simpa using h
def shpL (L : Int) (ys : List (List Int)) : List Value := ys.flatMap fun y => (shp L y).toList
theorem shpL_snoc (L : Int) (ys : List (List Int)) (y : List Int) : shpL L (ys ++ [y]) = shpL L ys ++ (shp L y).toList := by simp [shpL]
theorem shpL_length (L : Int) (ys : List (List Int)) (h : ∀ y ∈ ys, y.length = 64) : (shpL L ys).length = ys.length * 65 := by
 induction ys with
 | nil => simp [shpL]
 | cons y r ih =>
   have h1 := ih (fun z hz => h z (by simp [hz]))
   have h2 : (shp L y).size = 65 := by rw [shp_size, h y (by simp)]
   simp only [shpL, List.flatMap_cons, List.length_append, List.length_cons, Array.length_toList] at h1 ⊢
   rw [h1, h2]; omega
theorem shpL_get {L : Int} {ys : List (List Int)} (h : ∀ y ∈ ys, y.length = 64) {i : Nat} {y : List Int} (hy : ys[i]? = some y) {j : Nat} {v : Value} (hv : (shp L y)[j]? = some v) : (shpL L ys)[i * 65 + j]? = some v := by
 have hj : j < 65 := by
  have := (Array.getElem?_eq_some_iff.1 hv).1
  rw [shp_size, h y (List.mem_of_getElem? hy)] at this; exact this
 induction ys generalizing i with
 | nil => simp at hy
 | cons z r ih =>
   have h2 : (shp L z).toList.length = 65 := by rw [Array.length_toList, shp_size, h z (by simp)]
   have e : shpL L (z :: r) = (shp L z).toList ++ shpL L r := by simp [shpL]
   rw [e]
   cases i with
   | zero =>
     simp only [List.getElem?_cons_zero, Option.some.injEq] at hy
     subst hy
     rw [List.getElem?_append_left (by omega), Nat.zero_mul, Nat.zero_add]
     simpa using hv
   | succ i =>
     simp only [List.getElem?_cons_succ] at hy
     rw [List.getElem?_append_right (by rw [h2]; omega), h2, show (i + 1) * 65 + j - 65 = i * 65 + j by omega]
     exact ih (fun w hw => h w (by simp [hw])) hy
def fitF (g : List Int -> Option Sh) : List (List Int) -> Option (Nat × Int)
 | [] => none
 | y :: r => match g y with | some s => some (0, s.1) | none => (fitF g r).map fun u => (u.1 + 1, u.2)
theorem fitF_none {g : List Int -> Option Sh} {ys : List (List Int)} (h : ∀ (i : Nat) (y : List Int), ys[i]? = some y -> g y = none) : fitF g ys = none := by
 induction ys with
 | nil => rfl
 | cons y r ih =>
   simp only [fitF, h 0 y rfl, ih (fun i z hz => h (i + 1) z hz), Option.map_none]
theorem fitF_some {g : List Int -> Option Sh} {ys : List (List Int)} {i : Nat} {y : List Int} {s : Sh} (hy : ys[i]? = some y) (hs : g y = some s) (h : ∀ j : Nat, j < i -> ∀ z, ys[j]? = some z -> g z = none) : fitF g ys = some (i, s.1) := by
 induction ys generalizing i with
 | nil => simp at hy
 | cons z r ih =>
   cases i with
   | zero =>
     simp only [List.getElem?_cons_zero, Option.some.injEq] at hy
     subst hy
     simp only [fitF, hs]
   | succ i =>
     simp only [List.getElem?_cons_succ] at hy
     simp only [fitF, h 0 (by omega) z rfl]
     rw [ih hy (fun j hj w hw => h (j + 1) (by omega) w hw)]; rfl
def fitI (o : Option (Nat × Int)) : Int := match o with | none => 0 | some u => u.1
def fitS (o : Option (Nat × Int)) : Int := match o with | none => 0 | some u => u.2
def srv (n d : Int) (L : Nat) (xs ys : List Int) : Option Sh := fstS (rchB n d xs ys L) (shl L (2 * L - 1))
set_option maxRecDepth 100000 in
set_option maxHeartbeats 4000000 in
theorem fit_any (n d a b c e : Int) (L : Nat) (xs : List Int) (ys : List (List Int)) (C : Nat) (bo : Option Addr) (cb : Nat) (w : World) (hx : xs.length = 64) (hys : ∀ y ∈ ys, y.length = 64 /\ ∀ x ∈ y, -127 <= x /\ x <= 127) (hL1 : 1 <= L) (hL : L <= 64) (h1 : ∀ x ∈ xs, -127 <= x /\ x <= 127)
 (n1 : 0 <= n) (n2 : n <= 999999) (d1 : 0 <= d) (d2 : d <= 999999) (hl : ys.length <= 64)
 (hC : w.heap[C]? = some (.cells #[.int .i64 L, .int .i64 a, .int .i64 b, .int .i64 c, .int .i64 e, .slice bo ys.length cb, .int .i64 n, .int .i64 d] 159 (0, 0))) (hc : Cells w bo (shpL L ys)) :
 Calls Tryz.prog 154 #[.pointer (some ⟨C, 0, none⟩), .agg (shp L xs)] w fun r w' => r = .returned (.tuple #[.agg #[.int .i64 (fitI (fitF (srv n d L xs) ys)), .int .i64 (fitS (fitF (srv n d L xs) ys))], .bool (fitF (srv n d L xs) ys).isSome]) /\ Below w.heap.size w w' := by
 have hsh := fun y (hy : y ∈ ys) wx => shift_any n d L xs y wx hx (hys y hy).1 hL1 hL h1 (hys y hy).2 n1 n2 d1 d2
 have hi1 : (Tryz.prog.info? 129).map (·.size) = some (shp L xs).size := by rw [shp_size, hx]; kernel_rfl
 have hz1 : ¬ shp L xs = #[] := by intro h; have := shp_size L xs; rw [h, hx] at this; simp at this
 have hsv : ∀ y, srv n d L xs y = fstS (rchB n d xs y L) (shl L (2 * L - 1)) := fun _ => rfl
 have hsv2 : ∀ y, fstV (rchB n d xs y L) (shl L (2 * L - 1)) = match srv n d L xs y with | none => 0 | some s => s.1 := fun _ => rfl
 have hget := fun (i : Nat) (y : List Int) (hy : ys[i]? = some y) (j : Nat) (v : Value) (hv : (shp (L : Int) y)[j]? = some v) => shpL_get (L := (L : Int)) (fun z hz => (hys z hz).1) hy (j := j) (v := v) hv
 obtain ⟨Z, hZ⟩ : ∃ Z, Z = shp 0 (smp 0 0 0) := ⟨_, rfl⟩
 have z : Tryz.zeroCells129 = Z := by rw [hZ]; exact zero101
 have hZs : Z.size = 65 := by rw [hZ, shp_size, smp_length]
 have hst := fun y (hy : y ∈ ys) => store_shape (shp L y) Z (by rw [shp_size, (hys y hy).1]) hZs shp_mem
 have hVs := fun y (hy : y ∈ ys) => (show (shp L y).size = 65 by rw [shp_size, (hys y hy).1])
 simp only [<- hsv] at hsh
 simp only [hsv2] at hsh
 clear hZ hsv hsv2
 generalize srv n d L xs = g at *
 generalize shp L xs = V1 at *
 have HSH := Lib.hid hsh; have HI1 := Lib.hid hi1; have HG := Lib.hid hget; have HST := Lib.hid hst; have HVS := Lib.hid hVs; have HC := Lib.hid hc
 clear hsh hi1 hget hst hVs hc n1 n2 d1 d2 h1 hx
 have hCl := (Array.getElem?_eq_some_iff.1 hC).1
 obtain ⟨W0, hW0⟩ : ∃ W0, (w.alloc (.cells V1 129)).alloc (.cells #[.int .i64 0, .int .i64 0] 182) = W0 := ⟨_, rfl⟩
 have hB0 : Below w.heap.size w W0 := by rw [<- hW0]; exact ((Below.refl _ w).alloc (Nat.le_refl _) _).alloc (by simp) _
 have hs0 : W0.heap.size = w.heap.size + 2 := by rw [<- hW0]; simp
 have r0 : W0.heap[w.heap.size]? = some (.cells V1 129 (0, 0)) := by rw [<- hW0]; exact heap_alloc2_old w _ _
 have r1 : Blk W0 (w.heap.size + 1) 182 #[.int .i64 0, .int .i64 0] := by rw [<- hW0]; exact heap_alloc2_new w _ _
 have FK : ∀ wx, Below W0.heap.size W0 wx -> (wx.cell? ⟨C, 5, none⟩ = some (.slice bo ys.length cb) /\ wx.cell? ⟨C, 6, none⟩ = some (.int .i64 n) /\ wx.cell? ⟨C, 7, none⟩ = some (.int .i64 d)) /\ wx.heap[w.heap.size]? = some (.cells V1 129 (0, 0)) /\ Blk wx (w.heap.size + 1) 182 #[.int .i64 0, .int .i64 0] /\ Cells wx bo (shpL L ys) /\ Below w.heap.size w wx := by
  intro wx hb
  have g := hB0.trans (hb.mono (by omega))
  have e0 := (g.block _ hCl).trans hC
  exact ⟨⟨(cell_of_row wx _ 5 _ _ _ e0).trans rfl, (cell_of_row wx _ 6 _ _ _ e0).trans rfl, (cell_of_row wx _ 7 _ _ _ e0).trans rfl⟩, (hb.block _ (by omega)).trans r0, r1.below hb (by omega), HC.out.below g (Nat.le_refl _), g⟩
 have HFK := Lib.hid FK; have HW0 := Lib.hid hW0; have HS0 := Lib.hid hs0
 have y5 : w.cell? ⟨C, 5, none⟩ = some (.slice bo ys.length cb) := (cell_of_row w _ 5 _ _ _ hC).trans rfl
 clear FK hW0 hs0 r0 r1 hB0 hC
 go_enter Tryz.func154, Tryz.ntmps154
 go_wp2_with fail
 rw [HW0.out]
 clear y5
 go_loopw [15] (fun i wr => ∃ k : Nat, k <= ys.length /\ i = .int .i64 (k : Int) /\ (∀ (j : Nat) (y : List Int), j < k -> ys[j]? = some y -> g y = none) /\ Below W0.heap.size W0 wr) (fun i _ => ys.length - (intOf i).toNat)
 case atStart => exact ⟨0, Nat.zero_le _, rfl, fun j y hj => absurd hj (Nat.not_lt_zero _), Below.refl _ _⟩
 case round =>
  obtain ⟨k, hk, rfl, hno, hb⟩ := hrel
  have HNO := Lib.hid hno
  clear hno
  obtain ⟨⟨y5, y6, y7⟩, rv1, rf, hcb, gr⟩ := HFK.out wr hb
  have hsr := hb.size
  by_cases hlt : k < ys.length
  · obtain ⟨y, hy⟩ := get_of_lt hlt
    have hym := List.mem_of_getElem? hy
    have hv65 := HVS.out y hym
    obtain ⟨bb, ob, rfl⟩ := hcb.addr (by
     intro h
     have h2 := HG.out k y hy 0 (.int .i64 L) rfl
     rw [h] at h2; simp at h2)
    have hcell : ∀ j v, (shp (L : Int) y)[j]? = some v -> wr.cell? ((⟨bb, ob + k * 65, none⟩ : Addr).add j) = some v := by
     intro j v hv
     rw [Addr.add_lit, Nat.add_assoc]
     exact hcb.at (HG.out k y hy j v hv)
    have hst := HST.out y hym
    have hsh := HSH.out y hym
    have hinf : (Tryz.prog.info? 129).map (·.size) = some (shp (L : Int) y).size := by rw [hv65]; kernel_rfl
    have HCE := Lib.hid hcell; have HSX := Lib.hid hsh; have HIY := Lib.hid hinf; have HY := Lib.hid hy
    clear hcell hsh hinf hym hcb
    generalize shp (L : Int) y = V2 at *
    have hne2 : ¬ V2 = #[] := by intro h; rw [h] at hv65; simp at hv65
    have i1 : (k : Int) < ys.length := by omega
    have i2 : (0 : Int) <= k := by omega
    have HRV1 := Lib.hid rv1; have HRF := Lib.hid rf
    clear rv1 rf
    have hal := (Below.refl wr.heap.size wr).alloc (Nat.le_refl _) (.cells V2 129)
    have z6 := cell_keep y6 hal (Nat.le_refl _)
    have z7 := cell_keep y7 hal (Nat.le_refl _)
    have hrv1 := (hold_old wr (.cells V2 129) w.heap.size (by have := HS0.out; omega)).trans HRV1.out
    have hrv2 : (wr.alloc (.cells V2 129)).heap[wr.heap.size]? = some (.cells V2 129 (0, 0)) := heap_alloc_new _ _
    have hszA : (wr.alloc (.cells V2 129)).heap.size = wr.heap.size + 1 := by simp
    have HR1 := Lib.hid hrv1; have HR2 := Lib.hid hrv2; have HAL := Lib.hid hal
    have HSZA := Lib.hid hszA
    clear hrv1 hrv2 hal hszA
    go_wp2_with (refine wpList_load_arr (by rfl) 129 _ (by rfl) ⟨bb, ob + k * 65, none⟩ (by rfl) V2 _ HCE.out Tryz.underlying129 (by rfl) HIY.out ?_)
    generalize wr.alloc (.cells V2 129) = WA at *
    have hfin : ∀ wx, Below WA.heap.size WA wx -> Below W0.heap.size W0 wx := fun wx h => hb.trans (HAL.out.trans (h.mono HAL.out.size) |>.mono hsr)
    have HFIN := Lib.hid hfin
    clear hfin
    have quiet : True := trivial
    cases hgy : g y with
    | none =>
      rw [hgy] at HSX
      simp only [Option.isSome_none] at HSX
      have hno2 : ∀ (j : Nat) (z : List Int), j < k + 1 -> ys[j]? = some z -> g z = none := by
       intro j z hj hz
       by_cases e : j = k
       · subst e
         have := HY.out; rw [hz] at this
         rw [Option.some.inj this]; exact hgy
       · exact HNO.out j z (by omega) hz
      have HNO2 := Lib.hid hno2
      clear hno2 hgy
      refine wp_region_quiet (C := fun w' => Below WA.heap.size WA w') (by kernel_rfl) (by kernel_rfl) (Below.refl _ WA).drew ?_
      simp only
      repeat
       (refine wpQuiet_step (fun K hK => ?_)
        first
         | (refine quiet_load_row (by rfl) 129 _ (by with_reducible rfl) w.heap.size (by rfl) 129 V1 (0, 0) _ (fun w' hw' => (HFK.out w' (HFIN.out w' hw')).2.1) Tryz.underlying129 (by rfl) HI1.out ?_; refine hK _ ?_; clear hK K; simp only [Act.put, List.setIfInBounds_toArray, List.set_cons_succ, List.set_cons_zero])
         | (refine quiet_load_row (by rfl) 129 _ (by with_reducible rfl) wr.heap.size (by rfl) 129 V2 (0, 0) _ (fun w' hw' => (hw'.block _ (by have := HSZA.out; omega)).trans HR2.out) Tryz.underlying129 (by rfl) HIY.out ?_; refine hK _ ?_; clear hK K; simp only [Act.put, List.setIfInBounds_toArray, List.set_cons_succ, List.set_cons_zero])
         | (go_simp
            first
             | (refine hK _ ?_; clear hK K)
             | (apply Exists.intro
                refine ⟨fun w' hw' => ?_, hK _ ?_⟩
                (first
                 | rfl
                 | (have k6 := cell_keep z6 hw' (Nat.le_refl _); have k7 := cell_keep z7 hw' (Nat.le_refl _); go_simp; rfl)
                 | (with_reducible refine Calls.mono (HSX.out w') ?_; exact fun e w'' ⟨he, hb⟩ => ⟨he, hw'.trans (hb.mono hw'.size)⟩))
                clear hK K)))
      refine wpQuiet_nil ?_
      intro w2 hb2
      have hb3 := HFIN.out w2 hb2
      clear z6 z7 y5 y6 y7
      go_wp2
      go_roundw
      case rel => exact ⟨k + 1, by omega, by go_num, HNO2.out, hb3⟩
      case measure => simp [intOf]; omega
    | some sv =>
      rw [hgy] at HSX
      simp only [Option.isSome_some] at HSX
      have hF : fitF g ys = some (k, sv.1) := fitF_some HY.out hgy (fun j hj z hz => HNO.out j z hj hz)
      have HF := Lib.hid hF
      clear hF hgy
      refine wp_region_quiet (C := fun w' => Below WA.heap.size WA w') (by kernel_rfl) (by kernel_rfl) (Below.refl _ WA).drew ?_
      simp only
      repeat
       (refine wpQuiet_step (fun K hK => ?_)
        first
         | (refine quiet_load_row (by rfl) 129 _ (by with_reducible rfl) w.heap.size (by rfl) 129 V1 (0, 0) _ (fun w' hw' => (HFK.out w' (HFIN.out w' hw')).2.1) Tryz.underlying129 (by rfl) HI1.out ?_; refine hK _ ?_; clear hK K; simp only [Act.put, List.setIfInBounds_toArray, List.set_cons_succ, List.set_cons_zero])
         | (refine quiet_load_row (by rfl) 129 _ (by with_reducible rfl) wr.heap.size (by rfl) 129 V2 (0, 0) _ (fun w' hw' => (hw'.block _ (by have := HSZA.out; omega)).trans HR2.out) Tryz.underlying129 (by rfl) HIY.out ?_; refine hK _ ?_; clear hK K; simp only [Act.put, List.setIfInBounds_toArray, List.set_cons_succ, List.set_cons_zero])
         | (go_simp
            first
             | (refine hK _ ?_; clear hK K)
             | (apply Exists.intro
                refine ⟨fun w' hw' => ?_, hK _ ?_⟩
                (first
                 | rfl
                 | (have k6 := cell_keep z6 hw' (Nat.le_refl _); have k7 := cell_keep z7 hw' (Nat.le_refl _); go_simp; rfl)
                 | (with_reducible refine Calls.mono (HSX.out w') ?_; exact fun e w'' ⟨he, hb⟩ => ⟨he, hw'.trans (hb.mono hw'.size)⟩))
                clear hK K)))
      refine wpQuiet_nil ?_
      intro w2 hb2
      have hb3 := HFIN.out w2 hb2
      obtain ⟨-, -, hbk, -, g2⟩ := HFK.out w2 hb3
      have c0 := hbk.c0
      have c1 := hbk.c1
      have f0 := hbk.free 0
      have f1 := hbk.free 1
      have hlb := hbk.lt
      have HBK := Lib.hid hbk
      clear z6 z7 y5 y6 y7 hbk
      go_wp2
      have hbk2 := (HBK.out.set0 (.int .i64 (k : Int))).set1 (.int .i64 sv.1)
      have u0 := hbk2.c0
      have u1 := hbk2.c1
      have hgz := (g2.setCell (p := ⟨w.heap.size + 1, 0, none⟩) (by show w.heap.size <= w.heap.size + 1; omega) (.int .i64 (k : Int))).setCell (p := ⟨w.heap.size + 1, 1, none⟩) (by show w.heap.size <= w.heap.size + 1; omega) (.int .i64 sv.1)
      clear c0 c1 f0 f1
      refine bodyPost_ret (v := .tuple #[.agg #[.int .i64 (k : Int), .int .i64 sv.1], .bool true]) (by simp [results, Tryz.results154, go_sem, u0, u1]) rfl ?_
      exact ⟨by rw [HF.out]; rfl, hgz⟩
  · have hkl : k = ys.length := by omega
    have hF : fitF g ys = none := fitF_none (fun j y hy => HNO.out j y (by have := (List.getElem?_eq_some_iff.1 hy).1; omega) hy)
    have HF := Lib.hid hF
    have i1 : ¬ (k : Int) < ys.length := by omega
    have c0 := rf.c0
    have c1 := rf.c1
    have f0 := rf.free 0
    have f1 := rf.free 1
    have hlb := rf.lt
    have HBK := Lib.hid rf
    clear hF hkl y5 y6 y7 rv1 rf hcb
    go_wp2
    have hbk2 := (HBK.out.set0 (.int .i64 0)).set1 (.int .i64 0)
    have u0 := hbk2.c0
    have u1 := hbk2.c1
    have hgz := (gr.setCell (p := ⟨w.heap.size + 1, 0, none⟩) (by show w.heap.size <= w.heap.size + 1; omega) (.int .i64 0)).setCell (p := ⟨w.heap.size + 1, 1, none⟩) (by show w.heap.size <= w.heap.size + 1; omega) (.int .i64 0)
    clear c0 c1 f0 f1
    refine bodyPost_ret (v := .tuple #[.agg #[.int .i64 0, .int .i64 0], .bool false]) (by simp [results, Tryz.results154, go_sem, u0, u1]) rfl ?_
    exact ⟨by rw [HF.out]; rfl, hgz⟩
end Go.Proofs.YtdpjdifoonfcdaaGreatDoor

namespace Go.Proofs.YtdpjdifoonfcdaaGreatDoor
open Go.RowKit
theorem foldl_zipSet (l : List Value) : ∀ (k : Nat) (A : Array Value), k + l.length <= A.size ->
 ((l.zipIdx k).foldl (fun (cs : Array Value) (x : Value × Nat) => cs.setIfInBounds (0 + x.2) x.1) A).toList = A.toList.take k ++ (l ++ A.toList.drop (k + l.length)) := by
 induction l with
 | nil => intro k A h; simp
 | cons v r ih =>
   intro k A h
   rw [List.length_cons] at h
   rw [List.zipIdx_cons, List.foldl_cons, ih (k + 1) _ (by rw [Array.size_setIfInBounds]; omega), Nat.zero_add, Array.toList_setIfInBounds]
   have hk : k < A.toList.length := by rw [Array.length_toList]; omega
   rw [List.take_add_one, List.take_set_of_le (Nat.le_refl k), List.getElem?_set_self hk, List.drop_set_of_lt (by omega), List.length_cons, show k + 1 + r.length = k + (r.length + 1) by omega]
   simp
theorem foldl_zipSet_all (V A : Array Value) (h : A.size = V.size) : V.zipIdx.foldl (fun (cs : Array Value) (x : Value × Nat) => cs.setIfInBounds (0 + x.2) x.1) A = V := by
 apply Array.toList_inj.1
 rw [<- Array.foldl_toList, Array.toList_zipIdx, foldl_zipSet V.toList 0 A (by rw [Array.length_toList]; omega)]
 rw [List.take_zero, List.nil_append, Nat.zero_add, Array.length_toList, List.drop_of_length_le (by rw [Array.length_toList]; omega), List.append_nil]
theorem run_buildSlice_one {P : Program} {w : World} (t elem : TypeId) (i : TypeInfo) (V Z : Array Value) (hu : P.underlying t = some (.slice elem)) (hi : P.info? elem = some i) (hz : i.zero = some (.agg Z)) (hsz : i.size = V.size) (hZ : Z.size = V.size) (h0 : V.size ≠ 0) (hm : V.size <= 16777216) :
 (Instr.buildSlice t 1 #[(0, .agg V)]).run P w = .ok (.slice (some ⟨w.heap.size, 0, none⟩) 1 1) (w.alloc (.cells V elem)) := by
 have hm2 : ¬ 16777216 < V.size := by omega
 simp [Instr.buildSlice, run_underlying hu, sizeOf, zeroValue, typeInfo, hi, hz, hsz, h0, hm2, Instr.fill, Value.cells, go_sem]
 have h := foldl_zipSet_all V ((Array.range V.size).map (fun x => Z[x % Z.size]!)) (by simp)
 simp only [Nat.zero_add, Array.size_zipIdx] at h
 rw [h]
theorem wpList_buildSlice_one {P : Program} {ops : Array Oper} {rest : List Oper} {o : Oper} {a : Act} {w : World} {Q : Exit -> Act -> World -> Prop} (hgd : o.guard = none) (t elem : TypeId) (x : Operand) (ho : o.op = .buildSlice t 1 #[(0, x)])
 (i : TypeInfo) (V Z : Array Value) (hx : a.eval x = .agg V) (hu : P.underlying t = some (.slice elem)) (hi : P.info? elem = some i) (hz : i.zero = some (.agg Z)) (hsz : i.size = V.size) (hZ : Z.size = V.size) (h0 : V.size ≠ 0) (hm : V.size <= 16777216)
 (h : wpList P ops Q rest (a.put o.dst (.slice (some ⟨w.heap.size, 0, none⟩) 1 1)) (w.alloc (.cells V elem))) : wpList P ops Q (o :: rest) a w :=
 wpList_plain hgd fun K hK => by
  unfold Oper.wp execOp
  simp only [ho, List.map_toArray, List.map_cons, List.map_nil, hx, Sem.run_bind, run_buildSlice_one t elem i V Z hu hi hz hsz hZ h0 hm, Sem.run_pure, Result.andThen_ok]
  exact hK _ _ h
end Go.Proofs.YtdpjdifoonfcdaaGreatDoor

namespace Go.Proofs.YtdpjdifoonfcdaaGreatDoor
open Go.RowKit Go.Shelf
theorem Tryz.infoShape : (Tryz.prog.info? 129).map (fun i => (i.zero, i.size, i.bytes)) = some (some (.agg (shp 0 (smp 0 0 0))), 65, 520) := by kernel_rfl
theorem prs_take (l : List (Int × Int)) : ∀ k, prs (l.take k) = (prs l).take (k * 2) := by
 induction l with
 | nil => intro k; simp [prs_nil]
 | cons c r ih =>
   intro k
   cases k with
   | zero => simp [prs_nil]
   | succ n => rw [List.take_succ_cons, prs_cons, prs_cons, ih n, show (n + 1) * 2 = n * 2 + 1 + 1 by omega, List.take_succ_cons, List.take_succ_cons]
def chOK (L : Int) (c : Int × Int) : Bool := waveOK L c.1 c.2 && !silentB (wav L c.1 c.2)
def bankOK (L : Int) (cs : List (Int × Int)) : Bool := decide (cs.length <= 64) && cs.all (chOK L) && decide cs.Nodup
def wvs (L : Int) (cs : List (Int × Int)) : List (List Int) := cs.map fun c => wav L c.1 c.2
theorem bankOK_not {L : Int} {cs : List (Int × Int)} {k : Nat} {c : Int × Int} (h : cs[k]? = some c) (hn : chOK L c = false ∨ (cs.take k).contains c = true) : bankOK L cs = false := by
 rw [Bool.eq_false_iff]
 intro hb
 simp only [bankOK, Bool.and_eq_true, decide_eq_true_eq, List.all_eq_true] at hb
 obtain ⟨⟨_, h2⟩, h3⟩ := hb
 rcases hn with hn | hn
 · rw [h2 c (List.mem_of_getElem? h)] at hn; cases hn
 · have h4 : c ∈ cs.take k := by simpa using hn
   obtain ⟨j, hj⟩ := List.mem_iff_getElem?.1 h4
   rw [List.getElem?_take] at hj
   split at hj
   · rename_i hjk
     have := (List.getElem?_inj (List.getElem?_eq_some_iff.1 hj).1 h3).1 (hj.trans h.symm)
     omega
   · cases hj
theorem bankOK_all {L : Int} {cs : List (Int × Int)} (h1 : cs.length <= 64) (h2 : cs.all (chOK L) = true) (h3 : cs.Nodup) : bankOK L cs = true := by
 simp only [bankOK, Bool.and_eq_true, decide_eq_true_eq]
 exact ⟨⟨h1, h2⟩, h3⟩
def WavRes (L : Int) (cs : List (Int × Int)) (w : World) (e : Ending) (w' : World) : Prop :=
 (if bankOK L cs = true then ∃ a c, e = .returned (.tuple #[.slice a cs.length c, .bool true]) /\ Cells w' a (shpL L (wvs L cs)) else e = .returned (.tuple #[.slice none 0 0, .bool false])) /\ Below w.heap.size w w'
theorem wav_no {L : Int} {cs : List (Int × Int)} {w w' : World} (h : bankOK L cs = false) (hb : Below w.heap.size w w') : WavRes L cs w (.returned (.tuple #[.slice none 0 0, .bool false])) w' := ⟨by rw [h]; exact rfl, hb⟩
theorem wav_yes {L : Int} {cs : List (Int × Int)} {w w' : World} {a : Option Addr} {c : Nat} (h : bankOK L cs = true) (hc : Cells w' a (shpL L (wvs L cs))) (hb : Below w.heap.size w w') : WavRes L cs w (.returned (.tuple #[.slice a cs.length c, .bool true])) w' := ⟨by rw [h]; exact ⟨_, _, rfl, hc⟩, hb⟩
set_option maxRecDepth 1000000 in
set_option maxHeartbeats 4000000 in
theorem waves_any (L : Int) (cs : List (Int × Int)) (ao : Option Addr) (cap : Nat) (w : World) (hc : Cells w ao (prs cs)) (hl : cs.length <= 9223372036854775807) (hcap : cs.length <= cap) (hcap2 : cap <= 9223372036854775807) :
 Calls Tryz.prog 87 #[.int .i64 L, .slice ao cs.length cap] w (WavRes L cs w) := by
 by_cases h64 : 64 < cs.length
 · have hbo : bankOK L cs = false := by rw [bankOK, decide_eq_false (by omega)]; rfl
   have HBO := Lib.hid hbo
   have h64i : (64 : Int) < cs.length := by omega
   clear hbo h64 hc
   go_enter Tryz.func87, Tryz.ntmps87
   go_wp2_with fail
   go_ret2
   exact wav_no HBO.out (Below.refl _ _)
 · obtain ⟨Z, hZ⟩ : ∃ Z, Z = shp 0 (smp 0 0 0) := ⟨_, rfl⟩
   have z : Tryz.zeroCells129 = Z := by rw [hZ]; exact zero101
   have hZs : Z.size = 65 := by rw [hZ, shp_size, smp_length]
   have h64' : cs.length <= 64 := by omega
   have h64i : ¬ (64 : Int) < cs.length := by omega
   obtain ⟨i0, hi, hz0, hz1, hz2⟩ := info_parts Tryz.infoShape
   rw [<- hZ] at hz0
   clear hZ h64
   go_enter Tryz.func87, Tryz.ntmps87
   go_wp2_with fail
   go_loopw [6, 16] (fun v i wr => ∃ k : Nat, k <= cs.length /\ i = .int .i64 k /\ (cs.take k).all (chOK L) = true /\ (cs.take k).Nodup /\ wr.ownsRow w.heap.size 129 65 v k (shpL L (wvs L (cs.take k))) /\ Below w.heap.size w wr) (fun _ i _ => cs.length - (intOf i).toNat)
   case atStart => exact ⟨0, Nat.zero_le _, rfl, by simp, by simp, World.ownsRow_nil _ _ _ _, Below.refl _ _⟩
   case round =>
    obtain ⟨k, hk, rfl, hall, hnd, hown, hbe⟩ := hrel
    by_cases hlt : k < cs.length
    · obtain ⟨⟨p, q⟩, hx⟩ := get_of_lt hlt
      obtain ⟨b, off, rfl⟩ := hc.addr (prs_ne (by omega))
      have c1 := cell_keep (hc.at (prs_fst hx)) hbe (Nat.le_refl _)
      have c2 := cell_keep (hc.at (prs_snd hx)) hbe (Nat.le_refl _)
      rw [<- Nat.add_assoc] at c2
      simp only at c1 c2
      have hwv := fun W => wave_any L p q W
      have hVs := waveV_size L p q
      have hst := store_shape (waveV L p q) Z hVs hZs (waveV_one L p q)
      have hone := waveV_one L p q
      generalize hV : waveV L p q = V at hwv hst hVs hone
      have hne : ¬ V = #[] := by intro h; rw [h] at hVs; simp at hVs
      have HWV := Lib.hid hwv; have HALL := Lib.hid hall; have HND := Lib.hid hnd; have HOWN := Lib.hid hown; have HX := Lib.hid hx; have HV := Lib.hid hV; have HC := Lib.hid hc; have HONE := Lib.hid hone
      clear hwv hall hnd hx hV hc hone
      cases hok : waveOK L p q with
      | false =>
        have hbo : bankOK L cs = false := bankOK_not HX.out (.inl (by rw [chOK, hok]; rfl))
        have HBO := Lib.hid hbo
        rw [hok] at HWV
        clear hbo hok hown
        go_wp2_with (go_at_call 63; refine (HWV.out _).mono ?_; rintro e w1 ⟨rfl, hb1⟩)
        have hbw := (hbe.alloc hbe.size (.cells #[.int .i64 p, .int .i64 q] 23)).trans (hb1.mono (by have := hbe.size; simp; omega))
        go_quiet (fail)
        go_wp2_with fail
        go_ret2
        exact wav_no HBO.out (bel_drewN (hbw.alloc hbw.size _) _)
      | true =>
        have hsi := fun W => silent_any L (wav L p q) W (wav_length _ _ _)
        rw [show shp L (wav L p q) = V by rw [<- HV.out]; simp [waveV, hok]] at hsi
        have hct := fun (W : World) (hb : Below w.heap.size w W) => contains_chirps (some ⟨b, off, none⟩) (cs.take k) cap p q W (by rw [prs_take]; exact (HC.out.below hb (Nat.le_refl _)).take _) (by rw [List.length_take]; omega)
        rw [List.length_take, Nat.min_eq_left hk] at hct
        have hinf : (Tryz.prog.info? 129).map (·.size) = some V.size := by rw [hVs]; kernel_rfl
        have hch : chOK L (p, q) = !silentB (wav L p q) := by rw [chOK, hok]; rfl
        rw [hok] at HWV
        have hvw : shp L (wav L p q) = V := by rw [<- HV.out]; simp [waveV, hok]
        have HVW := Lib.hid hvw; have HOB : Hid (∀ j, u6.ownBlock = some j -> w.heap.size <= j) := Lib.hid (fun j e => (HOWN.out.lt j e).1)
        have HSI := Lib.hid hsi; have HCT := Lib.hid hct; have HI := Lib.hid hinf; have HCH := Lib.hid hch
        clear hsi hct hinf hok hch hown hvw
        go_wp2_with (go_at_call 63; refine (HWV.out _).mono ?_; rintro e w1 ⟨rfl, hb1⟩)
        have hbw := (hbe.alloc hbe.size (.cells #[.int .i64 p, .int .i64 q] 23)).trans (hb1.mono (by have := hbe.size; simp; omega))
        have hsz1 : wr.heap.size < w1.heap.size := by have := hb1.size; simp at this; omega
        have hsz0 := hbe.size
        have s1 : (w1.alloc (.cells V 129)).drew.heap[w1.heap.size]? = some (.cells V 129 (0, 0)) := heap_alloc_new w1 _
        have s2 : (w1.alloc (.cells V 129)).drew.heap[wr.heap.size]? = some (.cells #[.int .i64 p, .int .i64 q] 23 (0, 0)) := (hold_old w1 _ _ hsz1).trans ((hb1.block _ (by simp)).trans (heap_alloc_new wr _))
        have k3 : (k : Int) <= cs.length := by omega
        have k4 : (0 : Int) <= k := by omega
        refine wp_region_held_drew (S := fun w' => w'.heap[w1.heap.size]? = some (.cells V 129 (0, 0)) /\ w'.heap[wr.heap.size]? = some (.cells #[.int .i64 p, .int .i64 q] 23 (0, 0))) (by kernel_rfl) ⟨s1, s2⟩ (fun hHeld => ?_)
        refine tkV 0 (.bool true) hHeld ?_
        refine tkV 1 (.bool false) hHeld ?_
        refine tkV 2 (.bool false) hHeld ?_
        refine tkV 3 (.agg V) hHeld ?_ (hy := by intro w9 h; exact exec_load_row 129 _ rfl w1.heap.size rfl 129 V (0, 0) _ h.1 Tryz.underlying129 (by rfl) HI.out)
        refine tkC 4 (fun K hK => ?_)
        go_simp
        refine (HSI.out _).mono ?_
        rintro e w4 ⟨rfl, hb4⟩
        have t1 := (hb4.block _ (by have := hsz1; show w1.heap.size < (w1.alloc (.cells V 129)).heap.size; simp)).trans s1
        have t2 := (hb4.block _ (by have := hsz1; show wr.heap.size < (w1.alloc (.cells V 129)).heap.size; simp; omega)).trans s2
        refine hK.out _ _ ⟨t1, t2⟩ (fun hHeld4 => ?_)
        clear hK K
        try simp only [Act.put, List.setIfInBounds_toArray, List.set_cons_zero, List.set_cons_succ]
        cases hsb : silentB (wav L p q) with
        | true =>
          have hbo : bankOK L cs = false := bankOK_not HX.out (.inl (by rw [HCH.out, hsb]; rfl))
          have HBO := Lib.hid hbo
          clear hbo hsb
          refine tkV 5 (.bool true) hHeld4 ?_
          refine tkV 6 (.bool true) hHeld4 ?_
          refine tkS 7 hHeld4 ?_
          refine tkS 8 hHeld4 ?_
          refine tkS 9 hHeld4 ?_
          refine tkS 10 hHeld4 ?_
          refine tkS 11 hHeld4 ?_
          refine tkV 12 (.bool true) hHeld4 ?_
          refine wpAnyH_done (by kernel_rfl) ?_ _
          have hbw1 : Below w.heap.size w (w1.alloc (.cells V 129)).drew := bel_drewN (hbw.alloc hbw.size _) 1
          have hbw4 := hbw1.trans (hb4.mono hbw1.size)
          go_wp2_with fail
          go_ret2
          exact wav_no HBO.out hbw4
        | false =>
          have hbw1 : Below w.heap.size w (w1.alloc (.cells V 129)).drew := bel_drewN (hbw.alloc hbw.size _) 1
          have hcw4 := hbw1.trans (hb4.mono hbw1.size)
          have hs4 := hb4.size
          have hsv1 : w1.heap.size < w4.heap.size := by have h : (w1.alloc (.cells V 129)).heap.size <= w4.heap.size := hs4; simp at h; omega
          have hsv2 : wr.heap.size < w4.heap.size := by omega
          cases hcb : (cs.take k).contains (p, q) with
          | true =>
            have hbo : bankOK L cs = false := bankOK_not HX.out (.inr hcb)
            have HBO := Lib.hid hbo
            rw [hcb] at HCT
            clear hbo hsb hcb hs4
            refine tkV 5 (.bool false) hHeld4 ?_
            refine tkV 6 (.bool false) hHeld4 ?_
            refine tkV 7 (.slice (some ⟨b, off, none⟩) cs.length cap) hHeld4 ?_
            refine tkV 8 (.int .i64 k) hHeld4 ?_
            refine tkV 9 (.slice (some ⟨b, off, none⟩) k cap) hHeld4 ?_ (hy := by intro w9 h; go_simp; try (intro hcc; omega))
            refine tkV 10 (.agg #[.int .i64 p, .int .i64 q]) hHeld4 ?_ (hy := by intro w9 h; exact exec_load_row 23 _ rfl wr.heap.size rfl 23 #[.int .i64 p, .int .i64 q] (0, 0) _ h.2 Tryz.underlying23 (by rfl) (by kernel_rfl))
            refine tkC 11 (fun K hK => ?_)
            go_simp
            refine (HCT.out _ hcw4).mono ?_
            rintro e w5 ⟨rfl, hb5⟩
            have v1 := (hb5.block _ hsv1).trans t1
            have v2 := (hb5.block _ hsv2).trans t2
            refine hK.out _ _ ⟨v1, v2⟩ (fun hHeld5 => ?_)
            clear hK K
            try simp only [Act.put, List.setIfInBounds_toArray, List.set_cons_zero, List.set_cons_succ]
            refine tkV 12 (.bool true) hHeld5 ?_
            refine wpAnyH_done (by kernel_rfl) ?_ _
            have hbw5 := hcw4.trans (hb5.mono hcw4.size)
            go_wp2_with fail
            go_ret2
            exact wav_no HBO.out hbw5
          | false =>
            rw [hcb] at HCT
            have HSB := Lib.hid hsb; have HCB := Lib.hid hcb
            clear hsb hcb hs4
            refine tkV 5 (.bool false) hHeld4 ?_
            refine tkV 6 (.bool false) hHeld4 ?_
            refine tkV 7 (.slice (some ⟨b, off, none⟩) cs.length cap) hHeld4 ?_
            refine tkV 8 (.int .i64 k) hHeld4 ?_
            refine tkV 9 (.slice (some ⟨b, off, none⟩) k cap) hHeld4 ?_ (hy := by intro w9 h; go_simp; try (intro hcc; omega))
            refine tkV 10 (.agg #[.int .i64 p, .int .i64 q]) hHeld4 ?_ (hy := by intro w9 h; exact exec_load_row 23 _ rfl wr.heap.size rfl 23 #[.int .i64 p, .int .i64 q] (0, 0) _ h.2 Tryz.underlying23 (by rfl) (by kernel_rfl))
            refine tkC 11 (fun K hK => ?_)
            go_simp
            refine (HCT.out _ hcw4).mono ?_
            rintro e w5 ⟨rfl, hb5⟩
            have v1 := (hb5.block _ hsv1).trans t1
            have v2 := (hb5.block _ hsv2).trans t2
            refine hK.out _ _ ⟨v1, v2⟩ (fun hHeld5 => ?_)
            clear hK K
            try simp only [Act.put, List.setIfInBounds_toArray, List.set_cons_zero, List.set_cons_succ]
            refine tkV 12 (.bool false) hHeld5 ?_
            refine wpAnyH_done (by kernel_rfl) ?_ _
            have hbw5 := hcw4.trans (hb5.mono hcw4.size)
            have hbx : Below wr.heap.size wr w5 := by
             have h1 := ((Below.refl wr.heap.size wr).alloc (Nat.le_refl _) (.cells #[.int .i64 p, .int .i64 q] 23)).trans (hb1.mono (by simp))
             have h2 : Below wr.heap.size wr (w1.alloc (.cells V 129)).drew := bel_drewN (h1.alloc h1.size _) 1
             have h3 := h2.trans (hb4.mono h2.size)
             exact h3.trans (hb5.mono h3.size)
            have hown5 := own_belowK HOWN.out hbx (Nat.le_refl _)
            clear hb1 hb4 hb5
            go_wp2_with (first
             | (refine wpList_load_row (by rfl) 129 _ (by rfl) w1.heap.size (by rfl) _ V _ _ v1 Tryz.underlying129 (by rfl) HI.out ?_)
             | (refine wpList_buildSlice_one (by rfl) 152 129 _ (by rfl) i0 V Z (by rfl) Tryz.underlying152 hi hz0 (hz1.trans hVs.symm) (hZs.trans hVs.symm) (by omega) (by omega) ?_)
             | (at_builtin; refine wpList_append_own _ rfl _ _ 152 rfl w.heap.size 129 i0 (.agg Z) 65 520 Tryz.underlying152 hi hz0 hz1 hz2 hZs (by decide) _ _ _ rfl (hown5.alloc _) ⟨w5.heap.size, 0, none⟩ 1 1 V.toList rfl (by rw [Array.length_toList, hVs]) (World.news_of_block (cs := V) (t := 129) (fr := (0, 0)) (heap_alloc_new w5 _)) HONE.out (by unfold maxLen; omega) (by omega) (by have := hbw5.size; simp; omega) ?_; intro v9 wz hown9 hgrow _))
            have hgr : (w5.alloc (.cells V 129)).grownBy wz u6.ownBlock := hgrow
            have hbz := (hbw5.alloc hbw5.size (.cells V 129)).grown hgr (by have := hbw5.size; simp; omega) HOB.out
            have htk := take_get HX.out
            refine ⟨⟨k + 1, by omega, by go_num, ?_, ?_, ?_, hbz⟩, by simp [intOf]; omega⟩
            · rw [htk, List.all_append, HALL.out]; simp [HCH.out, HSB.out]
            · rw [htk, List.nodup_append]
              refine ⟨HND.out, by simp, ?_⟩
              intro a ha c hc2 hac
              rw [List.mem_singleton] at hc2
              subst hc2; subst hac
              have h1 := HCB.out
              rw [Bool.eq_false_iff] at h1
              exact h1 (by simpa using ha)
            · rw [htk, wvs, List.map_append, List.map_cons, List.map_nil, shpL_snoc, HVW.out]
              exact hown9
    · obtain rfl : k = cs.length := by omega
      rw [List.take_length] at hall hnd hown
      have hbo := bankOK_all h64' hall hnd
      obtain ⟨g, c, rfl, hcs⟩ := own_cells hown
      have HCS := Lib.hid hcs; have HBO := Lib.hid hbo
      clear hall hnd hown hbo hcs hc
      go_wp2
      go_ret2
      exact wav_yes HBO.out HCS.out hbe
end Go.Proofs.YtdpjdifoonfcdaaGreatDoor

namespace Go.Proofs.YtdpjdifoonfcdaaGreatDoor
open Go.RowKit Go.Shelf
theorem Tryz.infoFit : (Tryz.prog.info? 182).map (fun i => (i.zero, i.size, i.bytes)) = some (some (.agg #[.int .i64 0, .int .i64 0]), 2, 16) := by kernel_rfl
theorem grown_set3 (w : World) (p : Addr) (u : Value) : w.grownBy (w.setCell p u) (some p.block) :=
 ⟨rfl, rfl, rfl, by simp [World.setCell], fun k _ hk => Below.heap_setCell _ _ _ _ (fun e => hk (by rw [e]))⟩
theorem own_set3 {w : World} {B : Nat} {e : TypeId} {s : Nat} {v : Value} {n : Nat} {xs : List Value} (h : w.ownsRow B e s v n xs) {p : Addr} {u : Value} (hp : v.ownBlock ≠ some p.block) : (w.setCell p u).ownsRow B e s v n xs := h.kept (grown_set3 w p u) (.inr hp)
theorem own_ne3 {w : World} {b1 b2 : Nat} {e1 e2 : TypeId} {s1 s2 n1 n2 : Nat} {v1 v2 : Value} {x1 x2 : List Value} (h1 : w.ownsRow b1 e1 s1 v1 n1 x1) (h2 : w.ownsRow b2 e2 s2 v2 n2 x2) (he : e1 ≠ e2) : v1.ownBlock = none ∨ v1.ownBlock ≠ v2.ownBlock := by
 rcases h1.2 with ⟨rfl, _⟩ | ⟨g, cap, cur, rfl, _, hg, _⟩
 · exact .inl rfl
 · right
   intro hv
   replace hv := hv.symm
   rcases h2.2 with ⟨rfl, _⟩ | ⟨g', cap', cur', rfl, _, hg', _⟩
   · simp [Value.ownBlock] at hv
   · simp [Value.ownBlock] at hv
     subst hv
     rw [hg'] at hg
     simp at hg
     exact he hg.2.symm
theorem own_keptF {A B : World} {row : Option Nat} {b : Nat} {e : TypeId} {s : Nat} {v : Value} {n : Nat} {xs : List Value} (h : A.ownsRow b e s v n xs) (hg : A.grownBy B row) (hr : ∀ r, row = some r -> ∃ o : Obj, A.heap[r]? = some o /\ o.isCells = false) : B.ownsRow b e s v n xs := by
 refine h.kept hg ?_
 rcases h.2 with ⟨rfl, _⟩ | ⟨g, cap, cur, rfl, _, hgb, _⟩
 · exact .inl rfl
 · right
   intro e'
   obtain ⟨o, ho, hc⟩ := hr g e'.symm
   rw [hgb] at ho; cases ho; cases hc
structure Fts (B1 B2 B3 BF BP n0 : Nat) (fam : Array Value) (C : Addr) (vp vm : Value) (P : List (Int × Int)) (M : List Int) (i : Int) (W : World) : Prop where
 bp : Blk W B1 58 #[vp]
 rp : W.ownsRow n0 182 2 vp P.length (prs P)
 bm : Blk W B2 24 #[vm]
 rm : W.ownsRow n0 3 1 vm M.length (M.map (Value.int .i64))
 bi : Blk W B3 3 #[.int .i64 i]
 bf : Blk W BF 43 fam
 bc : Blk W BP 149 #[.pointer (some C)]
theorem Fts.below {B1 B2 B3 BF BP n0 : Nat} {fam : Array Value} {C : Addr} {vp vm : Value} {P : List (Int × Int)} {M : List Int} {i : Int} {W W' : World} (h : Fts B1 B2 B3 BF BP n0 fam C vp vm P M i W) (hb : Below W.heap.size W W') : Fts B1 B2 B3 BF BP n0 fam C vp vm P M i W' :=
 ⟨h.bp.below hb h.bp.lt, own_belowK h.rp hb (Nat.le_refl _), h.bm.below hb h.bm.lt, own_belowK h.rm hb (Nat.le_refl _), h.bi.below hb h.bi.lt, h.bf.below hb h.bf.lt, h.bc.below hb h.bc.lt⟩
theorem Fts.keptF {B1 B2 B3 BF BP n0 : Nat} {fam : Array Value} {C : Addr} {vp vm : Value} {P : List (Int × Int)} {M : List Int} {i : Int} {W W' : World} {row : Option Nat} (h : Fts B1 B2 B3 BF BP n0 fam C vp vm P M i W) (hg : W.grownBy W' row) (hr : ∀ r, row = some r -> ∃ o : Obj, W.heap[r]? = some o /\ o.isCells = false) : Fts B1 B2 B3 BF BP n0 fam C vp vm P M i W' :=
 ⟨row_kept h.bp hg hr, own_keptF h.rp hg hr, row_kept h.bm hg hr, own_keptF h.rm hg hr, row_kept h.bi hg hr, row_kept h.bf hg hr, row_kept h.bc hg hr⟩
theorem Fts.stepM {B1 B2 B3 BF BP n0 : Nat} {fam : Array Value} {C : Addr} {vp vm v' : Value} {P : List (Int × Int)} {M : List Int} {i x : Int} {W wz : World} {tmp : Obj} (h : Fts B1 B2 B3 BF BP n0 fam C vp vm P M i W) (hl : B1 < n0 /\ B2 < n0 /\ B3 < n0 /\ BF < n0 /\ BP < n0 /\ n0 <= W.heap.size) (hd : B1 ≠ B2 /\ B3 ≠ B2 /\ BF ≠ B2 /\ BP ≠ B2)
 (hown : wz.ownsRow n0 3 1 v' (M.length + 1) (M.map (Value.int .i64) ++ [.int .i64 x])) (hg : (W.alloc tmp).grownBy wz vm.ownBlock) :
 Fts B1 B2 B3 BF BP n0 fam C vp v' P (M ++ [x]) i (wz.setCell ⟨B2, 0, none⟩ v') /\ KeepsOthers W (wz.setCell ⟨B2, 0, none⟩ v') /\ Below B2 W (wz.setCell ⟨B2, 0, none⟩ v') := by
 have ne : ∀ B, B < n0 -> some B ≠ vm.ownBlock := fun B hB e => by have := (h.rm.lt B e.symm).1; omega
 have ne' : v'.ownBlock ≠ some B2 := fun e => by have := (hown.lt B2 e).1; omega
 have k1 := (h.bp.alloc tmp).kept hg (ne _ hl.1)
 have k2 := (h.bm.alloc tmp).kept hg (ne _ hl.2.1)
 have k3 := (h.bi.alloc tmp).kept hg (ne _ hl.2.2.1)
 have k4 := (h.bf.alloc tmp).kept hg (ne _ hl.2.2.2.1)
 have k5 := (h.bc.alloc tmp).kept hg (ne _ hl.2.2.2.2.1)
 have k6 := (h.rp.alloc tmp).kept hg (own_ne3 (h.rp.alloc tmp) (h.rm.alloc tmp) (by decide))
 have k7 : vp.ownBlock ≠ some B2 := fun e => by have := (h.rp.lt B2 e).1; omega
 refine ⟨⟨k1.other hd.1 _ _, own_set3 k6 k7, k2.set0 _, ?_, k3.other hd.2.1 _ _, k4.other hd.2.2.1 _ _, k5.other hd.2.2.2 _ _⟩, ?_, ?_⟩
 · rw [List.length_append, List.map_append]
   exact own_set3 hown ne'
 · refine ((KeepsOthers.alloc W tmp).trans (KeepsOthers.of_grownBy hg fun j o ej hj => ?_)).trans (KeepsOthers.setCell _ _ _)
   rcases (h.rm.alloc tmp).2 with ⟨rfl, _⟩ | ⟨g, cap, cur, rfl, _, hgb, _⟩
   · simp [Value.ownBlock] at ej
   · obtain rfl : g = j := by simpa [Value.ownBlock] using ej
     rw [hgb] at hj; cases hj; rfl
 · refine (((Below.refl B2 W).alloc (by omega) tmp).grown hg (by simp; omega) fun j ej => ?_).setCell (p := ⟨B2, 0, none⟩) (Nat.le_refl _) v'
   have := (h.rm.lt j ej).1; omega
theorem Fts.stepP {B1 B2 B3 BF BP n0 : Nat} {fam : Array Value} {C : Addr} {vp vm v' : Value} {P : List (Int × Int)} {M : List Int} {i x y : Int} {W wz : World} {tmp : Obj} (h : Fts B1 B2 B3 BF BP n0 fam C vp vm P M i W) (hl : B1 < n0 /\ B2 < n0 /\ B3 < n0 /\ BF < n0 /\ BP < n0 /\ n0 <= W.heap.size) (hd : B2 ≠ B1 /\ B3 ≠ B1 /\ BF ≠ B1 /\ BP ≠ B1)
 (hown : wz.ownsRow n0 182 2 v' (P.length + 1) (prs P ++ [.int .i64 x, .int .i64 y])) (hg : (W.alloc tmp).grownBy wz vp.ownBlock) :
 Fts B1 B2 B3 BF BP n0 fam C v' vm (P ++ [(x, y)]) M i (wz.setCell ⟨B1, 0, none⟩ v') /\ KeepsOthers W (wz.setCell ⟨B1, 0, none⟩ v') /\ Below B1 W (wz.setCell ⟨B1, 0, none⟩ v') := by
 have ne : ∀ B, B < n0 -> some B ≠ vp.ownBlock := fun B hB e => by have := (h.rp.lt B e.symm).1; omega
 have ne' : v'.ownBlock ≠ some B1 := fun e => by have := (hown.lt B1 e).1; omega
 have k1 := (h.bp.alloc tmp).kept hg (ne _ hl.1)
 have k2 := (h.bm.alloc tmp).kept hg (ne _ hl.2.1)
 have k3 := (h.bi.alloc tmp).kept hg (ne _ hl.2.2.1)
 have k4 := (h.bf.alloc tmp).kept hg (ne _ hl.2.2.2.1)
 have k5 := (h.bc.alloc tmp).kept hg (ne _ hl.2.2.2.2.1)
 have k6 := (h.rm.alloc tmp).kept hg (own_ne3 (h.rm.alloc tmp) (h.rp.alloc tmp) (by decide))
 have k7 : vm.ownBlock ≠ some B1 := fun e => by have := (h.rm.lt B1 e).1; omega
 refine ⟨⟨k1.set0 _, ?_, k2.other hd.1 _ _, own_set3 k6 k7, k3.other hd.2.1 _ _, k4.other hd.2.2.1 _ _, k5.other hd.2.2.2 _ _⟩, ?_, ?_⟩
 · rw [List.length_append, prs_append]
   exact own_set3 hown ne'
 · refine ((KeepsOthers.alloc W tmp).trans (KeepsOthers.of_grownBy hg fun j o ej hj => ?_)).trans (KeepsOthers.setCell _ _ _)
   rcases (h.rp.alloc tmp).2 with ⟨rfl, _⟩ | ⟨g, cap, cur, rfl, _, hgb, _⟩
   · simp [Value.ownBlock] at ej
   · obtain rfl : g = j := by simpa [Value.ownBlock] using ej
     rw [hgb] at hj; cases hj; rfl
 · refine (((Below.refl B1 W).alloc (by omega) tmp).grown hg (by simp; omega) fun j ej => ?_).setCell (p := ⟨B1, 0, none⟩) (Nat.le_refl _) v'
   have := (h.rp.lt j ej).1; omega
theorem Fts.stepI {B1 B2 B3 BF BP n0 : Nat} {fam : Array Value} {C : Addr} {vp vm : Value} {P : List (Int × Int)} {M : List Int} {i x : Int} {W : World} (h : Fts B1 B2 B3 BF BP n0 fam C vp vm P M i W) (hl : B1 < n0 /\ B2 < n0 /\ B3 < n0 /\ BF < n0 /\ BP < n0 /\ n0 <= W.heap.size) (hd : B1 ≠ B3 /\ B2 ≠ B3 /\ BF ≠ B3 /\ BP ≠ B3) :
 Fts B1 B2 B3 BF BP n0 fam C vp vm P M x (W.setCell ⟨B3, 0, none⟩ (.int .i64 x)) /\ KeepsOthers W (W.setCell ⟨B3, 0, none⟩ (.int .i64 x)) /\ Below B3 W (W.setCell ⟨B3, 0, none⟩ (.int .i64 x)) :=
 ⟨⟨h.bp.other hd.1 _ _, own_set3 h.rp (fun e => by have := (h.rp.lt B3 e).1; omega), h.bm.other hd.2.1 _ _, own_set3 h.rm (fun e => by have := (h.rm.lt B3 e).1; omega), h.bi.set0 _, h.bf.other hd.2.2.1 _ _, h.bc.other hd.2.2.2 _ _⟩, KeepsOthers.setCell _ _ _, (Below.refl _ _).setCell (p := ⟨B3, 0, none⟩) (Nat.le_refl _) _⟩
def fitP (n d L : Int) (ys : List (List Int)) (x : Pt L) : Option (Nat × Int) := fitF (srv n d L.toNat (wav L x.1.1 x.1.2)) ys
def prfL (n d L : Int) (ys : List (List Int)) (l : List (Pt L)) : List (Int × Int) := l.map fun x => (fitI (fitP n d L ys x), fitS (fitP n d L ys x))
def misI {α : Type} (f : α -> Bool) : Nat -> List α -> List Int
 | _, [] => []
 | k, x :: r => if f x then misI f (k + 1) r else (k : Int) :: misI f (k + 1) r
theorem misI_snoc {α : Type} (f : α -> Bool) (l : List α) (x : α) : ∀ k, misI f k (l ++ [x]) = misI f k l ++ (if f x then [] else [((k + l.length : Nat) : Int)]) := by
 induction l with
 | nil => intro k; simp only [List.nil_append, misI, List.length_nil, Nat.add_zero]
 | cons y r ih =>
   intro k
   simp only [List.cons_append, misI]
   rw [ih (k + 1), List.length_cons, show k + 1 + r.length = k + (r.length + 1) by omega]
   split <;> simp
theorem misI_len {α : Type} (f : α -> Bool) (l : List α) : ∀ k, (misI f k l).length <= l.length := by
 induction l with
 | nil => intro k; simp [misI]
 | cons y r ih =>
   intro k
   simp only [misI]
   split
   · have := ih (k + 1); simp; omega
   · have := ih (k + 1); simp; omega
def misP (n d L : Int) (ys : List (List Int)) (l : List (Pt L)) : List Int := misI (fun x => (fitP n d L ys x).isSome) 0 l
set_option maxRecDepth 1000000 in
set_option maxHeartbeats 8000000 in
theorem fits_any (n d a b c e L : Int) (ys : List (List Int)) (C : Nat) (bo : Option Addr) (cb : Nat) (w : World) (hf : famOK L a b c e = true) (hys : ∀ y ∈ ys, y.length = 64 /\ ∀ x ∈ y, -127 <= x /\ x <= 127)
 (n1 : 0 <= n) (n2 : n <= 999999) (d1 : 0 <= d) (d2 : d <= 999999) (hl : ys.length <= 64)
 (hC : w.heap[C]? = some (.cells #[.int .i64 L, .int .i64 a, .int .i64 b, .int .i64 c, .int .i64 e, .slice bo ys.length cb, .int .i64 n, .int .i64 d] 159 (0, 0))) (hc : Cells w bo (shpL L ys)) :
 Calls Tryz.prog 86 #[.pointer (some ⟨C, 0, none⟩)] w fun r w' => (∃ p cp m cm, r = .returned (.tuple #[.slice p (ptsAll L a c (e - c + 1).toNat (b - a + 1).toNat).length cp, .slice m (misP n d L ys (ptsAll L a c (e - c + 1).toNat (b - a + 1).toNat)).length cm]) /\ Cells w' p (prs (prfL n d L ys (ptsAll L a c (e - c + 1).toNat (b - a + 1).toNat))) /\ Cells w' m ((misP n d L ys (ptsAll L a c (e - c + 1).toNat (b - a + 1).toNat)).map (Value.int .i64))) /\ Below w.heap.size w w' := by
 have hfm := fam_true hf
 have hCl := (Array.getElem?_eq_some_iff.1 hC).1
 have hft : ∀ (x : Pt L) (wx : World), Below w.heap.size w wx -> Calls Tryz.prog 154 #[.pointer (some ⟨C, 0, none⟩), .agg (shp L (wav L x.1.1 x.1.2))] wx fun r w' => r = .returned (.tuple #[.agg #[.int .i64 (fitI (fitP n d L ys x)), .int .i64 (fitS (fitP n d L ys x))], .bool (fitP n d L ys x).isSome]) /\ Below wx.heap.size wx w' := by
  intro x wx hb
  obtain ⟨M, hM⟩ : ∃ M : Nat, L = (M : Int) := ⟨L.toNat, by omega⟩
  have h := fit_any n d a b c e M (wav L x.1.1 x.1.2) ys C bo cb wx (wav_length _ _ _) hys (by omega) (by omega) (wav_bd _ _ _) n1 n2 d1 d2 hl (by rw [<- hM]; exact (hb.block _ hCl).trans hC) (by rw [<- hM]; exact hc.below hb (Nat.le_refl _))
  unfold fitP
  rw [<- hM] at h
  rw [show L.toNat = M by omega]
  exact h
 obtain ⟨WE, hWE⟩ : ∃ WE, ((((w.alloc (.cells #[.pointer (some ⟨C, 0, none⟩)] 149)).alloc (.cells #[.slice none 0 0] 58)).alloc (.cells #[.slice none 0 0] 24)).alloc (.cells #[.int .i64 0] 3)) = WE := ⟨_, rfl⟩
 have hBE : Below w.heap.size w WE := by rw [<- hWE]; exact ((((Below.refl _ w).alloc (Nat.le_refl _) _).alloc (by simp) _).alloc (by simp; omega) _).alloc (by simp; omega) _
 have zc : ∀ j v, (#[Value.int .i64 L, .int .i64 a, .int .i64 b, .int .i64 c, .int .i64 e, .slice bo ys.length cb, .int .i64 n, .int .i64 d] : Array Value)[j]? = some v -> ((((w.alloc (.cells #[.pointer (some ⟨C, 0, none⟩)] 149)).alloc (.cells #[.slice none 0 0] 58)).alloc (.cells #[.slice none 0 0] 24)).alloc (.cells #[.int .i64 0] 3)).cell? ⟨C, j, none⟩ = some v := by
  intro j v hv
  rw [hWE]
  exact cell_keep ((cell_of_row w _ j _ _ _ hC).trans hv) hBE (Nat.le_refl _)
 have z0 := zc 0 _ rfl
 have z1 := zc 1 _ rfl
 have z2 := zc 2 _ rfl
 have z3 := zc 3 _ rfl
 have z4 := zc 4 _ rfl
 have HWE := Lib.hid hWE; have HBE := Lib.hid hBE
 clear zc hWE hBE
 have HFT := Lib.hid hft; have HF := Lib.hid hf
 clear hft hf hys hl n1 n2 d1 d2 hC hc
 obtain ⟨i0, hi, hz0, hz1, hz2⟩ := info_parts Tryz.infoFit
 obtain ⟨j0, hji, hj0, hj1, hj2⟩ := info_parts Tryz.infoInt
 refine (callsIn_wide (n := 8)).1 ?_
 refine callsIn_of_wp_marks Tryz.func86 rfl trivial ?_ rfl
 simp only [Tryz.ntmps86, List.size_toArray, List.length_cons, List.length_nil, Nat.reduceAdd, Nat.reduceSub, Array.replicate_succ, Array.replicate_zero, List.push_toArray, List.append_toArray, List.nil_append, List.cons_append]
 gi_wp2_with (refine ⟨trivial, ?_⟩; gi_at_call 74; refine (callsIn_wide.2 (points_any L a b c e _)).mono ?_; rintro r w2 ⟨rfl, rfl⟩; refine Hid.out ?_)
 refine Lib.hid ?_
 gi_wp2
 rw [HWE.out]
 clear z0 z1 z2 z3 z4
 have hse : WE.heap.size = w.heap.size + 4 := by rw [<- HWE.out]; simp
 obtain ⟨W0, hW0⟩ : ∃ W0, W0 = WE.alloc (.cells #[.int .i64 L, .int .i64 a, .int .i64 b, .int .i64 c, .int .i64 e] 43) := ⟨_, rfl⟩
 have hs0 : W0.heap.size = w.heap.size + 5 := by rw [hW0]; simp; omega
 have hB0 : Below w.heap.size w W0 := by rw [hW0]; exact HBE.out.alloc HBE.out.size _
 have q0 : WE.heap[w.heap.size]? = some (.cells #[.pointer (some ⟨C, 0, none⟩)] 149 (0, 0)) := by rw [<- HWE.out, hold_old _ _ _ (by simp <;> omega), hold_old _ _ _ (by simp <;> omega)]; exact heap_alloc2_old w _ _
 have q1 : WE.heap[w.heap.size + 1]? = some (.cells #[.slice none 0 0] 58 (0, 0)) := by rw [<- HWE.out, hold_old _ _ _ (by simp <;> omega), hold_old _ _ _ (by simp)]; exact heap_alloc2_new w _ _
 have q2 : WE.heap[w.heap.size + 1 + 1]? = some (.cells #[.slice none 0 0] 24 (0, 0)) := by
  rw [<- HWE.out, hold_old _ _ _ (by simp <;> omega)]
  have h := heap_alloc_new ((w.alloc (.cells #[.pointer (some ⟨C, 0, none⟩)] 149)).alloc (.cells #[.slice none 0 0] 58)) (.cells #[.slice none 0 0] 24)
  rwa [show ((w.alloc (.cells #[.pointer (some ⟨C, 0, none⟩)] 149)).alloc (.cells #[.slice none 0 0] 58)).heap.size = w.heap.size + 1 + 1 by simp] at h
 have q3 : WE.heap[w.heap.size + 1 + 1 + 1]? = some (.cells #[.int .i64 0] 3 (0, 0)) := by
  have h := heap_alloc_new (((w.alloc (.cells #[.pointer (some ⟨C, 0, none⟩)] 149)).alloc (.cells #[.slice none 0 0] 58)).alloc (.cells #[.slice none 0 0] 24)) (.cells #[.int .i64 0] 3)
  rw [show (((w.alloc (.cells #[.pointer (some ⟨C, 0, none⟩)] 149)).alloc (.cells #[.slice none 0 0] 58)).alloc (.cells #[.slice none 0 0] 24)).heap.size = w.heap.size + 1 + 1 + 1 by simp] at h
  rw [<- HWE.out]; exact h
 have hk : ∀ i, i < w.heap.size + 4 -> W0.heap[i]? = WE.heap[i]? := fun i hi => by rw [hW0]; exact hold_old _ _ _ (by omega)
 have q4 : W0.heap[w.heap.size + 1 + 1 + 1 + 1]? = some (.cells #[.int .i64 L, .int .i64 a, .int .i64 b, .int .i64 c, .int .i64 e] 43 (0, 0)) := by
  rw [hW0, show w.heap.size + 1 + 1 + 1 + 1 = WE.heap.size by omega]; exact heap_alloc_new _ _
 have hF0 : Fts (w.heap.size + 1) (w.heap.size + 1 + 1) (w.heap.size + 1 + 1 + 1) (w.heap.size + 1 + 1 + 1 + 1) w.heap.size (w.heap.size + 5) #[.int .i64 L, .int .i64 a, .int .i64 b, .int .i64 c, .int .i64 e] ⟨C, 0, none⟩ (.slice none 0 0) (.slice none 0 0) (prfL n d L ys []) (misP n d L ys []) ((([] : List (Pt L)).length : Nat) : Int) W0 :=
  ⟨(hk _ (by omega)).trans q1, World.ownsRow_nil _ _ _ _, (hk _ (by omega)).trans q2, World.ownsRow_nil _ _ _ _, (hk _ (by omega)).trans q3, q4, (hk _ (by omega)).trans q0⟩
 rw [<- hW0]
 have HW0 := Lib.hid hW0
 clear hW0 q0 q1 q2 q3 hk hse
 obtain ⟨Z, hZ⟩ : ∃ Z, Z = shp 0 (smp 0 0 0) := ⟨_, rfl⟩
 have z : Tryz.zeroCells129 = Z := by rw [hZ]; exact zero101
 have hZs : Z.size = 65 := by rw [hZ, shp_size, smp_length]
 clear hZ
 refine wpIn_rangeFunc_ownH rfl (by omega) (gf := 141) (lb := #[.pointer (some ⟨w.heap.size + 1 + 1 + 1 + 1, 0, none⟩)]) rfl trivial (enters_of Tryz.func141 (by kernel_rfl) rfl)
  (points_stops _ (by omega) (w.heap.size + 1 + 1 + 1 + 1) L a b c e HF.out W0 q4) KeepB.trans (keepB_b (by omega)) (Below.refl _ _) (fun _ => rfl)
  (fun pre W => (∃ vp vm, Fts (w.heap.size + 1) (w.heap.size + 1 + 1) (w.heap.size + 1 + 1 + 1) (w.heap.size + 1 + 1 + 1 + 1) w.heap.size (w.heap.size + 5) #[.int .i64 L, .int .i64 a, .int .i64 b, .int .i64 c, .int .i64 e] ⟨C, 0, none⟩ vp vm (prfL n d L ys pre) (misP n d L ys pre) ((pre.length : Nat) : Int) W) /\ Below w.heap.size w W /\ W0.heap.size <= W.heap.size)
  (fun _ _ _ => False)
  (OwnFrom.and (Own.from (fun s A B row hs hg hr => by obtain ⟨vp, vm, h⟩ := hs; exact ⟨vp, vm, h.keptF hg hr⟩) _) (OwnFrom.and (ownFrom_below (Nat.le_refl _) (by omega)) (fun _ _ _ _ hs hg _ => Nat.le_trans hs hg.size)))
  (fun _ _ _ _ _ hs _ _ => hs)
  ⟨⟨_, _, hF0⟩, hB0, Nat.le_refl _⟩
  (fun x a' W => ∃ Bx, w.heap.size + 5 <= Bx /\ W.heap[Bx]? = some (.cells (shp L (wav L x.1.1 x.1.2)) 129 (0, 0)) /\ a' = { tmps := #[.pointer (some ⟨C, 0, none⟩), .pointer (some ⟨w.heap.size, 0, none⟩), .pointer (some ⟨w.heap.size + 1, 0, none⟩), .pointer (some ⟨w.heap.size + 1 + 1, 0, none⟩), .pointer (some ⟨w.heap.size + 1 + 1 + 1, 0, none⟩), undef, .pointer (some ⟨Bx, 0, none⟩), undef, undef, .pointer (some ⟨C, 0, none⟩), .pointer (some ⟨C, 0, none⟩), .pointer (some ⟨C, 0, none⟩), .agg #[.int .i64 L, .int .i64 a, .int .i64 b, .int .i64 c, .int .i64 e], .func (.func 141) #[] #[.pointer (some ⟨w.heap.size + 1 + 1 + 1 + 1, 0, none⟩)], .agg #[.int .i64 x.1.1, .int .i64 x.1.2], .agg (shp L (wav L x.1.1 x.1.2)), undef, undef, undef, undef, undef, undef, undef, undef, undef, undef, undef, undef, undef, undef, undef, undef, undef, undef, undef, undef], defers := [] })
  (fun x a' _ X Y row hs hg hr => by
   obtain ⟨Bx, h1, h2, h3⟩ := hs
   refine ⟨Bx, h1, (hg.block Bx (Array.getElem?_eq_some_iff.1 h2).1 (fun e => ?_)).trans h2, h3⟩
   obtain ⟨_, o, ho, hc⟩ := hr Bx e.symm
   rw [h2] at ho; cases ho; cases hc)
  ?assign ?body ?done ?stop
 case assign =>
  rintro l pre x W K ⟨⟨vp, vm, hF1⟩, hB1, hs⟩ hK
  have hst := store_shape (shp L (wav L x.1.1 x.1.2)) Z (by rw [shp_size, wav_length]) hZs shp_mem
  have hVs : (shp L (wav L x.1.1 x.1.2)).size = 65 := by rw [shp_size, wav_length]
  unfold ptV
  generalize shp L (wav L x.1.1 x.1.2) = V at *
  have hne : ¬ V = #[] := by intro h; rw [h] at hVs; simp at hVs
  gi_wp2_with (rw [Oper.semAt_eq _ _ _ (fun c h => by cases h)]; go_simp; try go_bits)
  have hal := (Below.refl W.heap.size W).alloc (Nat.le_refl _) (.cells V 129)
  exact hK _ _ ((KeepsOthers.alloc _ _).from _) (KeepB.of hal (by omega)) ⟨⟨vp, vm, hF1.below hal⟩, hB1.alloc hB1.size _, by simp; omega⟩ ⟨W.heap.size, by omega, heap_alloc_new _ _, rfl⟩
 case body =>
  rintro l pre x a' W hl ⟨r, hr⟩ ⟨⟨vp, vm, hF1⟩, hB1, hs⟩ ⟨Bx, hBx, bX, rfl⟩ hlt
  have hsz : w.heap.size + 5 <= W.heap.size := by omega
  have hlen : pre.length < 400 := by omega
  have hft := HFT.out x W hB1
  have hPs : prfL n d L ys (pre ++ [x]) = prfL n d L ys pre ++ [(fitI (fitP n d L ys x), fitS (fitP n d L ys x))] := by simp [prfL]
  have hMs : misP n d L ys (pre ++ [x]) = misP n d L ys pre ++ (if (fitP n d L ys x).isSome = true then [] else [((0 + pre.length : Nat) : Int)]) := misI_snoc _ _ _ _
  rw [Nat.zero_add] at hMs
  have hPl : (prfL n d L ys pre).length = pre.length := by simp [prfL]
  have hMl : (misP n d L ys pre).length <= pre.length := misI_len _ _ _
  have hNl : ((pre ++ [x]).length : Int) = (pre.length : Int) + 1 := by simp
  have hinf : (Tryz.prog.info? 129).map (·.size) = some (shp L (wav L x.1.1 x.1.2)).size := by rw [shp_size, wav_length]; kernel_rfl
  have hVs : (shp L (wav L x.1.1 x.1.2)).size = 65 := by rw [shp_size, wav_length]
  generalize shp L (wav L x.1.1 x.1.2) = V at *
  have hne : ¬ V = #[] := by intro h; rw [h] at hVs; simp at hVs
  generalize prfL n d L ys pre = P at *
  generalize misP n d L ys pre = M at *
  generalize hI : fitI (fitP n d L ys x) = fI at *
  generalize hS : fitS (fitP n d L ys x) = fS at *
  generalize hK : (fitP n d L ys x).isSome = ok at *
  have hMs0 : ok = false -> misP n d L ys (pre ++ [x]) = M ++ [((pre.length : Nat) : Int)] := fun h => by rw [hMs, h]; rfl
  have hMs1 : ok = true -> misP n d L ys (pre ++ [x]) = M := fun h => by rw [hMs, h]; simp
  generalize pre.length = len at *
  have HFTX := Lib.hid hft; have HIV := Lib.hid hinf; have HF1 := Lib.hid hF1; have HPS := Lib.hid hPs; have HMS0' := Lib.hid hMs0; have HMS1' := Lib.hid hMs1; have HNL := Lib.hid hNl; have HPL := Lib.hid hPl; have HBX := Lib.hid bX
  have c0 := hF1.bc.c0
  clear hft hinf hF1 hPs hMs hMs0 hMs1 hNl hPl hI hS hK hlt
  gi_wp2_with (first
   | (refine wpListIn_load_row (by rfl) 129 _ (by rfl) Bx (by rfl) _ V _ _ HBX.out Tryz.underlying129 (by rfl) HIV.out ?_)
   | (refine ⟨trivial, ?_⟩; gi_at_call 154; refine (CallsIn.inRound l (callsIn_wide.2 HFTX.out)).mono ?_; rintro r' w1 ⟨rfl, hb1⟩; refine Hid.out ?_)
   | (rw [Oper.semAt_eq _ _ _ (fun c h => by cases h)]; go_simp; try go_bits))
  refine Lib.hid ?_
  have hs1 := hb1.size
  have hF2 := HF1.out.below hb1
  have hal := (Below.refl w1.heap.size w1).alloc (Nat.le_refl _) (.cells #[.int .i64 fI, .int .i64 fS] 182)
  have hF3 := hF2.below hal
  have hb3 : Below W.heap.size W (w1.alloc (.cells #[.int .i64 fI, .int .i64 fS] 182)) := hb1.trans (hal.mono hs1)
  have hn3 : (w1.alloc (.cells #[.int .i64 fI, .int .i64 fS] 182)).heap.size = w1.heap.size + 1 := by simp
  have bx7 : Blk (w1.alloc (.cells #[.int .i64 fI, .int .i64 fS] 182)) w1.heap.size 182 #[.int .i64 fI, .int .i64 fS] := Blk.new _ _ _
  have cc : (w1.alloc (.cells #[.int .i64 fI, .int .i64 fS] 182)).cell? ⟨w.heap.size, 0, none⟩ = _ := hF3.bc.c0
  have c1 : (w1.alloc (.cells #[.int .i64 fI, .int .i64 fS] 182)).cell? ⟨w.heap.size + 1, 0, none⟩ = some vp := hF3.bp.c0
  have c2 : (w1.alloc (.cells #[.int .i64 fI, .int .i64 fS] 182)).cell? ⟨w.heap.size + 1 + 1, 0, none⟩ = some vm := hF3.bm.c0
  have c3 : (w1.alloc (.cells #[.int .i64 fI, .int .i64 fS] 182)).cell? ⟨w.heap.size + 1 + 1 + 1, 0, none⟩ = some (.int .i64 len) := hF3.bi.c0
  have c70 := bx7.c0
  have c71 := bx7.c1
  have HF3 := Lib.hid hF3; have HB3 := Lib.hid hb3; have HN3 := Lib.hid hn3; have HX7 := Lib.hid bx7
  clear hF2 hF3 hb3 hn3 bx7 hal c0
  generalize hWA : w1.alloc (.cells #[.int .i64 fI, .int .i64 fS] 182) = WA at *
  have HWA := Lib.hid hWA
  have hszA : w.heap.size + 5 <= WA.heap.size := by have := HB3.out.size; omega
  have hlt7 : ∀ j, vm.ownBlock = some j -> j < w1.heap.size := fun j e => by
   have h := (HF1.out.below hb1).rm.lt j e
   exact h.2
  have HLT7 := Lib.hid hlt7
  have HMLE := Lib.hid hMl
  have hPl4 : P.length < 400 := by have := HPL.out; omega
  have w0' : IntKind.i64.wrap ((len : Int) + 1) = (len : Int) + 1 := IntWalk.i64_in _ (by omega)
  have h71 : ¬ w1.heap.size = w.heap.size + 1 + 1 := by omega
  clear hlt7 hWA
  cases ok
  · have HMS0 := Lib.hid (HMS0'.out rfl)
    gi_wp2_with (first
     | (gi_at_builtin; refine wpListIn_append_own _ rfl _ _ 24 rfl (w.heap.size + 5) 3 j0 (.int .i64 0) 1 8 Tryz.underlying24 hji hj0 hj1 hj2 rfl (by decide) _ _ _ rfl (HF3.out.rm.alloc _) ⟨WA.heap.size, 0, none⟩ 1 1 [.int .i64 len] rfl rfl (news1 _ _ _) (by simp [Value.oneCell']) (by unfold maxLen; omega) (by omega) (by simp; omega) ?_; intro vm' wz hown1 hgrow1 _; obtain ⟨gm, cm, rfl⟩ := ownsRow_succ hown1; have HB := Lib.hid (HF3.out.stepM (x := len) ⟨by omega, by omega, by omega, by omega, by omega, by omega⟩ ⟨by omega, by omega, by omega, by omega⟩ hown1 hgrow1); have hq0 := (HF3.out.bm.alloc (.cells #[.int .i64 len] 3)).kept hgrow1 (fun e => by have := (HF3.out.rm.lt _ e.symm).1; omega); have s0 := hq0.c0; have s1 := hq0.free 0; have s5 := hq0.lt; have hx0 := ((HX7.out.alloc (.cells #[.int .i64 len] 3)).kept hgrow1 (fun e => by have := (HF3.out.rm.lt _ e.symm); have h2 := HLT7.out _ e.symm; omega)).other (B' := w.heap.size + 1 + 1) (by omega) 0 (.slice (some ⟨gm, 0, none⟩) (M.length + 1) cm); obtain ⟨WB, hWB⟩ : ∃ WB, wz.setCell ⟨w.heap.size + 1 + 1, 0, none⟩ (.slice (some ⟨gm, 0, none⟩) (M.length + 1) cm) = WB := ⟨_, rfl⟩; have HWB := Lib.hid hWB; rw [hWB] at HB hx0; have HF4 := Lib.hid HB.out.1; have r1 := HF4.out.bp.c0; have r70 := hx0.c0; have r71 := hx0.c1; have hszB : w.heap.size + 5 <= WB.heap.size := Nat.le_trans hszA HB.out.2.2.size; clear hown1 hgrow1 hq0 hWB hx0)
     | (gi_at_builtin; refine wpListIn_append_own _ rfl _ _ 58 rfl (w.heap.size + 5) 182 i0 (.agg #[.int .i64 0, .int .i64 0]) 2 16 Tryz.underlying58 hi hz0 hz1 hz2 rfl (by decide) _ _ _ rfl (HF4.out.rp.alloc _) ⟨WB.heap.size, 0, none⟩ 1 1 [.int .i64 fI, .int .i64 fS] rfl rfl (cells_two_new _ _ _ _) (by simp [Value.oneCell']) (by unfold maxLen; omega) (by omega) (by simp; omega) ?_; intro vp' wy hown2 hgrow2 _; obtain ⟨gq, cq, rfl⟩ := ownsRow_succ hown2; have HC := Lib.hid (HF4.out.stepP (x := fI) (y := fS) ⟨by omega, by omega, by omega, by omega, by omega, by omega⟩ ⟨by omega, by omega, by omega, by omega⟩ hown2 hgrow2); have hq1 := (HF4.out.bp.alloc (.cells #[.int .i64 fI, .int .i64 fS] 182)).kept hgrow2 (fun e => by have := (HF4.out.rp.lt _ e.symm).1; omega); have s2 := hq1.c0; have s3 := hq1.free 0; have s4 := hq1.lt; obtain ⟨WC, hWC⟩ : ∃ WC, wy.setCell ⟨w.heap.size + 1, 0, none⟩ (.slice (some ⟨gq, 0, none⟩) (P.length + 1) cq) = WC := ⟨_, rfl⟩; have HWC := Lib.hid hWC; rw [hWC] at HC; have t3 := HC.out.1.bi.c0; have t4 := HC.out.1.bi.free 0; have t5 := HC.out.1.bi.lt; clear hown2 hgrow2 hq1 hWC)
     | (rw [Oper.semAt_eq _ _ _ (fun c h => by cases h)]; go_simp; (try rw [HWA.out]); (try rw [HWB.out]); (try rw [HWC.out]); try go_bits))
    have hfin := HC.out.1.stepI (x := (len : Int) + 1) ⟨by omega, by omega, by omega, by omega, by omega, Nat.le_trans hszB HC.out.2.2.size⟩ ⟨by omega, by omega, by omega, by omega⟩
    have hk := ((keepsOthers_below HB3.out).trans HB.out.2.1).trans (HC.out.2.1.trans hfin.2.1)
    have hbB : Below w.heap.size W (WC.setCell ⟨w.heap.size + 1 + 1 + 1, 0, none⟩ (.int .i64 ((len : Int) + 1))) := (((HB3.out.mono (by omega)).trans (HB.out.2.2.mono (by omega))).trans (HC.out.2.2.mono (by omega))).trans (hfin.2.2.mono (by omega))
    exact ⟨hk.from _, ⟨hfin.1.bf.trans HF1.out.bf.symm, hbB.size⟩, ⟨_, _, by rw [HPS.out, HMS0.out, HNL.out]; exact hfin.1⟩, hB1.trans hbB, by have := hbB.size; omega⟩
  · have HMS1 := Lib.hid (HMS1'.out rfl)
    gi_wp2_with (first
     | (gi_at_builtin; refine wpListIn_append_own _ rfl _ _ 58 rfl (w.heap.size + 5) 182 i0 (.agg #[.int .i64 0, .int .i64 0]) 2 16 Tryz.underlying58 hi hz0 hz1 hz2 rfl (by decide) _ _ _ rfl (HF3.out.rp.alloc _) ⟨WA.heap.size, 0, none⟩ 1 1 [.int .i64 fI, .int .i64 fS] rfl rfl (cells_two_new _ _ _ _) (by simp [Value.oneCell']) (by unfold maxLen; omega) (by omega) (by simp; omega) ?_; intro vp' wy hown2 hgrow2 _; obtain ⟨gq, cq, rfl⟩ := ownsRow_succ hown2; have HC := Lib.hid (HF3.out.stepP (x := fI) (y := fS) ⟨by omega, by omega, by omega, by omega, by omega, by omega⟩ ⟨by omega, by omega, by omega, by omega⟩ hown2 hgrow2); have hq1 := (HF3.out.bp.alloc (.cells #[.int .i64 fI, .int .i64 fS] 182)).kept hgrow2 (fun e => by have := (HF3.out.rp.lt _ e.symm).1; omega); have s2 := hq1.c0; have s3 := hq1.free 0; have s4 := hq1.lt; obtain ⟨WC, hWC⟩ : ∃ WC, wy.setCell ⟨w.heap.size + 1, 0, none⟩ (.slice (some ⟨gq, 0, none⟩) (P.length + 1) cq) = WC := ⟨_, rfl⟩; have HWC := Lib.hid hWC; rw [hWC] at HC; have t3 := HC.out.1.bi.c0; have t4 := HC.out.1.bi.free 0; have t5 := HC.out.1.bi.lt; clear hown2 hgrow2 hq1 hWC)
     | (rw [Oper.semAt_eq _ _ _ (fun c h => by cases h)]; go_simp; (try rw [HWA.out]); (try rw [HWC.out]); try go_bits))
    have hfin := HC.out.1.stepI (x := (len : Int) + 1) ⟨by omega, by omega, by omega, by omega, by omega, Nat.le_trans hszA HC.out.2.2.size⟩ ⟨by omega, by omega, by omega, by omega⟩
    have hk := (keepsOthers_below HB3.out).trans (HC.out.2.1.trans hfin.2.1)
    have hbB : Below w.heap.size W (WC.setCell ⟨w.heap.size + 1 + 1 + 1, 0, none⟩ (.int .i64 ((len : Int) + 1))) := ((HB3.out.mono (by omega)).trans (HC.out.2.2.mono (by omega))).trans (hfin.2.2.mono (by omega))
    exact ⟨hk.from _, ⟨hfin.1.bf.trans HF1.out.bf.symm, hbB.size⟩, ⟨_, _, by rw [HPS.out, HMS1.out, HNL.out]; exact hfin.1⟩, hB1.trans hbB, by have := hbB.size; omega⟩
 case done =>
  rintro D ys' W hD rfl ⟨⟨vp, vm, hF⟩, hB, hs⟩ hK
  generalize hpp : prfL n d L ys (ptsAll L a c (e - c + 1).toNat (b - a + 1).toNat) = P at *
  generalize hmm : misP n d L ys (ptsAll L a c (e - c + 1).toNat (b - a + 1).toNat) = M at *
  have hpl : P.length = (ptsAll L a c (e - c + 1).toNat (b - a + 1).toNat).length := by rw [<- hpp]; simp [prfL]
  have HPP := Lib.hid hpp; have HMM := Lib.hid hmm; have HPN := Lib.hid hpl
  clear hpp hmm hpl
  obtain ⟨ap, cp, hvp, -⟩ := own_cells hF.rp
  obtain ⟨am, cm, hvm, -⟩ := own_cells hF.rm
  subst hvp; subst hvm
  have c1 := hF.bp.c0
  have c2 := hF.bm.c0
  have f1 := hF.bp.free 0
  have f2 := hF.bm.free 0
  have l1 := hF.bp.lt
  have l2 := hF.bm.lt
  have HF9 := Lib.hid hF
  clear hF
  gi_wp2
  gi_region
  all_goals
   have hk := ((((KeepsOthers.setCell W ⟨w.heap.size + 1, 0, none⟩ (.slice ap P.length cp)).trans (KeepsOthers.setCell _ ⟨w.heap.size + 1 + 1, 0, none⟩ (.slice am M.length cm))).trans (KeepsOthers.drew _)).same D _ hK rfl)
   have k1 : Blk ((W.setCell ⟨w.heap.size + 1, 0, none⟩ (.slice ap P.length cp)).setCell ⟨w.heap.size + 1 + 1, 0, none⟩ (.slice am M.length cm)).drew (w.heap.size + 1) 58 #[.slice ap P.length cp] := ((HF9.out.bp.set0 _).other (by omega) _ _)
   have k2 : Blk ((W.setCell ⟨w.heap.size + 1, 0, none⟩ (.slice ap P.length cp)).setCell ⟨w.heap.size + 1 + 1, 0, none⟩ (.slice am M.length cm)).drew (w.heap.size + 1 + 1) 24 #[.slice am M.length cm] := ((HF9.out.bm.other (by omega) _ _).set0 _)
   have o1 : ((W.setCell ⟨w.heap.size + 1, 0, none⟩ (.slice ap P.length cp)).setCell ⟨w.heap.size + 1 + 1, 0, none⟩ (.slice am M.length cm)).drew.ownsRow (w.heap.size + 5) 182 2 (.slice ap P.length cp) P.length (prs P) := own_set3 (own_set3 HF9.out.rp (fun e => by have := (HF9.out.rp.lt _ e).1; simp at this <;> omega)) (fun e => by have := (HF9.out.rp.lt _ e).1; simp at this <;> omega)
   have o2 : ((W.setCell ⟨w.heap.size + 1, 0, none⟩ (.slice ap P.length cp)).setCell ⟨w.heap.size + 1 + 1, 0, none⟩ (.slice am M.length cm)).drew.ownsRow (w.heap.size + 5) 3 1 (.slice am M.length cm) M.length (M.map (Value.int .i64)) := own_set3 (own_set3 HF9.out.rm (fun e => by have := (HF9.out.rm.lt _ e).1; simp at this <;> omega)) (fun e => by have := (HF9.out.rm.lt _ e).1; simp at this <;> omega)
   have hbb : Below w.heap.size W ((W.setCell ⟨w.heap.size + 1, 0, none⟩ (.slice ap P.length cp)).setCell ⟨w.heap.size + 1 + 1, 0, none⟩ (.slice am M.length cm)).drew := bel_drewN (((Below.refl _ W).setCell (p := ⟨w.heap.size + 1, 0, none⟩) (by show w.heap.size <= w.heap.size + 1; omega) _).setCell (p := ⟨w.heap.size + 1 + 1, 0, none⟩) (by show w.heap.size <= w.heap.size + 1 + 1; omega) _) 1
   generalize ((W.setCell ⟨w.heap.size + 1, 0, none⟩ (.slice ap P.length cp)).setCell ⟨w.heap.size + 1 + 1, 0, none⟩ (.slice am M.length cm)).drew = W9 at *
   have O1 := Lib.hid o1; have O2 := Lib.hid o2
   have p1 := cell_kept k1.c0 (grownBy_putObj' _ D (.deferred none)) (fun r e => by cases e; exact ⟨_, hk, rfl⟩)
   have p2 := cell_kept k2.c0 (grownBy_putObj' _ D (.deferred none)) (fun r e => by cases e; exact ⟨_, hk, rfl⟩)
   have r1 := ownsRow_putObj o1 (.deferred none) hk rfl
   have r2 := ownsRow_putObj o2 (.deferred none) hk rfl
   obtain ⟨_, _, he1, hc1⟩ := own_cells r1
   obtain ⟨_, _, he2, hc2⟩ := own_cells r2
   simp only [Value.slice.injEq, true_and] at he1 he2
   obtain ⟨rfl, rfl⟩ := he1
   obtain ⟨rfl, rfl⟩ := he2
   have HC1 := Lib.hid hc1; have HC2 := Lib.hid hc2
   clear o1 o2 k1 k2 r1 r2 hc1 hc2
   gi_wp2
   refine ⟨by simp, .inl ⟨_, _, rfl, run_takeDeferred hk, ?_⟩⟩
   refine ⟨.tuple #[.slice ap P.length cp, .slice am M.length cm], ?_, ⟨ap, cp, am, cm, by rw [<- HPN.out, HMM.out], by rw [HPP.out]; exact HC1.out, by rw [HMM.out]; exact HC2.out⟩, (hB.trans hbb).trans (belowK_b (w := w) (Nat.le_refl _) W9 D _ _ (by omega) hk rfl rfl)⟩
   simp [results, Tryz.f86, go_sem, p1, p2]
 case stop =>
  rintro D c pre W _ _ h _
  exact h.elim
end Go.Proofs.YtdpjdifoonfcdaaGreatDoor

namespace Go.Proofs.YtdpjdifoonfcdaaGreatDoor
open Go.RowKit Go.Shelf
def covE (L a b c d : Int) (cs : List (Int × Int)) (s : ByteArray) : Int := if famOK L a b c d = false then 71 else if bankOK L cs = false then 72 else if barS s = none then 74 else 0
def CovRes (L a b c d : Int) (cs : List (Int × Int)) (s : ByteArray) (w : World) (e : Ending) (w' : World) : Prop :=
 ((covE L a b c d cs s = 0 /\ famOK L a b c d = true /\ bankOK L cs = true /\ ∃ (C : Nat) (bo : Option Addr) (cb N D : Nat), e = .returned (.tuple #[.pointer (some ⟨C, 0, none⟩), .int .i64 0]) /\ barS s = some (N, D) /\ w'.heap[C]? = some (.cells #[.int .i64 L, .int .i64 a, .int .i64 b, .int .i64 c, .int .i64 d, .slice bo cs.length cb, .int .i64 N, .int .i64 D] 159 (0, 0)) /\ Cells w' bo (shpL L (wvs L cs)))
   ∨ (covE L a b c d cs s ≠ 0 /\ e = .returned (.tuple #[.pointer none, .int .i64 (covE L a b c d cs s)]))) /\ Below w.heap.size w w'
theorem covE_0 {L a b c d : Int} {cs : List (Int × Int)} {s : ByteArray} (h : covE L a b c d cs s = 0) : famOK L a b c d = true /\ bankOK L cs = true /\ ∃ N D, barS s = some (N, D) := by
 unfold covE at h
 split at h
 · cases h
 · rename_i h1
   split at h
   · cases h
   · rename_i h2
     split at h
     · cases h
     · rename_i h3
       refine ⟨by simpa using h1, by simpa using h2, ?_⟩
       rcases hb : barS s with _ | ⟨N, D⟩
       · exact absurd hb h3
       · exact ⟨N, D, rfl⟩
theorem cov_no {L a b c d : Int} {cs : List (Int × Int)} {s : ByteArray} {w w' : World} {v : Int} (h : covE L a b c d cs s = v) (h0 : v ≠ 0) (hb : Below w.heap.size w w') : CovRes L a b c d cs s w (.returned (.tuple #[.pointer none, .int .i64 v])) w' := by subst h; exact ⟨.inr ⟨h0, rfl⟩, hb⟩
set_option maxRecDepth 100000 in
set_option maxHeartbeats 2000000 in
theorem covering_any (L a b c d : Int) (cs : List (Int × Int)) (ao : Option Addr) (cap : Nat) (s : ByteArray) (w : World) (ht : Tab w) (hs : s.size <= 140737488351232) (hc : Cells w ao (prs cs)) (hl : cs.length <= 9223372036854775807) (hcap : cs.length <= cap) (hcap2 : cap <= 9223372036854775807) :
 Calls Tryz.prog 73 #[.agg #[.int .i64 L, .int .i64 a, .int .i64 b, .int .i64 c, .int .i64 d], .slice ao cs.length cap, .string s] w (CovRes L a b c d cs s w) := by
 obtain ⟨W0, hW0⟩ : ∃ W0, w.alloc (.cells #[.int .i64 L, .int .i64 a, .int .i64 b, .int .i64 c, .int .i64 d] 43) = W0 := ⟨_, rfl⟩
 have hB0 : Below w.heap.size w W0 := by rw [<- hW0]; exact (Below.refl _ w).alloc (Nat.le_refl _) _
 have hs0 : W0.heap.size = w.heap.size + 1 := by rw [<- hW0]; simp
 have r0 : Blk W0 w.heap.size 43 #[.int .i64 L, .int .i64 a, .int .i64 b, .int .i64 c, .int .i64 d] := by rw [<- hW0]; exact heap_alloc_new w _
 have HKB : Hid (∀ wx, Below W0.heap.size W0 wx -> Blk wx w.heap.size 43 #[.int .i64 L, .int .i64 a, .int .i64 b, .int .i64 c, .int .i64 d] /\ Below w.heap.size w wx /\ Tab wx /\ Cells wx ao (prs cs)) := Lib.hid (fun wx hb => by
  have hbw := hB0.trans (hb.mono (by omega))
  exact ⟨r0.below hb (by omega), hbw, ht.below hbw (Nat.le_refl _), hc.below hbw (Nat.le_refl _)⟩)
 have hfo := fun W => familyOK_any L a b c d W
 have hwv := fun (W : World) (h : Cells W ao (prs cs)) => waves_any L cs ao cap W h hl hcap hcap2
 have hbr := fun (W : World) (h : Tab W) => barOf_any s W h hs
 have hE : covE L a b c d cs s = if famOK L a b c d = false then 71 else if bankOK L cs = false then 72 else if barS s = none then 74 else 0 := rfl
 have r0' := r0
 have q0 : W0.cell? ⟨w.heap.size, 0, none⟩ = some (.int .i64 L) := r0.cell 0
 have q1 : W0.cell? ⟨w.heap.size, 1, none⟩ = some (.int .i64 a) := r0.cell 1
 have q2 : W0.cell? ⟨w.heap.size, 2, none⟩ = some (.int .i64 b) := r0.cell 2
 have q3 : W0.cell? ⟨w.heap.size, 3, none⟩ = some (.int .i64 c) := r0.cell 3
 have q4 : W0.cell? ⟨w.heap.size, 4, none⟩ = some (.int .i64 d) := r0.cell 4
 have HW0 := Lib.hid hW0; have HWV := Lib.hid hwv; have HBR := Lib.hid hbr; have HE := Lib.hid hE; have HB0 := Lib.hid hB0
 clear hW0 hwv hbr hE r0 r0' hc ht hs hs0 hB0
 cases hf : famOK L a b c d with
 | false =>
   rw [hf] at hfo
   have HFO := Lib.hid hfo; have HF := Lib.hid hf
   clear hfo hf
   go_enter Tryz.func73, Tryz.ntmps73
   go_wp2_with (go_at_call 96; refine (HFO.out _).mono ?_; rintro e w1 ⟨rfl, hb1⟩)
   rw [HW0.out] at hb1
   go_ret2
   exact cov_no (by rw [HE.out, HF.out]; rfl) (by decide) (HB0.out.trans (hb1.mono HB0.out.size))
 | true =>
   rw [hf] at hfo
   have HFO := Lib.hid hfo; have HF := Lib.hid hf
   clear hfo hf
   go_enter Tryz.func73, Tryz.ntmps73
   go_wp2_with fail
   rw [HW0.out]
   refine (HFO.out _).mono ?_
   rintro e w1 ⟨rfl, hb1⟩
   have p0 := cell_keep q0 hb1 (Nat.le_refl _)
   go_wp2_with fail
   refine (HWV.out _ (HKB.out _ hb1).2.2.2).mono ?_
   rintro e w2 ⟨hr2, hb2⟩
   have hb02 := hb1.trans (hb2.mono hb1.size)
   cases hbk : bankOK L cs with
   | false =>
     rw [hbk] at hr2
     obtain rfl : e = _ := hr2
     have HBK := Lib.hid hbk
     clear hbk
     go_wp2_with fail
     go_ret2
     exact cov_no (by rw [HE.out, HF.out, HBK.out]; rfl) (by decide) (HKB.out _ hb02).2.1
   | true =>
     rw [hbk] at hr2
     obtain ⟨bo, cb, rfl, hcs⟩ := hr2
     have HBK := Lib.hid hbk; have HCS := Lib.hid hcs
     clear hbk hcs p0 q0 q1 q2 q3 q4
     go_wp2_with fail
     refine (HBR.out _ (HKB.out _ hb02).2.2.1).mono ?_
     rintro e w3 ⟨hr3, hb3⟩
     have hb03 := hb02.trans (hb3.mono hb02.size)
     cases hbs : barS s with
     | none =>
       rw [hbs] at hr3
       obtain ⟨N, D, rfl⟩ := hr3
       have HBS := Lib.hid hbs
       clear hbs
       go_wp2_with fail
       go_ret2
       have hbw := (HKB.out _ hb03).2.1
       exact cov_no (by rw [HE.out, HF.out, HBK.out, if_neg (by decide), if_neg (by decide), if_pos HBS.out]) (by decide) (hbw.alloc hbw.size _)
     | some t =>
       obtain ⟨N, D⟩ := t
       rw [hbs] at hr3
       obtain rfl : e = _ := hr3
       have HBS := Lib.hid hbs
       obtain ⟨hk, hbw, -, -⟩ := HKB.out _ hb03
       have q0 := hk.cell 0
       have q1 := hk.cell 1
       have q2 := hk.cell 2
       have q3 := hk.cell 3
       have q4 := hk.cell 4
       simp only [List.getElem?_toArray, List.getElem?_cons_succ, List.getElem?_cons_zero] at q0 q1 q2 q3 q4
       have hlt := hk.lt
       have HCS3 := Lib.hid (HCS.out.below hb3 (Nat.le_refl _))
       clear hbs hk hb1 hb2 hb3 hb02 hb03
       go_wp2_with fail
       go_ret2
       have hal : Below w3.heap.size w3 ((w3.alloc (.cells #[.int .i64 N, .int .i64 D] 157)).alloc (.cells #[.int .i64 L, .int .i64 a, .int .i64 b, .int .i64 c, .int .i64 d, .slice bo cs.length cb, .int .i64 N, .int .i64 D] 159)) := ((Below.refl _ _).alloc (Nat.le_refl _) _).alloc (by simp) _
       refine ⟨.inl ⟨?_, HF.out, HBK.out, w3.heap.size + 1, bo, cb, N, D, rfl, HBS.out, heap_alloc2_new w3 _ _, HCS3.out.below hal (Nat.le_refl _)⟩, hbw.trans (hal.mono hbw.size)⟩
       rw [HE.out, HF.out, HBK.out, if_neg (by decide), if_neg (by decide), if_neg (by rw [HBS.out]; intro h; cases h)]
end Go.Proofs.YtdpjdifoonfcdaaGreatDoor

namespace Go.Proofs.YtdpjdifoonfcdaaGreatDoor
open Go.RowKit Go.Shelf
def misR (L a b c d : Int) (cs : List (Int × Int)) (s : ByteArray) : List Int :=
 if covE L a b c d cs s = 0 then (match barS s with | some (N, D) => misP N D L (wvs L cs) (ptsAll L a c (d - c + 1).toNat (b - a + 1).toNat) | none => []) else []
def prfR (L a b c d : Int) (cs : List (Int × Int)) (s : ByteArray) : List (Int × Int) :=
 if covE L a b c d cs s = 0 then (match barS s with | some (N, D) => prfL N D L (wvs L cs) (ptsAll L a c (d - c + 1).toNat (b - a + 1).toNat) | none => []) else []
theorem misR_no {L a b c d : Int} {cs : List (Int × Int)} {s : ByteArray} (h : covE L a b c d cs s ≠ 0) : misR L a b c d cs s = [] /\ prfR L a b c d cs s = [] := ⟨if_neg h, if_neg h⟩
theorem misR_yes {L a b c d : Int} {cs : List (Int × Int)} {s : ByteArray} {N D : Nat} (h : covE L a b c d cs s = 0) (hb : barS s = some (N, D)) : misR L a b c d cs s = misP N D L (wvs L cs) (ptsAll L a c (d - c + 1).toNat (b - a + 1).toNat) /\ prfR L a b c d cs s = prfL N D L (wvs L cs) (ptsAll L a c (d - c + 1).toNat (b - a + 1).toNat) := by
 unfold misR prfR
 rw [if_pos h, if_pos h, hb]
 exact ⟨rfl, rfl⟩
theorem wvs_bd (L : Int) (cs : List (Int × Int)) : ∀ y ∈ wvs L cs, y.length = 64 /\ ∀ x ∈ y, -127 <= x /\ x <= 127 := by
 intro y hy
 obtain ⟨c, _, rfl⟩ := List.mem_map.1 hy
 exact ⟨wav_length _ _ _, wav_bd _ _ _⟩
theorem fits_cov {L a b c d : Int} {cs : List (Int × Int)} {s : ByteArray} {C : Nat} {bo : Option Addr} {cb N D : Nat} {w : World} (h : covE L a b c d cs s = 0) (hbs : barS s = some (N, D)) (hf : famOK L a b c d = true) (hbk : bankOK L cs = true)
 (hC : w.heap[C]? = some (.cells #[.int .i64 L, .int .i64 a, .int .i64 b, .int .i64 c, .int .i64 d, .slice bo cs.length cb, .int .i64 N, .int .i64 D] 159 (0, 0))) (hc : Cells w bo (shpL L (wvs L cs))) :
 Calls Tryz.prog 86 #[.pointer (some ⟨C, 0, none⟩)] w fun r w' => (∃ p k cp m cm, r = .returned (.tuple #[.slice p k cp, .slice m (misR L a b c d cs s).length cm]) /\ k = (prfR L a b c d cs s).length /\ Cells w' p (prs (prfR L a b c d cs s)) /\ Cells w' m ((misR L a b c d cs s).map (Value.int .i64))) /\ Below w.heap.size w w' := by
 obtain ⟨h1, h2⟩ := misR_yes h hbs
 obtain ⟨_, _, hN, hD, _, _⟩ := barS_some hbs
 have hlen : (wvs L cs).length = cs.length := by simp [wvs]
 have h64 : cs.length <= 64 := by
  simp only [bankOK, Bool.and_eq_true, decide_eq_true_eq] at hbk
  exact hbk.1.1
 have := fits_any (N : Int) (D : Int) a b c d L (wvs L cs) C bo cb w hf (wvs_bd L cs) (by omega) (by omega) (by omega) (by omega) (by omega) (by rw [hlen]; exact hC) hc
 refine this.mono ?_
 rintro r w' ⟨⟨p, cp, m, cm, rfl, hp, hm⟩, hb⟩
 rw [h1, h2]
 exact ⟨⟨p, _, cp, m, cm, rfl, by simp [prfL], hp, hm⟩, hb⟩
set_option maxRecDepth 100000 in
set_option maxHeartbeats 2000000 in
theorem Misses_any (L a b c d : Int) (cs : List (Int × Int)) (ao : Option Addr) (cap : Nat) (s : ByteArray) (w : World) (ht : Tab w) (hs : s.size <= 140737488351232) (hc : Cells w ao (prs cs)) (hl : cs.length <= 9223372036854775807) (hcap : cs.length <= cap) (hcap2 : cap <= 9223372036854775807) :
 Calls Tryz.prog 27 #[.agg #[.int .i64 L, .int .i64 a, .int .i64 b, .int .i64 c, .int .i64 d], .slice ao cs.length cap, .string s] w fun e w' => (∃ m cm, e = .returned (.tuple #[.slice m (misR L a b c d cs s).length cm, .int .i64 (covE L a b c d cs s)]) /\ Cells w' m ((misR L a b c d cs s).map (Value.int .i64))) /\ Below w.heap.size w w' := by
 obtain ⟨W0, hW0⟩ : ∃ W0, w.alloc (.cells #[.int .i64 L, .int .i64 a, .int .i64 b, .int .i64 c, .int .i64 d] 43) = W0 := ⟨_, rfl⟩
 have hB0 : Below w.heap.size w W0 := by rw [<- hW0]; exact (Below.refl _ w).alloc (Nat.le_refl _) _
 have hcv := covering_any L a b c d cs ao cap s W0 (ht.below hB0 (Nat.le_refl _)) hs (hc.below hB0 (Nat.le_refl _)) hl hcap hcap2
 have HW0 := Lib.hid hW0; have HCV := Lib.hid hcv; have HB0 := Lib.hid hB0
 clear hW0 hcv ht hc hB0
 go_enter Tryz.func27, Tryz.ntmps27
 go_wp2_with fail
 rw [HW0.out]
 refine HCV.out.mono ?_
 rintro e w1 ⟨⟨hE, hf, hbk, C, bo, cb, N, D, rfl, hbs, hC, hcs⟩ | ⟨hE, rfl⟩, hb1⟩
 · have hft := fits_cov hE hbs hf hbk hC hcs
   have HFT := Lib.hid hft; have HE := Lib.hid hE
   have hbw := HB0.out.trans (hb1.mono HB0.out.size)
   clear hft hE hf hbk hbs hC hcs hb1
   go_wp2_with fail
   refine HFT.out.mono ?_
   rintro e w2 ⟨⟨p, k, cp, m, cm, rfl, -, -, hm⟩, hb2⟩
   have hbw2 := hbw.trans (hb2.mono hbw.size)
   have HM := Lib.hid hm
   clear hm hb2
   go_wp2_with fail
   go_ret2
   refine ⟨⟨m, cm, ?_, HM.out⟩, hbw2⟩
   rw [HE.out]; rfl
 · have hbw := HB0.out.trans (hb1.mono HB0.out.size)
   obtain ⟨e1, -⟩ := misR_no hE
   have HE1 := Lib.hid e1
   clear e1 hb1
   generalize hvv : covE L a b c d cs s = v at hE ⊢
   have HVV := Lib.hid hvv
   clear hvv
   have hv : (v != 0) = true := by simpa using hE
   go_wp2_with fail
   go_ret2
   rw [HE1.out, HVV.out]
   exact ⟨⟨none, 0, rfl, Cells.nil _ _⟩, hbw⟩
end Go.Proofs.YtdpjdifoonfcdaaGreatDoor

namespace Go.Proofs.YtdpjdifoonfcdaaGreatDoor
open Go.RowKit
theorem upon_in {l n : Nat} {P : Program} {o : Oper} {a : Act} {next : Act -> World -> Prop} {Q : Exit -> Act -> World -> Prop} {r : Result Next} (h : o.upon P a next Q r) :
 o.uponIn (Fence.wide.inRound l) n P a next Q r := by
 cases r with
 | ok x w' =>
   cases x with
   | value v => exact h
   | skip => exact h
   | defer d => exact h
   | enter f args => exact ⟨(fun h => by cases h), CallsIn.inRound l (callsIn_wide.2 h)⟩
   | row r args => exact ⟨(fun h => by cases h), fun c cs _ => let ⟨v, w', hr, s⟩ := h c cs; ⟨v, w', hr, stepsIn_wide.2 s⟩⟩
   | _ => exact h.elim
 | halt x w' =>
   cases x with
   | panic v => exact h
   | _ => exact h.elim
theorem wpOp_in {l n : Nat} {P : Program} {ops : Array Oper} {Q : Exit -> Act -> World -> Prop} {i : Nat} {K K' : Act -> World -> Prop} {a : Act} {w : World} (hd : ∀ o, ops[i]? = some o -> ∀ c, o.op ≠ .defer c) (hq : ¬ LetsOut Q) (hK : ∀ a w, K a w -> K' a w) (h : wpOp P ops Q i K a w) :
 wpOpIn (Fence.wide.inRound l) n P ops Q i K' a w := by
 unfold wpOp at h
 refine wpOpIn_mono hK ?_
 unfold wpOpIn
 cases ho : ops[i]? with
 | none => rw [ho] at h; exact h
 | some o =>
   rw [ho] at h
   simp only at h ⊢
   split
   · rename_i hw
     rw [if_pos hw] at h
     rcases h with h | h
     · refine ⟨fun _ _ => trivial, ?_⟩
       rw [Oper.semAt_eq _ _ _ (hd o ho)]
       exact upon_in h
     · exact absurd h.2 hq
   · rename_i hw
     rw [if_neg hw] at h
     exact ⟨fun _ _ => trivial, h⟩
theorem wpAny_in {l n : Nat} {P : Program} {md : Region.Mode} {ops : Array Oper} {Q : Exit -> Act -> World -> Prop} (hd : ∀ (i : Nat) (o : Oper), ops[i]? = some o -> ∀ c, o.op ≠ .defer c) (hq : ¬ LetsOut Q) : ∀ (fuel : Nat) (listed : Array Bool) (a : Act) (w : World), wpAny P md ops Q fuel listed a w -> wpAnyIn (Fence.wide.inRound l) n P md ops Q fuel listed a w := by
 intro fuel
 induction fuel with
 | zero => intro listed a w h; exact h
 | succ fuel ih =>
   intro listed a w h
   exact ⟨h.1, fun i hi => wpOp_in (hd i) hq (fun a w h => ih _ a w h) (h.2 i hi)⟩
def noDefer (ops : Array Oper) : Bool := ops.all fun o => match o.op with | .defer _ => false | _ => true
theorem noDefer_spec {ops : Array Oper} (h : noDefer ops = true) : ∀ (i : Nat) (o : Oper), ops[i]? = some o -> ∀ c, o.op ≠ .defer c := by
 intro i o ho c hc
 unfold noDefer at h
 rw [Array.all_eq_true] at h
 obtain ⟨hi, hx⟩ := Array.getElem?_eq_some_iff.1 ho
 have := h i hi
 rw [hx, hc] at this
 cases this
end Go.Proofs.YtdpjdifoonfcdaaGreatDoor

namespace Go.Proofs.YtdpjdifoonfcdaaGreatDoor
open Go.RowKit
theorem exec_load_arr {P : Program} {o : Oper} {a : Act} {w' : World} (ty : TypeId) (x : Operand) (ho : o.op = .load ty x) (p : Addr) (hx : a.eval x = .pointer (some p)) (V : Array Value) (d : TypeDesc) (hc : ∀ j v, V[j]? = some v -> w'.cell? (p.add j) = some v)
 (hu : P.underlying ty = some d) (hd : (match d with | .struct _ | .array _ _ => true | _ => false) = true) (hi : (P.info? ty).map (·.size) = some V.size) :
 (execOp a.eval o).run P w' = .ok (.value (.agg V)) w' := by
 unfold execOp
 have h := run_loadVar_list w' p ty V.toList d (fun j v hj => hc j v (by simpa using hj)) hu hd (by simpa using hi)
 simp only [ho, hx, Instr.loadAt, Instr.sureAddr, Sem.run_bind, Sem.run_pure, Result.andThen_ok, h, Array.toArray_toList]
end Go.Proofs.YtdpjdifoonfcdaaGreatDoor

namespace Go.Proofs.YtdpjdifoonfcdaaGreatDoor
open Go.RowKit
def gainTo (r m : List Bool) (k : Nat) : Nat := ((r.take k).zip (m.take k)).countP fun x => x.1 && x.2
theorem gainTo_step {r m : List Bool} {k : Nat} {p q : Bool} (h : r[k]? = some p) (h2 : m[k]? = some q) : gainTo r m (k + 1) = gainTo r m k + if (p && q) = true then 1 else 0 := by
 have h3 := (List.getElem?_eq_some_iff.1 h).1
 have h4 := (List.getElem?_eq_some_iff.1 h2).1
 unfold gainTo
 rw [List.take_add_one, List.take_add_one, h, h2]
 simp only [Option.toList_some]
 rw [List.zip_append (by rw [List.length_take, List.length_take]; omega), List.countP_append]
 simp [List.countP_cons]
theorem gainTo_le (r m : List Bool) (k : Nat) : gainTo r m k <= k := by
 unfold gainTo
 refine Nat.le_trans List.countP_le_length ?_
 rw [List.length_zip, List.length_take]
 omega
end Go.Proofs.YtdpjdifoonfcdaaGreatDoor

namespace Go.Proofs.YtdpjdifoonfcdaaGreatDoor
open Go.RowKit
theorem own_baseL {w : World} {B B' : Nat} {e : TypeId} {s : Nat} {v : Value} {n : Nat} {xs : List Value} (h : w.ownsRow B e s v n xs) (hB : B' <= B) : w.ownsRow B' e s v n xs := by
 refine ⟨h.1, h.2.imp id ?_⟩
 rintro ⟨g, cap, cur, h1, h2, h3⟩
 exact ⟨g, cap, cur, h1, by omega, h3⟩
def RowsOf (w : World) (base : Nat) (e : TypeId) (vs : List Value) (xss : List (List Value)) : Prop := vs.length = xss.length /\ ∀ (j : Nat) v xs, vs[j]? = some v -> xss[j]? = some xs -> w.ownsRow base e 1 v xs.length xs
theorem RowsOf.nil (w : World) (base : Nat) (e : TypeId) : RowsOf w base e [] [] := ⟨rfl, fun _ _ _ h => by simp at h⟩
theorem RowsOf.below {w w' : World} {base B : Nat} {e : TypeId} {vs : List Value} {xss : List (List Value)} (h : RowsOf w base e vs xss) (hb : Below B w w') (hB : w.heap.size <= B) : RowsOf w' base e vs xss :=
 ⟨h.1, fun j v xs h1 h2 => own_belowK (h.2 j v xs h1 h2) hb hB⟩
theorem RowsOf.kept {w w' : World} {base b' : Nat} {e e' : TypeId} {s n : Nat} {v' : Value} {ys : List Value} {vs : List Value} {xss : List (List Value)} (h : RowsOf w base e vs xss) (hg : w.grownBy w' v'.ownBlock) (ho : w.ownsRow b' e' s v' n ys) (hne : e ≠ e') : RowsOf w' base e vs xss :=
 ⟨h.1, fun j v xs h1 h2 => (h.2 j v xs h1 h2).kept hg (own_ne3 (h.2 j v xs h1 h2) ho hne)⟩
theorem RowsOf.base {w : World} {base base' : Nat} {e : TypeId} {vs : List Value} {xss : List (List Value)} (h : RowsOf w base e vs xss) (hB : base' <= base) : RowsOf w base' e vs xss := ⟨h.1, fun j v xs h1 h2 => own_baseL (h.2 j v xs h1 h2) hB⟩
theorem RowsOf.at {w : World} {base : Nat} {e : TypeId} {vs : List Value} {xss : List (List Value)} (h : RowsOf w base e vs xss) {j : Nat} {xs : List Value} (hj : xss[j]? = some xs) : ∃ a c, vs[j]? = some (.slice a xs.length c) /\ Cells w a xs := by
 obtain ⟨v, hv⟩ := get_of_lt (xs := vs) (show j < vs.length by have := (List.getElem?_eq_some_iff.1 hj).1; have := h.1; omega)
 obtain ⟨a, c, rfl, hc⟩ := own_cells (h.2 j v xs hv hj)
 exact ⟨a, c, hv, hc⟩
theorem RowsOf.snoc {w : World} {base : Nat} {e : TypeId} {vs : List Value} {xss : List (List Value)} {v : Value} {xs : List Value} (h : RowsOf w base e vs xss) (hv : w.ownsRow base e 1 v xs.length xs) : RowsOf w base e (vs ++ [v]) (xss ++ [xs]) := by
 refine ⟨by simp [h.1], fun j u ys h1 h2 => ?_⟩
 by_cases hj : j < vs.length
 · rw [List.getElem?_append_left hj] at h1
   rw [List.getElem?_append_left (by rw [<- h.1]; exact hj)] at h2
   exact h.2 j u ys h1 h2
 · have hj2 : j = vs.length := by
    have := (List.getElem?_eq_some_iff.1 h1).1
    simp at this; omega
   subst hj2
   rw [List.getElem?_append_right (Nat.le_refl _), Nat.sub_self] at h1
   rw [List.getElem?_append_right (by rw [h.1]; exact Nat.le_refl _), h.1, Nat.sub_self] at h2
   simp only [List.getElem?_cons_zero, Option.some.injEq] at h1 h2
   subst h1; subst h2; exact hv
end Go.Proofs.YtdpjdifoonfcdaaGreatDoor
