/- Parts of a proof, in build order: YA, PL, Y2, YC, YB, Y3, YK. -/
import Derived.Test.YtdpjdifoonfcdaaGreatDoorKr7
import Derived.Deep.RegionHeld

namespace Go.Proofs.YtdpjdifoonfcdaaGreatDoor
open Go.RowKit
theorem index_chirps (ao : Option Addr) (xs : List (Int × Int)) (cap : Nat) (p q : Int) (w : World) (hc : Cells w ao (prs xs)) (hl : xs.length <= 9223372036854775807) :
 Calls Tryz.prog 223 #[.slice ao xs.length cap, .agg #[.int .i64 p, .int .i64 q]] w fun e w' => (∃ r : Int, e = .returned (.int .i64 r) /\ decide (0 <= r) = xs.contains (p, q)) /\ Below w.heap.size w w' := by
 obtain ⟨W0, hW0⟩ : ∃ W0, w.alloc (.cells #[.int .i64 p, .int .i64 q] 23) = W0 := ⟨_, rfl⟩
 have hB0 : Below w.heap.size w W0 := by rw [<- hW0]; exact (Below.refl _ w).alloc (Nat.le_refl _) _
 have hs0 : W0.heap.size = w.heap.size + 1 := by rw [<- hW0]; simp
 have r0 : Blk W0 w.heap.size 23 #[.int .i64 p, .int .i64 q] := by rw [<- hW0]; exact heap_alloc_new w _
 have hc0 := hc.below hB0 (Nat.le_refl _)
 have HW0 := Lib.hid hW0; have HB0 := Lib.hid hB0; have HS0 := Lib.hid hs0
 clear hW0 hB0 hs0 hc
 go_enter Tryz.func223, Tryz.ntmps223
 go_wp2_with fail
 rw [HW0.out]
 go_loopw [8] (fun i wr => ∃ k : Nat, k <= xs.length /\ i = .int .i64 k /\ (xs.take k).contains (p, q) = false /\ Below W0.heap.size W0 wr) (fun i _ => xs.length - (intOf i).toNat)
 case atStart => exact ⟨0, Nat.zero_le _, rfl, rfl, Below.refl _ _⟩
 case round =>
  obtain ⟨k, hk, rfl, hany, hbe⟩ := hrel
  have HA := Lib.hid hany; clear hany
  have hbw := HB0.out.trans (hbe.mono (by have := HS0.out; omega))
  have hkb := r0.below hbe (by have := HS0.out; omega)
  by_cases hlt : k < xs.length
  · obtain ⟨⟨x1, x2⟩, hx⟩ := get_of_lt hlt
    obtain ⟨b, off, rfl⟩ := hc0.addr (prs_ne (by omega))
    have c1 := cell_keep (hc0.at (prs_fst hx)) hbe (Nat.le_refl _)
    have c2 := cell_keep (hc0.at (prs_snd hx)) hbe (Nat.le_refl _)
    rw [<- Nat.add_assoc] at c2
    simp only at c1 c2
    have k0 := hkb.c0; have k1 := hkb.c1
    have i1 : (k : Int) < xs.length := by omega
    have i3 : (0 : Int) <= k := by omega
    have hmem := List.mem_of_getElem? hx
    have htk := take_get hx
    have HR0 := Lib.hid r0
    clear hkb r0 hc0
    by_cases hx1 : p = x1
    · by_cases hx2 : q = x2
      · subst hx1; subst hx2
        have hm : xs.contains (p, q) = true := by simpa using hmem
        have HM := Lib.hid hm
        clear hm hx htk hmem
        go_wp2
        go_quiet (fail)
        go_wp2
        go_ret
        exact ⟨⟨_, rfl, by rw [HM.out]; simp⟩, bel_drewN hbw _⟩
      · subst hx1
        have hb1 : (q == x2) = false := by simpa using hx2
        have ht : (xs.take (k + 1)).contains (p, q) = false := by
         rw [htk, List.contains_eq_any_beq, List.any_append, <- List.contains_eq_any_beq, HA.out]
         simp [hx2]
        have HT := Lib.hid ht
        clear ht hx htk hmem hx2
        go_wp2
        go_quiet (fail)
        go_wp2
        go_roundw
        case rel => exact ⟨k + 1, by omega, by go_num, HT.out, bel_drewN hbe _⟩
        case measure => simp [intOf]; omega
    · have hb1 : (p == x1) = false := by simpa using hx1
      have ht : (xs.take (k + 1)).contains (p, q) = false := by
       rw [htk, List.contains_eq_any_beq, List.any_append, <- List.contains_eq_any_beq, HA.out]
       simp [hx1]
      have HT := Lib.hid ht
      clear ht hx htk hmem hx1
      go_wp2
      go_quiet (fail)
      go_wp2
      go_roundw
      case rel => exact ⟨k + 1, by omega, by go_num, HT.out, bel_drewN hbe _⟩
      case measure => simp [intOf]; omega
  · obtain rfl : k = xs.length := by omega
    have HR : Hid (xs.contains (p, q) = false) := Lib.hid (by have := HA.out; rwa [List.take_length] at this)
    go_wp2
    go_ret
    exact ⟨⟨-1, rfl, by rw [HR.out]; rfl⟩, hbw⟩
theorem contains_chirps (ao : Option Addr) (xs : List (Int × Int)) (cap : Nat) (p q : Int) (w : World) (hc : Cells w ao (prs xs)) (hl : xs.length <= 9223372036854775807) :
 Calls Tryz.prog 155 #[.slice ao xs.length cap, .agg #[.int .i64 p, .int .i64 q]] w fun e w' => e = .returned (.bool (xs.contains (p, q))) /\ Below w.heap.size w w' := by
 have hB0 : Below w.heap.size w (w.alloc (.cells #[.int .i64 p, .int .i64 q] 23)) := (Below.refl _ w).alloc (Nat.le_refl _) _
 have hix := index_chirps ao xs cap p q _ (hc.below hB0 (Nat.le_refl _)) hl
 have HIX := Lib.hid hix; have HB0 := Lib.hid hB0
 clear hix hB0 hc
 go_enter Tryz.func155, Tryz.ntmps155
 go_wp2_with fail
 refine HIX.out.mono ?_
 rintro e w1 ⟨⟨r, rfl, hr⟩, hb1⟩
 have hb2 := HB0.out.trans (hb1.mono HB0.out.size)
 have HR := Lib.hid hr
 clear hr hb1
 go_wp2
 go_ret
 exact ⟨ret_bool HR.out, hb2⟩
end Go.Proofs.YtdpjdifoonfcdaaGreatDoor

namespace Go.Proofs.YtdpjdifoonfcdaaGreatDoor
open Go.RowKit
theorem run_loadVar_list {P : Program} (w : World) (p : Addr) (ty : TypeId) (cs : List Value) (d : TypeDesc) (hc : ∀ j v, cs[j]? = some v -> w.cell? (p.add j) = some v)
 (hu : P.underlying ty = some d) (hd : (match d with | .struct _ | .array _ _ => true | _ => false) = true) (hi : (P.info? ty).map (·.size) = some cs.length) :
 (loadVar ty p).run P w = .ok (.agg cs.toArray) w := by
 have hl : (loadCells p cs.length).run P w = .ok cs.toArray w := run_loadCells_list (P := P) w p cs hc
 cases hq : P.info? ty with
 | none => simp [hq] at hi
 | some i =>
   have hs : i.size = cs.length := by simpa [hq] using hi
   have hagg : (isAgg ty).run P w = .ok true w := by
    unfold isAgg
    rw [Sem.run_bind, run_underlying hu w]
    cases d <;> simp_all
   simp [loadVar, Sem.run_bind, hagg, sizeOf, typeInfo, hq, hs, hl]
theorem wpList_load_list {P : Program} {ops : Array Oper} {rest : List Oper} {o : Oper} {a : Act} {w : World} {Q : Exit -> Act -> World -> Prop} (hgd : o.guard = none) (ty : TypeId) (x : Operand) (ho : o.op = .load ty x)
 (p : Addr) (hx : a.eval x = .pointer (some p)) (cs : List Value) (d : TypeDesc) (hc : ∀ j v, cs[j]? = some v -> w.cell? (p.add j) = some v)
 (hu : P.underlying ty = some d) (hd : (match d with | .struct _ | .array _ _ => true | _ => false) = true) (hi : (P.info? ty).map (·.size) = some cs.length)
 (h : wpList P ops Q rest (a.put o.dst (.agg cs.toArray)) w) : wpList P ops Q (o :: rest) a w :=
 wpList_plain hgd fun K hK => by
  unfold Oper.wp execOp
  simp only [ho, hx, Instr.loadAt, Instr.sureAddr, Sem.run_bind, Sem.run_pure, Result.andThen_ok, run_loadVar_list w p ty cs d hc hu hd hi]
  exact hK _ _ h
end Go.Proofs.YtdpjdifoonfcdaaGreatDoor

namespace Go.Proofs.YtdpjdifoonfcdaaGreatDoor
open Go.RowKit
theorem wpList_load_arr {P : Program} {ops : Array Oper} {rest : List Oper} {o : Oper} {a : Act} {w : World} {Q : Exit -> Act -> World -> Prop} (hgd : o.guard = none) (ty : TypeId) (x : Operand) (ho : o.op = .load ty x)
 (p : Addr) (hx : a.eval x = .pointer (some p)) (V : Array Value) (d : TypeDesc) (hc : ∀ j v, V[j]? = some v -> w.cell? (p.add j) = some v)
 (hu : P.underlying ty = some d) (hd : (match d with | .struct _ | .array _ _ => true | _ => false) = true) (hi : (P.info? ty).map (·.size) = some V.size)
 (h : wpList P ops Q rest (a.put o.dst (.agg V)) w) : wpList P ops Q (o :: rest) a w := by
 refine wpList_load_list hgd ty x ho p hx V.toList d (fun j v hj => hc j v (by simpa using hj)) hu hd (by simpa using hi) ?_
 simpa using h
def shpL (L : Int) (ys : List (List Int)) : List Value := ys.flatMap fun y => (shp L y).toList
theorem shpL_snoc (L : Int) (ys : List (List Int)) (y : List Int) : shpL L (ys ++ [y]) = shpL L ys ++ (shp L y).toList := by simp [shpL]
theorem shpL_get {L : Int} {ys : List (List Int)} (h : ∀ y ∈ ys, y.length = 64) {i : Nat} {y : List Int} (hy : ys[i]? = some y) {j : Nat} {v : Value} (hv : (shp L y)[j]? = some v) : (shpL L ys)[i * 65 + j]? = some v := by
 have hj : j < 65 := by
  have := (Array.getElem?_eq_some_iff.1 hv).1
  rw [shp_size, h y (List.mem_of_getElem? hy)] at this; exact this
 induction ys generalizing i with
 | nil => simp at hy
 | cons z r ih =>
   have h2 : (shp L z).toList.length = 65 := by rw [Array.length_toList, shp_size, h z (by simp)]
   have e : shpL L (z :: r) = (shp L z).toList ++ shpL L r := by simp [shpL]
   rw [e]
   cases i with
   | zero =>
     simp only [List.getElem?_cons_zero, Option.some.injEq] at hy
     subst hy
     rw [List.getElem?_append_left (by omega), Nat.zero_mul, Nat.zero_add]
     simpa using hv
   | succ i =>
     simp only [List.getElem?_cons_succ] at hy
     rw [List.getElem?_append_right (by rw [h2]; omega), h2, show (i + 1) * 65 + j - 65 = i * 65 + j by omega]
     exact ih (fun w hw => h w (by simp [hw])) hy
end Go.Proofs.YtdpjdifoonfcdaaGreatDoor

namespace Go.Proofs.YtdpjdifoonfcdaaGreatDoor
open Go.RowKit
theorem foldl_zipSet (l : List Value) : ∀ (k : Nat) (A : Array Value), k + l.length <= A.size ->
 ((l.zipIdx k).foldl (fun (cs : Array Value) (x : Value × Nat) => cs.setIfInBounds (0 + x.2) x.1) A).toList = A.toList.take k ++ (l ++ A.toList.drop (k + l.length)) := by
 induction l with
 | nil => intro k A h; simp
 | cons v r ih =>
   intro k A h
   rw [List.length_cons] at h
   rw [List.zipIdx_cons, List.foldl_cons, ih (k + 1) _ (by rw [Array.size_setIfInBounds]; omega), Nat.zero_add, Array.toList_setIfInBounds]
   have hk : k < A.toList.length := by rw [Array.length_toList]; omega
   rw [List.take_add_one, List.take_set_of_le (Nat.le_refl k), List.getElem?_set_self hk, List.drop_set_of_lt (by omega), List.length_cons, show k + 1 + r.length = k + (r.length + 1) by omega]
   simp
theorem foldl_zipSet_all (V A : Array Value) (h : A.size = V.size) : V.zipIdx.foldl (fun (cs : Array Value) (x : Value × Nat) => cs.setIfInBounds (0 + x.2) x.1) A = V := by
 apply Array.toList_inj.1
 rw [<- Array.foldl_toList, Array.toList_zipIdx, foldl_zipSet V.toList 0 A (by rw [Array.length_toList]; omega)]
 rw [List.take_zero, List.nil_append, Nat.zero_add, Array.length_toList, List.drop_of_length_le (by rw [Array.length_toList]; omega), List.append_nil]
theorem run_buildSlice_one {P : Program} {w : World} (t elem : TypeId) (i : TypeInfo) (V Z : Array Value) (hu : P.underlying t = some (.slice elem)) (hi : P.info? elem = some i) (hz : i.zero = some (.agg Z)) (hsz : i.size = V.size) (hZ : Z.size = V.size) (h0 : V.size ≠ 0) (hm : V.size <= 16777216) :
 (Instr.buildSlice t 1 #[(0, .agg V)]).run P w = .ok (.slice (some ⟨w.heap.size, 0, none⟩) 1 1) (w.alloc (.cells V elem)) := by
 have hm2 : ¬ 16777216 < V.size := by omega
 simp [Instr.buildSlice, run_underlying hu, sizeOf, zeroValue, typeInfo, hi, hz, hsz, h0, hm2, Instr.fill, Value.cells, go_sem]
 have h := foldl_zipSet_all V ((Array.range V.size).map (fun x => Z[x % Z.size]!)) (by simp)
 simp only [Nat.zero_add, Array.size_zipIdx] at h
 rw [h]
theorem wpList_buildSlice_one {P : Program} {ops : Array Oper} {rest : List Oper} {o : Oper} {a : Act} {w : World} {Q : Exit -> Act -> World -> Prop} (hgd : o.guard = none) (t elem : TypeId) (x : Operand) (ho : o.op = .buildSlice t 1 #[(0, x)])
 (i : TypeInfo) (V Z : Array Value) (hx : a.eval x = .agg V) (hu : P.underlying t = some (.slice elem)) (hi : P.info? elem = some i) (hz : i.zero = some (.agg Z)) (hsz : i.size = V.size) (hZ : Z.size = V.size) (h0 : V.size ≠ 0) (hm : V.size <= 16777216)
 (h : wpList P ops Q rest (a.put o.dst (.slice (some ⟨w.heap.size, 0, none⟩) 1 1)) (w.alloc (.cells V elem))) : wpList P ops Q (o :: rest) a w :=
 wpList_plain hgd fun K hK => by
  unfold Oper.wp execOp
  simp only [ho, List.map_toArray, List.map_cons, List.map_nil, hx, Sem.run_bind, run_buildSlice_one t elem i V Z hu hi hz hsz hZ h0 hm, Sem.run_pure, Result.andThen_ok]
  exact hK _ _ h
end Go.Proofs.YtdpjdifoonfcdaaGreatDoor

namespace Go.Proofs.YtdpjdifoonfcdaaGreatDoor
open Go.RowKit Go.Shelf
theorem Tryz.infoShape : (Tryz.prog.info? 129).map (fun i => (i.zero, i.size, i.bytes)) = some (some (.agg (shp 0 (smp 0 0 0))), 65, 520) := by kernel_rfl
theorem prs_take (l : List (Int × Int)) : ∀ k, prs (l.take k) = (prs l).take (k * 2) := by
 induction l with
 | nil => intro k; simp [prs_nil]
 | cons c r ih =>
   intro k
   cases k with
   | zero => simp [prs_nil]
   | succ n => rw [List.take_succ_cons, prs_cons, prs_cons, ih n, show (n + 1) * 2 = n * 2 + 1 + 1 by omega, List.take_succ_cons, List.take_succ_cons]
def chOK (L : Int) (c : Int × Int) : Bool := waveOK L c.1 c.2 && !silentB (wav L c.1 c.2)
def bankOK (L : Int) (cs : List (Int × Int)) : Bool := decide (cs.length <= 64) && cs.all (chOK L) && decide cs.Nodup
def wvs (L : Int) (cs : List (Int × Int)) : List (List Int) := cs.map fun c => wav L c.1 c.2
theorem bankOK_not {L : Int} {cs : List (Int × Int)} {k : Nat} {c : Int × Int} (h : cs[k]? = some c) (hn : chOK L c = false ∨ (cs.take k).contains c = true) : bankOK L cs = false := by
 rw [Bool.eq_false_iff]
 intro hb
 simp only [bankOK, Bool.and_eq_true, decide_eq_true_eq, List.all_eq_true] at hb
 obtain ⟨⟨_, h2⟩, h3⟩ := hb
 rcases hn with hn | hn
 · rw [h2 c (List.mem_of_getElem? h)] at hn; cases hn
 · have h4 : c ∈ cs.take k := by simpa using hn
   obtain ⟨j, hj⟩ := List.mem_iff_getElem?.1 h4
   rw [List.getElem?_take] at hj
   split at hj
   · rename_i hjk
     have := (List.getElem?_inj (List.getElem?_eq_some_iff.1 hj).1 h3).1 (hj.trans h.symm)
     omega
   · cases hj
theorem bankOK_all {L : Int} {cs : List (Int × Int)} (h1 : cs.length <= 64) (h2 : cs.all (chOK L) = true) (h3 : cs.Nodup) : bankOK L cs = true := by
 simp only [bankOK, Bool.and_eq_true, decide_eq_true_eq]
 exact ⟨⟨h1, h2⟩, h3⟩
def WavRes (L : Int) (cs : List (Int × Int)) (w : World) (e : Ending) (w' : World) : Prop :=
 (if bankOK L cs = true then ∃ a c, e = .returned (.tuple #[.slice a cs.length c, .bool true]) /\ Cells w' a (shpL L (wvs L cs)) else e = .returned (.tuple #[.slice none 0 0, .bool false])) /\ Below w.heap.size w w'
theorem wav_no {L : Int} {cs : List (Int × Int)} {w w' : World} (h : bankOK L cs = false) (hb : Below w.heap.size w w') : WavRes L cs w (.returned (.tuple #[.slice none 0 0, .bool false])) w' := ⟨by rw [h]; exact rfl, hb⟩
theorem wav_yes {L : Int} {cs : List (Int × Int)} {w w' : World} {a : Option Addr} {c : Nat} (h : bankOK L cs = true) (hc : Cells w' a (shpL L (wvs L cs))) (hb : Below w.heap.size w w') : WavRes L cs w (.returned (.tuple #[.slice a cs.length c, .bool true])) w' := ⟨by rw [h]; exact ⟨_, _, rfl, hc⟩, hb⟩
set_option maxRecDepth 1000000 in
set_option maxHeartbeats 4000000 in
theorem waves_any (L : Int) (cs : List (Int × Int)) (ao : Option Addr) (cap : Nat) (w : World) (hc : Cells w ao (prs cs)) (hl : cs.length <= 9223372036854775807) (hcap : cs.length <= cap) (hcap2 : cap <= 9223372036854775807) :
 Calls Tryz.prog 87 #[.int .i64 L, .slice ao cs.length cap] w (WavRes L cs w) := by
 by_cases h64 : 64 < cs.length
 · have hbo : bankOK L cs = false := by rw [bankOK, decide_eq_false (by omega)]; rfl
   have HBO := Lib.hid hbo
   have h64i : (64 : Int) < cs.length := by omega
   clear hbo h64 hc
   go_enter Tryz.func87, Tryz.ntmps87
   go_wp2_with fail
   go_ret2
   exact wav_no HBO.out (Below.refl _ _)
 · obtain ⟨Z, hZ⟩ : ∃ Z, Z = shp 0 (smp 0 0 0) := ⟨_, rfl⟩
   have z : Tryz.zeroCells129 = Z := by rw [hZ]; exact zero101
   have hZs : Z.size = 65 := by rw [hZ, shp_size, smp_length]
   have h64' : cs.length <= 64 := by omega
   have h64i : ¬ (64 : Int) < cs.length := by omega
   obtain ⟨i0, hi, hz0, hz1, hz2⟩ := info_parts Tryz.infoShape
   rw [<- hZ] at hz0
   clear hZ h64
   go_enter Tryz.func87, Tryz.ntmps87
   go_wp2_with fail
   go_loopw [6, 16] (fun v i wr => ∃ k : Nat, k <= cs.length /\ i = .int .i64 k /\ (cs.take k).all (chOK L) = true /\ (cs.take k).Nodup /\ wr.ownsRow w.heap.size 129 65 v k (shpL L (wvs L (cs.take k))) /\ Below w.heap.size w wr) (fun _ i _ => cs.length - (intOf i).toNat)
   case atStart => exact ⟨0, Nat.zero_le _, rfl, by simp, by simp, World.ownsRow_nil _ _ _ _, Below.refl _ _⟩
   case round =>
    obtain ⟨k, hk, rfl, hall, hnd, hown, hbe⟩ := hrel
    by_cases hlt : k < cs.length
    · obtain ⟨⟨p, q⟩, hx⟩ := get_of_lt hlt
      obtain ⟨b, off, rfl⟩ := hc.addr (prs_ne (by omega))
      have c1 := cell_keep (hc.at (prs_fst hx)) hbe (Nat.le_refl _)
      have c2 := cell_keep (hc.at (prs_snd hx)) hbe (Nat.le_refl _)
      rw [<- Nat.add_assoc] at c2
      simp only at c1 c2
      have hwv := fun W => wave_any L p q W
      have hVs := waveV_size L p q
      have hst := store_shape (waveV L p q) Z hVs hZs (waveV_one L p q)
      have hone := waveV_one L p q
      generalize hV : waveV L p q = V at hwv hst hVs hone
      have hne : ¬ V = #[] := by intro h; rw [h] at hVs; simp at hVs
      have HWV := Lib.hid hwv; have HALL := Lib.hid hall; have HND := Lib.hid hnd; have HOWN := Lib.hid hown; have HX := Lib.hid hx; have HV := Lib.hid hV; have HC := Lib.hid hc; have HONE := Lib.hid hone
      clear hwv hall hnd hx hV hc hone
      cases hok : waveOK L p q with
      | false =>
        have hbo : bankOK L cs = false := bankOK_not HX.out (.inl (by rw [chOK, hok]; rfl))
        have HBO := Lib.hid hbo
        rw [hok] at HWV
        clear hbo hok hown
        go_wp2_with (go_at_call 63; refine (HWV.out _).mono ?_; rintro e w1 ⟨rfl, hb1⟩)
        have hbw := (hbe.alloc hbe.size (.cells #[.int .i64 p, .int .i64 q] 23)).trans (hb1.mono (by have := hbe.size; simp; omega))
        go_quiet (fail)
        go_wp2_with fail
        go_ret2
        exact wav_no HBO.out (bel_drewN (hbw.alloc hbw.size _) _)
      | true =>
        have hsi := fun W => silent_any L (wav L p q) W (wav_length _ _ _)
        rw [show shp L (wav L p q) = V by rw [<- HV.out]; simp [waveV, hok]] at hsi
        have hct := fun (W : World) (hb : Below w.heap.size w W) => contains_chirps (some ⟨b, off, none⟩) (cs.take k) cap p q W (by rw [prs_take]; exact (HC.out.below hb (Nat.le_refl _)).take _) (by rw [List.length_take]; omega)
        rw [List.length_take, Nat.min_eq_left hk] at hct
        have hinf : (Tryz.prog.info? 129).map (·.size) = some V.size := by rw [hVs]; kernel_rfl
        have hch : chOK L (p, q) = !silentB (wav L p q) := by rw [chOK, hok]; rfl
        rw [hok] at HWV
        have hvw : shp L (wav L p q) = V := by rw [<- HV.out]; simp [waveV, hok]
        have HVW := Lib.hid hvw; have HOB : Hid (∀ j, u6.ownBlock = some j -> w.heap.size <= j) := Lib.hid (fun j e => (HOWN.out.lt j e).1)
        have HSI := Lib.hid hsi; have HCT := Lib.hid hct; have HI := Lib.hid hinf; have HCH := Lib.hid hch
        clear hsi hct hinf hok hch hown hvw
        go_wp2_with (go_at_call 63; refine (HWV.out _).mono ?_; rintro e w1 ⟨rfl, hb1⟩)
        have hbw := (hbe.alloc hbe.size (.cells #[.int .i64 p, .int .i64 q] 23)).trans (hb1.mono (by have := hbe.size; simp; omega))
        have hsz1 : wr.heap.size < w1.heap.size := by have := hb1.size; simp at this; omega
        have hsz0 := hbe.size
        have s1 : (w1.alloc (.cells V 129)).drew.heap[w1.heap.size]? = some (.cells V 129 (0, 0)) := heap_alloc_new w1 _
        have s2 : (w1.alloc (.cells V 129)).drew.heap[wr.heap.size]? = some (.cells #[.int .i64 p, .int .i64 q] 23 (0, 0)) := (hold_old w1 _ _ hsz1).trans ((hb1.block _ (by simp)).trans (heap_alloc_new wr _))
        have k3 : (k : Int) <= cs.length := by omega
        have k4 : (0 : Int) <= k := by omega
        refine wp_region_held_drew (S := fun w' => w'.heap[w1.heap.size]? = some (.cells V 129 (0, 0)) /\ w'.heap[wr.heap.size]? = some (.cells #[.int .i64 p, .int .i64 q] 23 (0, 0))) (by kernel_rfl) ⟨s1, s2⟩ (fun hHeld => ?_)
        refine tkV 0 (.bool true) hHeld ?_
        refine tkV 1 (.bool false) hHeld ?_
        refine tkV 2 (.bool false) hHeld ?_
        refine tkV 3 (.agg V) hHeld ?_ (hy := by intro w9 h; exact exec_load_row 129 _ rfl w1.heap.size rfl 129 V (0, 0) _ h.1 Tryz.underlying129 (by rfl) HI.out)
        refine tkC 4 (fun K hK => ?_)
        go_simp
        refine (HSI.out _).mono ?_
        rintro e w4 ⟨rfl, hb4⟩
        have t1 := (hb4.block _ (by have := hsz1; show w1.heap.size < (w1.alloc (.cells V 129)).heap.size; simp)).trans s1
        have t2 := (hb4.block _ (by have := hsz1; show wr.heap.size < (w1.alloc (.cells V 129)).heap.size; simp; omega)).trans s2
        refine hK.out _ _ ⟨t1, t2⟩ (fun hHeld4 => ?_)
        clear hK K
        try simp only [Act.put, List.setIfInBounds_toArray, List.set_cons_zero, List.set_cons_succ]
        cases hsb : silentB (wav L p q) with
        | true =>
          have hbo : bankOK L cs = false := bankOK_not HX.out (.inl (by rw [HCH.out, hsb]; rfl))
          have HBO := Lib.hid hbo
          clear hbo hsb
          refine tkV 5 (.bool true) hHeld4 ?_
          refine tkV 6 (.bool true) hHeld4 ?_
          refine tkS 7 hHeld4 ?_
          refine tkS 8 hHeld4 ?_
          refine tkS 9 hHeld4 ?_
          refine tkS 10 hHeld4 ?_
          refine tkS 11 hHeld4 ?_
          refine tkV 12 (.bool true) hHeld4 ?_
          refine wpAnyH_done (by kernel_rfl) ?_ _
          have hbw1 : Below w.heap.size w (w1.alloc (.cells V 129)).drew := bel_drewN (hbw.alloc hbw.size _) 1
          have hbw4 := hbw1.trans (hb4.mono hbw1.size)
          go_wp2_with fail
          go_ret2
          exact wav_no HBO.out hbw4
        | false =>
          have hbw1 : Below w.heap.size w (w1.alloc (.cells V 129)).drew := bel_drewN (hbw.alloc hbw.size _) 1
          have hcw4 := hbw1.trans (hb4.mono hbw1.size)
          have hs4 := hb4.size
          have hsv1 : w1.heap.size < w4.heap.size := by have h : (w1.alloc (.cells V 129)).heap.size <= w4.heap.size := hs4; simp at h; omega
          have hsv2 : wr.heap.size < w4.heap.size := by omega
          cases hcb : (cs.take k).contains (p, q) with
          | true =>
            have hbo : bankOK L cs = false := bankOK_not HX.out (.inr hcb)
            have HBO := Lib.hid hbo
            rw [hcb] at HCT
            clear hbo hsb hcb hs4
            refine tkV 5 (.bool false) hHeld4 ?_
            refine tkV 6 (.bool false) hHeld4 ?_
            refine tkV 7 (.slice (some ⟨b, off, none⟩) cs.length cap) hHeld4 ?_
            refine tkV 8 (.int .i64 k) hHeld4 ?_
            refine tkV 9 (.slice (some ⟨b, off, none⟩) k cap) hHeld4 ?_ (hy := by intro w9 h; go_simp; try (intro hcc; omega))
            refine tkV 10 (.agg #[.int .i64 p, .int .i64 q]) hHeld4 ?_ (hy := by intro w9 h; exact exec_load_row 23 _ rfl wr.heap.size rfl 23 #[.int .i64 p, .int .i64 q] (0, 0) _ h.2 Tryz.underlying23 (by rfl) (by kernel_rfl))
            refine tkC 11 (fun K hK => ?_)
            go_simp
            refine (HCT.out _ hcw4).mono ?_
            rintro e w5 ⟨rfl, hb5⟩
            have v1 := (hb5.block _ hsv1).trans t1
            have v2 := (hb5.block _ hsv2).trans t2
            refine hK.out _ _ ⟨v1, v2⟩ (fun hHeld5 => ?_)
            clear hK K
            try simp only [Act.put, List.setIfInBounds_toArray, List.set_cons_zero, List.set_cons_succ]
            refine tkV 12 (.bool true) hHeld5 ?_
            refine wpAnyH_done (by kernel_rfl) ?_ _
            have hbw5 := hcw4.trans (hb5.mono hcw4.size)
            go_wp2_with fail
            go_ret2
            exact wav_no HBO.out hbw5
          | false =>
            rw [hcb] at HCT
            have HSB := Lib.hid hsb; have HCB := Lib.hid hcb
            clear hsb hcb hs4
            refine tkV 5 (.bool false) hHeld4 ?_
            refine tkV 6 (.bool false) hHeld4 ?_
            refine tkV 7 (.slice (some ⟨b, off, none⟩) cs.length cap) hHeld4 ?_
            refine tkV 8 (.int .i64 k) hHeld4 ?_
            refine tkV 9 (.slice (some ⟨b, off, none⟩) k cap) hHeld4 ?_ (hy := by intro w9 h; go_simp; try (intro hcc; omega))
            refine tkV 10 (.agg #[.int .i64 p, .int .i64 q]) hHeld4 ?_ (hy := by intro w9 h; exact exec_load_row 23 _ rfl wr.heap.size rfl 23 #[.int .i64 p, .int .i64 q] (0, 0) _ h.2 Tryz.underlying23 (by rfl) (by kernel_rfl))
            refine tkC 11 (fun K hK => ?_)
            go_simp
            refine (HCT.out _ hcw4).mono ?_
            rintro e w5 ⟨rfl, hb5⟩
            have v1 := (hb5.block _ hsv1).trans t1
            have v2 := (hb5.block _ hsv2).trans t2
            refine hK.out _ _ ⟨v1, v2⟩ (fun hHeld5 => ?_)
            clear hK K
            try simp only [Act.put, List.setIfInBounds_toArray, List.set_cons_zero, List.set_cons_succ]
            refine tkV 12 (.bool false) hHeld5 ?_
            refine wpAnyH_done (by kernel_rfl) ?_ _
            have hbw5 := hcw4.trans (hb5.mono hcw4.size)
            have hbx : Below wr.heap.size wr w5 := by
             have h1 := ((Below.refl wr.heap.size wr).alloc (Nat.le_refl _) (.cells #[.int .i64 p, .int .i64 q] 23)).trans (hb1.mono (by simp))
             have h2 : Below wr.heap.size wr (w1.alloc (.cells V 129)).drew := bel_drewN (h1.alloc h1.size _) 1
             have h3 := h2.trans (hb4.mono h2.size)
             exact h3.trans (hb5.mono h3.size)
            have hown5 := own_belowK HOWN.out hbx (Nat.le_refl _)
            clear hb1 hb4 hb5
            go_wp2_with (first
             | (refine wpList_load_row (by rfl) 129 _ (by rfl) w1.heap.size (by rfl) _ V _ _ v1 Tryz.underlying129 (by rfl) HI.out ?_)
             | (refine wpList_buildSlice_one (by rfl) 152 129 _ (by rfl) i0 V Z (by rfl) Tryz.underlying152 hi hz0 (hz1.trans hVs.symm) (hZs.trans hVs.symm) (by omega) (by omega) ?_)
             | (at_builtin; refine wpList_append_own _ rfl _ _ 152 rfl w.heap.size 129 i0 (.agg Z) 65 520 Tryz.underlying152 hi hz0 hz1 hz2 hZs (by decide) _ _ _ rfl (hown5.alloc _) ⟨w5.heap.size, 0, none⟩ 1 1 V.toList rfl (by rw [Array.length_toList, hVs]) (World.news_of_block (cs := V) (t := 129) (fr := (0, 0)) (heap_alloc_new w5 _)) HONE.out (by unfold maxLen; omega) (by omega) (by have := hbw5.size; simp; omega) ?_; intro v9 wz hown9 hgrow _))
            have hgr : (w5.alloc (.cells V 129)).grownBy wz u6.ownBlock := hgrow
            have hbz := (hbw5.alloc hbw5.size (.cells V 129)).grown hgr (by have := hbw5.size; simp; omega) HOB.out
            have htk := take_get HX.out
            refine ⟨⟨k + 1, by omega, by go_num, ?_, ?_, ?_, hbz⟩, by simp [intOf]; omega⟩
            · rw [htk, List.all_append, HALL.out]; simp [HCH.out, HSB.out]
            · rw [htk, List.nodup_append]
              refine ⟨HND.out, by simp, ?_⟩
              intro a ha c hc2 hac
              rw [List.mem_singleton] at hc2
              subst hc2; subst hac
              have h1 := HCB.out
              rw [Bool.eq_false_iff] at h1
              exact h1 (by simpa using ha)
            · rw [htk, wvs, List.map_append, List.map_cons, List.map_nil, shpL_snoc, HVW.out]
              exact hown9
    · obtain rfl : k = cs.length := by omega
      rw [List.take_length] at hall hnd hown
      have hbo := bankOK_all h64' hall hnd
      obtain ⟨g, c, rfl, hcs⟩ := own_cells hown
      have HCS := Lib.hid hcs; have HBO := Lib.hid hbo
      clear hall hnd hown hbo hcs hc
      go_wp2
      go_ret2
      exact wav_yes HBO.out HCS.out hbe
end Go.Proofs.YtdpjdifoonfcdaaGreatDoor

namespace Go.Proofs.YtdpjdifoonfcdaaGreatDoor
open Go.RowKit Go.Shelf
theorem grown_set3 (w : World) (p : Addr) (u : Value) : w.grownBy (w.setCell p u) (some p.block) :=
 ⟨rfl, rfl, rfl, by simp [World.setCell], fun k _ hk => Below.heap_setCell _ _ _ _ (fun e => hk (by rw [e]))⟩
theorem own_set3 {w : World} {B : Nat} {e : TypeId} {s : Nat} {v : Value} {n : Nat} {xs : List Value} (h : w.ownsRow B e s v n xs) {p : Addr} {u : Value} (hp : v.ownBlock ≠ some p.block) : (w.setCell p u).ownsRow B e s v n xs := h.kept (grown_set3 w p u) (.inr hp)
structure Fts (B1 B2 B3 BF BP n0 : Nat) (fam : Array Value) (C : Addr) (vp vm : Value) (P : List (Int × Int)) (M : List Int) (i : Int) (W : World) : Prop where
 bp : Blk W B1 58 #[vp]
 rp : W.ownsRow n0 182 2 vp P.length (prs P)
 bm : Blk W B2 24 #[vm]
 rm : W.ownsRow n0 3 1 vm M.length (M.map (Value.int .i64))
 bi : Blk W B3 3 #[.int .i64 i]
 bf : Blk W BF 43 fam
 bc : Blk W BP 149 #[.pointer (some C)]
theorem Fts.below {B1 B2 B3 BF BP n0 : Nat} {fam : Array Value} {C : Addr} {vp vm : Value} {P : List (Int × Int)} {M : List Int} {i : Int} {W W' : World} (h : Fts B1 B2 B3 BF BP n0 fam C vp vm P M i W) (hb : Below W.heap.size W W') : Fts B1 B2 B3 BF BP n0 fam C vp vm P M i W' :=
 ⟨h.bp.below hb h.bp.lt, own_belowK h.rp hb (Nat.le_refl _), h.bm.below hb h.bm.lt, own_belowK h.rm hb (Nat.le_refl _), h.bi.below hb h.bi.lt, h.bf.below hb h.bf.lt, h.bc.below hb h.bc.lt⟩
end Go.Proofs.YtdpjdifoonfcdaaGreatDoor

namespace Go.Proofs.YtdpjdifoonfcdaaGreatDoor
open Go.RowKit
theorem exec_load_arr {P : Program} {o : Oper} {a : Act} {w' : World} (ty : TypeId) (x : Operand) (ho : o.op = .load ty x) (p : Addr) (hx : a.eval x = .pointer (some p)) (V : Array Value) (d : TypeDesc) (hc : ∀ j v, V[j]? = some v -> w'.cell? (p.add j) = some v)
 (hu : P.underlying ty = some d) (hd : (match d with | .struct _ | .array _ _ => true | _ => false) = true) (hi : (P.info? ty).map (·.size) = some V.size) :
 (execOp a.eval o).run P w' = .ok (.value (.agg V)) w' := by
 unfold execOp
 have h := run_loadVar_list w' p ty V.toList d (fun j v hj => hc j v (by simpa using hj)) hu hd (by simpa using hi)
 simp only [ho, hx, Instr.loadAt, Instr.sureAddr, Sem.run_bind, Sem.run_pure, Result.andThen_ok, h, Array.toArray_toList]
end Go.Proofs.YtdpjdifoonfcdaaGreatDoor
