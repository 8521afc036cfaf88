/- Parts of a proof, in build order: LQ, JB, JD, JC, LV, LW, LM, LO, LX, JP. -/
import Derived.Test.YtdpjdifoonfcdaaGreatDoorKb10
import Derived.Shelf.SlSortCmp.WholeK
import Derived.Test.YtdpjdifoonfcdaaGreatDoorProg
import Derived.Shelf.SlSortCmp.NoneTotal

namespace Go.Proofs.YtdpjdifoonfcdaaGreatDoor
open Go.RowKit
def ixT (row : List Bool) (k : Nat) : List Nat := (List.range k).filter fun a => row[a]? == some true
theorem ixT_zero (row : List Bool) : ixT row 0 = [] := rfl
theorem ixT_step {row : List Bool} {k : Nat} {p : Bool} (h : row[k]? = some p) : ixT row (k + 1) = ixT row k ++ if p = true then [k] else [] := by
 unfold ixT
 rw [List.range_succ, List.filter_append]
 congr 1
 cases p <;> simp [h]
theorem ixT_lt {row : List Bool} {k a : Nat} (h : a ∈ ixT row k) : a < k := by
 unfold ixT at h
 exact List.mem_range.1 (List.mem_filter.1 h).1
theorem ixT_len (row : List Bool) (k : Nat) : (ixT row k).length <= k := by
 unfold ixT
 refine Nat.le_trans (List.length_filter_le _ _) ?_
 rw [List.length_range]; exact Nat.le_refl _
def cntT (m : List Bool) (ks : List Nat) : Nat := ks.countP fun a => m[a]? == some true
theorem cntT_snoc {m : List Bool} {ks : List Nat} {j a : Nat} {q : Bool} (hj : ks[j]? = some a) (hq : m[a]? = some q) : cntT m (ks.take (j + 1)) = cntT m (ks.take j) + if q = true then 1 else 0 := by
 unfold cntT
 rw [List.take_add_one, hj, List.countP_append]
 congr 1
 cases q <;> simp [hq]
theorem cntT_le (m : List Bool) (ks : List Nat) : cntT m ks <= ks.length := List.countP_le_length
theorem cntT_gain {row m : List Bool} (h : row.length = m.length) : ∀ k, k <= m.length -> cntT m (ixT row k) = gainTo row m k := by
 intro k
 induction k with
 | zero => intro _; rfl
 | succ k ih =>
   intro hk
   obtain ⟨p, hp⟩ := get_of_lt (xs := row) (show k < row.length by omega)
   obtain ⟨q, hq⟩ := get_of_lt (xs := m) (show k < m.length by omega)
   rw [ixT_step hp, gainTo_step hp hq, <- ih (by omega)]
   unfold cntT
   rw [List.countP_append]
   congr 1
   cases p <;> cases q <;> simp [hq]
def delT (m : List Bool) (ks : List Nat) : List Bool := ks.foldl (fun m a => m.set a false) m
theorem delT_snoc {m : List Bool} {ks : List Nat} {j a : Nat} (hj : ks[j]? = some a) : delT m (ks.take (j + 1)) = (delT m (ks.take j)).set a false := by
 unfold delT
 rw [List.take_add_one, hj, List.foldl_append]
 rfl
theorem delT_len (m : List Bool) (ks : List Nat) : (delT m ks).length = m.length := by
 unfold delT
 induction ks generalizing m with
 | nil => rfl
 | cons a ks ih => rw [List.foldl_cons, ih, List.length_set]
theorem delT_mid {row m : List Bool} (h : row.length = m.length) : ∀ k, k <= m.length -> delT m (ixT row k) = midTo row m k := by
 intro k
 induction k with
 | zero => intro _; rw [ixT_zero, midTo_zero]; rfl
 | succ k ih =>
   intro hk
   obtain ⟨p, hp⟩ := get_of_lt (xs := row) (show k < row.length by omega)
   obtain ⟨q, hq⟩ := get_of_lt (xs := m) (show k < m.length by omega)
   rw [ixT_step hp, <- midTo_set h hq hp, <- ih (by omega)]
   cases p
   · have hg : (delT m (ixT row k))[k]? = some q := by rw [ih (by omega), midTo_get h (by omega), hq]
     simp only [Bool.not_false, Bool.and_true, Bool.false_eq_true, if_false, List.append_nil]
     obtain ⟨hl, he⟩ := List.getElem?_eq_some_iff.1 hg
     rw [<- he, List.set_getElem_self]
   · unfold delT
     simp [List.foldl_append]
def atV (p : Nat × Nat) : Int := if p.2 = 0 then -1 else p.1
def nvs (l : List Nat) : List Int := l.map fun a : Nat => (a : Int)
theorem nvs_get {l : List Nat} {j a : Nat} (h : l[j]? = some a) : ((nvs l).map (Value.int .i64))[j]? = some (.int .i64 a) := by
 unfold nvs
 rw [List.getElem?_map, List.getElem?_map, h]; rfl
theorem nvs_len (l : List Nat) : ((nvs l).map (Value.int .i64)).length = l.length := by
 unfold nvs
 rw [List.length_map, List.length_map]
theorem nvs_snoc (l : List Nat) (a : Nat) : (nvs (l ++ [a])).map (Value.int .i64) = (nvs l).map (Value.int .i64) ++ [.int .i64 a] := by simp [nvs]
theorem nvs_ne {l : List Nat} (h : 0 < l.length) : (nvs l).map (Value.int .i64) ≠ [] := by
 intro h2
 have := nvs_len l
 rw [h2] at this
 simp at this; omega
def ixC (g : List (List Bool)) (n : Nat) : List (List Value) := g.map fun r => (nvs (ixT r n)).map (Value.int .i64)
theorem ixC_get {g : List (List Bool)} {n i : Nat} {r : List Bool} (h : g[i]? = some r) : (ixC g n)[i]? = some ((nvs (ixT r n)).map (Value.int .i64)) := by
 unfold ixC
 rw [List.getElem?_map, h]; rfl
end Go.Proofs.YtdpjdifoonfcdaaGreatDoor

namespace Go.Proofs.YtdpjdifoonfcdaaGreatDoor
open Go.RowKit
def htOK (h : Int × Int × Int) : Prop := (0 <= h.1 /\ h.1 <= 1000) /\ (0 <= h.2.1 /\ h.2.1 <= 63) /\ 0 <= h.2.2 /\ h.2.2 <= 268435456
instance (h : Int × Int × Int) : Decidable (htOK h) := by unfold htOK; exact inferInstance
abbrev Ht := {h : Int × Int × Int // htOK h}
instance : Inhabited Ht := ⟨⟨(0, 0, 0), by decide⟩⟩
def encH (x : Ht) : List Value := [.int .i64 x.1.1, .int .i64 x.1.2.1, .int .i64 x.1.2.2]
def hts (l : List Ht) : List Value := l.flatMap encH
theorem hts_len (l : List Ht) : (hts l).length = l.length * 3 := by
 induction l with
 | nil => rfl
 | cons x r ih => rw [show hts (x :: r) = encH x ++ hts r from rfl, List.length_append, ih, List.length_cons]; simp [encH]; omega
end Go.Proofs.YtdpjdifoonfcdaaGreatDoor

namespace Go.Proofs.YtdpjdifoonfcdaaGreatDoor
open Go.RowKit Go.Shelf Go.Sort
theorem encH_len (x : Ht) : (encH x).length = 3 := rfl
theorem hts_get : ∀ (l : List Ht) (t : Nat), t < l.length * 3 -> (hts l)[t]? = some ((encH l.toArray[t / 3]!)[t % 3]!)
 | [], t, h => by simp at h
 | x :: r, t, h => by
   rw [show hts (x :: r) = encH x ++ hts r from rfl]
   by_cases h3 : t < 3
   · rw [List.getElem?_append_left (by rw [encH_len]; exact h3), show t / 3 = 0 by omega, show t % 3 = t by omega]
     have : (x :: r).toArray[0]! = x := rfl
     rw [this, List.getElem?_eq_getElem (by rw [encH_len]; exact h3), getElem!_pos _ _ (by rw [encH_len]; exact h3)]
   · rw [List.getElem?_append_right (by rw [encH_len]; omega), encH_len, hts_get r (t - 3) (by simp at h; omega), show (t - 3) / 3 = t / 3 - 1 by omega, show (t - 3) % 3 = t % 3 by omega]
     have : (x :: r).toArray[t / 3]! = r.toArray[t / 3 - 1]! := by
      obtain ⟨k, hk⟩ : ∃ k, t / 3 = k + 1 := ⟨t / 3 - 1, by omega⟩
      rw [hk]; simp
     rw [this]
def RowH (w : World) (b off : Nat) (l : List Ht) : Prop := HoldsK encH 3 w b off l.toArray
theorem RowH.cells {w : World} {b off : Nat} {l : List Ht} (h : RowH w b off l) : Cells w (some ⟨b, off, none⟩) (hts l) := by
 refine .inr ⟨b, off, rfl, fun j u hu => ?_⟩
 have hj : j < l.length * 3 := by rw [<- hts_len]; exact (List.getElem?_eq_some_iff.1 hu).1
 have h1 := (h j (by simpa using hj)).1
 rw [hts_get l j hj] at hu
 rw [h1, get_flatK encH 3 l.toArray j (by simpa using hj)]
 simpa using hu
theorem RowH.below {w w' : World} {b off B : Nat} {l : List Ht} (h : RowH w b off l) (hb : Below B w w') (hB : b < B) : RowH w' b off l := fun j hj => by
 obtain ⟨h1, h2⟩ := h j hj
 exact ⟨(hb.cell (p := ⟨b, off + j, none⟩) hB).trans h1, (hb.frozen (p := ⟨b, off + j, none⟩) hB).trans h2⟩
end Go.Proofs.YtdpjdifoonfcdaaGreatDoor

namespace Go.Proofs.YtdpjdifoonfcdaaGreatDoor
open Go.RowKit Go.Shelf
theorem own_ne_blk {w : World} {B b : Nat} {e t : TypeId} {k n : Nat} {v : Value} {xs : List Value} {cs : Array Value} (h : w.ownsRow B e k v n xs) (h' : Blk w b t cs) (hne : e ≠ t) : some b ≠ v.ownBlock := by
 intro he
 rcases h.2 with ⟨rfl, _⟩ | ⟨g, cap, cur, rfl, _, hg, _⟩
 · cases he
 · simp only [Value.ownBlock, Option.some.injEq] at he
   subst he
   rw [show w.heap[b]? = _ from h'] at hg
   cases hg
   exact hne rfl
def HitRow (B : Nat) (w : World) (v : Value) (l : List Ht) : Prop := (v = .slice none 0 0 /\ l = []) ∨ ∃ b c, v = .slice (some ⟨b, 0, none⟩) l.length c /\ B <= b /\ b < w.heap.size /\ RowH w b 0 l
theorem HitRow.cells {B : Nat} {w : World} {v : Value} {l : List Ht} (h : HitRow B w v l) : ∃ a c, v = .slice a l.length c /\ Cells w a (hts l) := by
 rcases h with ⟨rfl, rfl⟩ | ⟨b, c, rfl, _, _, h⟩
 · exact ⟨none, 0, rfl, Cells.nil _ _⟩
 · exact ⟨_, c, rfl, h.cells⟩
end Go.Proofs.YtdpjdifoonfcdaaGreatDoor

namespace Go.Proofs.YtdpjdifoonfcdaaGreatDoor
open Go.RowKit Go.Shelf
noncomputable def buildLoop (k : Nat) : Code := (loopsIn (Tryz.f19.body.getD .skip)).getD k .skip
def wvP (L : Int) (l : List (Pt L)) : List (List Int) := l.map fun x => wav L x.1.1 x.1.2
theorem cells_two {w : World} {b off : Nat} {u v : Value} (h1 : w.cell? ⟨b, off, none⟩ = some u) (h2 : w.cell? ⟨b, off + 1, none⟩ = some v) : ∀ j x, (#[u, v] : Array Value)[j]? = some x -> w.cell? ((⟨b, off, none⟩ : Addr).add j) = some x := by
 intro j x hj
 rw [Addr.add_lit]
 match j, hj with
 | 0, hj => simp at hj; subst hj; exact h1
 | 1, hj => simp at hj; subst hj; exact h2
theorem RowsOf.lt {w : World} {base : Nat} {e : TypeId} {vs : List Value} {xss : List (List Value)} (h : RowsOf w base e vs xss) : ∀ v ∈ vs, ∀ j, v.ownBlock = some j -> j < w.heap.size := by
 intro v hv j hj
 obtain ⟨i, hi, rfl⟩ := List.mem_iff_getElem.1 hv
 obtain ⟨xs, hxs⟩ := get_of_lt (xs := xss) (show i < xss.length by have := h.1; omega)
 exact ((h.2 i _ xs (List.getElem?_eq_getElem hi) hxs).lt j hj).2
theorem RowsOf.keptN {w w' : World} {base : Nat} {e : TypeId} {vs : List Value} {xss : List (List Value)} {row : Option Nat} (h : RowsOf w base e vs xss) (hg : w.grownBy w' row) (hn : ∀ v ∈ vs, v.ownBlock = none ∨ v.ownBlock ≠ row) : RowsOf w' base e vs xss :=
 ⟨h.1, fun j v xs h1 h2 => (h.2 j v xs h1 h2).kept hg (hn v (List.mem_of_getElem? h1))⟩
theorem RowsOf.setB {w : World} {base B : Nat} {e T : TypeId} {cs : Array Value} {vs : List Value} {xss : List (List Value)} (h : RowsOf w base e vs xss) (hb : Blk w B T cs) (hT : e ≠ T) (i : Nat) (u : Value) : RowsOf (w.setCell ⟨B, i, none⟩ u) base e vs xss :=
 ⟨h.1, fun j v xs h1 h2 => own_set3 (p := ⟨B, i, none⟩) (h.2 j v xs h1 h2) (fun hh => own_ne_blk (h.2 j v xs h1 h2) hb hT hh.symm)⟩
theorem set_midL {α : Type} (vs : List α) (c u : α) (r : List α) {b : Nat} (h : vs.length = b) : (vs ++ c :: r).set b u = vs ++ u :: r := by
 subst h
 rw [List.set_append_right _ _ (Nat.le_refl _), Nat.sub_self, List.set_cons_zero]
theorem get_midL {α : Type} (vs : List α) (c : α) (r : List α) {b : Nat} (h : vs.length = b) : (vs ++ c :: r)[b]? = some c := by
 subst h
 rw [List.getElem?_append_right (Nat.le_refl _), Nat.sub_self]; rfl
set_option maxRecDepth 1000000 in
def Loop1X {L : Int} (l : List (Pt L)) (g : List (List Bool)) (B4 B9 C : Nat) (a9 : Option Addr) (e9 : Nat) (W : World) (df : List Deferred) (s0 s1 s2 s3 s4 s5 s7 s8 s10 s11 s19 s20 s21 s22 s23 s24 s25 s26 s27 s28 s29 s30 s31 s32 s33 s34 s35 s36 s37 s38 s39 s40 s41 s42 s43 s44 s45 s46 s47 s48 s49 s50 s51 s52 s53 s91 s92 s93 s94 s95 s96 s97 s98 s99 s100 s101 s102 s103 s104 s105 s106 s107 s108 s109 s110 s111 s112 s113 s114 s115 s116 s117 s118 s119 s120 s121 s122 s123 s124 s125 s126 s127 s128 s129 s130 s131 s132 s133 s134 s135 s136 s137 s138 s139 s140 s141 s142 s143 s144 s145 s146 s147 s148 s149 s150 s151 : Value) (a : Act) (w' : World) : Prop :=
 (∃ vs, Blk w' B4 24 vs.toArray /\ vs.length = l.length /\ RowsOf w' B4 3 vs (ixC g l.length)) /\ Below B4 W w' /\ ∃ v13 v14 v15 v16 v17 v18 v56 v57 v58 v59 v60 v61 v62 v63 v64 v65 v66 v67 v68 v69 v70 v71 v72 v73 v74 v75 v76 v77 v78 v79 v80 v81 v82 v83 v84 v85 v86 v87 v88 v89 v90 : Value, a = ⟨#[s0, s1, s2, s3, s4, s5, .pointer (some ⟨C, 0, none⟩), s7, s8, .pointer (some ⟨B9, 0, none⟩), s10, s11, .slice (some ⟨B4, 0, none⟩) l.length l.length, v13, v14, v15, v16, v17, v18, s19, s20, s21, s22, s23, s24, s25, s26, s27, s28, s29, s30, s31, s32, s33, s34, s35, s36, s37, s38, s39, s40, s41, s42, s43, s44, s45, s46, s47, s48, s49, s50, s51, s52, s53, .slice a9 l.length e9, .int .i64 l.length, v56, v57, v58, v59, v60, v61, v62, v63, v64, v65, v66, v67, v68, v69, v70, v71, v72, v73, v74, v75, v76, v77, v78, v79, v80, v81, v82, v83, v84, v85, v86, v87, v88, v89, v90, s91, s92, s93, s94, s95, s96, s97, s98, s99, s100, s101, s102, s103, s104, s105, s106, s107, s108, s109, s110, s111, s112, s113, s114, s115, s116, s117, s118, s119, s120, s121, s122, s123, s124, s125, s126, s127, s128, s129, s130, s131, s132, s133, s134, s135, s136, s137, s138, s139, s140, s141, s142, s143, s144, s145, s146, s147, s148, s149, s150, s151], df⟩
set_option maxRecDepth 1000000 in
set_option maxHeartbeats 8000000 in
theorem build_loop1 (n m : Nat) (L : Int) (l : List (Pt L)) (g : List (List Bool)) (B4 B9 C : Nat) (a9 : Option Addr) (e9 : Nat) (W : World) (Q0 : Exit -> Act -> World -> Prop) (df : List Deferred) (s0 s1 s2 s3 s4 s5 s7 s8 s10 s11 s13 s14 s15 s16 s17 s18 s19 s20 s21 s22 s23 s24 s25 s26 s27 s28 s29 s30 s31 s32 s33 s34 s35 s36 s37 s38 s39 s40 s41 s42 s43 s44 s45 s46 s47 s48 s49 s50 s51 s52 s53 s57 s58 s59 s60 s61 s62 s63 s64 s65 s66 s67 s68 s69 s70 s71 s72 s73 s74 s75 s76 s77 s78 s79 s80 s81 s82 s83 s84 s85 s86 s87 s88 s89 s90 s91 s92 s93 s94 s95 s96 s97 s98 s99 s100 s101 s102 s103 s104 s105 s106 s107 s108 s109 s110 s111 s112 s113 s114 s115 s116 s117 s118 s119 s120 s121 s122 s123 s124 s125 s126 s127 s128 s129 s130 s131 s132 s133 s134 s135 s136 s137 s138 s139 s140 s141 s142 s143 s144 s145 s146 s147 s148 s149 s150 s151 : Value)
 (hgd : g = svM n m L l l) (hL1 : 1 <= L) (hL : L <= 64) (hn6 : n <= 999999) (hm6 : m <= 999999) (h400 : l.length <= 400) (hW : B4 < W.heap.size)
 (HK : Hid (∀ ws, Below B4 W ws -> ws.cell? ⟨B9, 0, none⟩ = some (.slice a9 l.length e9) /\ Cells ws a9 (shpL L (wvP L l)) /\ ws.cell? ⟨C, 6, none⟩ = some (.int .i64 n) /\ ws.cell? ⟨C, 7, none⟩ = some (.int .i64 m)))
 (H0 : Hid (Blk W B4 24 (List.replicate l.length (Value.slice none 0 0)).toArray))
 (hexit : ∀ a' w', Loop1X l g B4 B9 C a9 e9 W df s0 s1 s2 s3 s4 s5 s7 s8 s10 s11 s19 s20 s21 s22 s23 s24 s25 s26 s27 s28 s29 s30 s31 s32 s33 s34 s35 s36 s37 s38 s39 s40 s41 s42 s43 s44 s45 s46 s47 s48 s49 s50 s51 s52 s53 s91 s92 s93 s94 s95 s96 s97 s98 s99 s100 s101 s102 s103 s104 s105 s106 s107 s108 s109 s110 s111 s112 s113 s114 s115 s116 s117 s118 s119 s120 s121 s122 s123 s124 s125 s126 s127 s128 s129 s130 s131 s132 s133 s134 s135 s136 s137 s138 s139 s140 s141 s142 s143 s144 s145 s146 s147 s148 s149 s150 s151 a' w' -> Q0 (.exit 2) a' w') :
 Code.wp Tryz.prog (Code.loop (buildLoop 0)) Q0 ⟨#[s0, s1, s2, s3, s4, s5, .pointer (some ⟨C, 0, none⟩), s7, s8, .pointer (some ⟨B9, 0, none⟩), s10, s11, .slice (some ⟨B4, 0, none⟩) l.length l.length, s13, s14, s15, s16, s17, s18, s19, s20, s21, s22, s23, s24, s25, s26, s27, s28, s29, s30, s31, s32, s33, s34, s35, s36, s37, s38, s39, s40, s41, s42, s43, s44, s45, s46, s47, s48, s49, s50, s51, s52, s53, .slice a9 l.length e9, .int .i64 l.length, .int .i64 0, s57, s58, s59, s60, s61, s62, s63, s64, s65, s66, s67, s68, s69, s70, s71, s72, s73, s74, s75, s76, s77, s78, s79, s80, s81, s82, s83, s84, s85, s86, s87, s88, s89, s90, s91, s92, s93, s94, s95, s96, s97, s98, s99, s100, s101, s102, s103, s104, s105, s106, s107, s108, s109, s110, s111, s112, s113, s114, s115, s116, s117, s118, s119, s120, s121, s122, s123, s124, s125, s126, s127, s128, s129, s130, s131, s132, s133, s134, s135, s136, s137, s138, s139, s140, s141, s142, s143, s144, s145, s146, s147, s148, s149, s150, s151], df⟩ W := by
 obtain ⟨Q1, hq1, hpan, hexit⟩ : ∃ Q1 : Exit -> Act -> World -> Prop, (∀ e a w, Q1 e a w -> Q0 e a w) /\ (∀ c (a : Act) (d : Option Tmp) (v : Value) w, Q1 (.panic c) (a.put d v) w -> Q1 (.panic c) a w) /\ (∀ a' w', Loop1X l g B4 B9 C a9 e9 W df s0 s1 s2 s3 s4 s5 s7 s8 s10 s11 s19 s20 s21 s22 s23 s24 s25 s26 s27 s28 s29 s30 s31 s32 s33 s34 s35 s36 s37 s38 s39 s40 s41 s42 s43 s44 s45 s46 s47 s48 s49 s50 s51 s52 s53 s91 s92 s93 s94 s95 s96 s97 s98 s99 s100 s101 s102 s103 s104 s105 s106 s107 s108 s109 s110 s111 s112 s113 s114 s115 s116 s117 s118 s119 s120 s121 s122 s123 s124 s125 s126 s127 s128 s129 s130 s131 s132 s133 s134 s135 s136 s137 s138 s139 s140 s141 s142 s143 s144 s145 s146 s147 s148 s149 s150 s151 a' w' -> Q1 (.exit 2) a' w') :=
  ⟨fun e a w => (∀ c, e ≠ .panic c) /\ Q0 e a w, fun _ _ _ h => h.2, fun c _ _ _ _ h => absurd rfl (h.1 c), fun a' w' h => ⟨(fun c h => by cases h), hexit a' w' h⟩⟩
 refine wp_mono (Q := Q1) ?_ hq1
 clear hq1
 have HEX := Lib.hid hexit
 clear hexit
 have hsh : ∀ (xa xb : Pt L) (wx : World), Calls Tryz.prog 75 #[.agg #[.int .i64 n, .int .i64 m], .agg (shp L (wav L xa.1.1 xa.1.2)), .agg (shp L (wav L xb.1.1 xb.1.2))] wx fun e w' => (∃ v, e = .returned (.tuple #[.int .i64 v, .bool (svB n m L xb.1 xa.1)])) /\ Below wx.heap.size wx w' := by
  intro xa xb wx
  have h := shift_any (n : Int) (m : Int) L.toNat (wav L xa.1.1 xa.1.2) (wav L xb.1.1 xb.1.2) wx (wav_length _ _ _) (wav_length _ _ _) (by omega) (by omega) (wav_bd _ _ _) (wav_bd _ _ _) (by omega) (by omega) (by omega) (by omega)
  have e1 : ∀ xs, shp ((L.toNat : Nat) : Int) xs = shp L xs := fun xs => by rw [show ((L.toNat : Nat) : Int) = L by omega]
  rw [e1, e1] at h
  exact h.mono fun e w' ⟨h1, h2⟩ => ⟨⟨_, h1⟩, h2⟩
 have hg : ∀ (b : Nat) (xb : Pt L), l[b]? = some xb -> ∃ row, g[b]? = some row /\ row.length = l.length /\ ∀ (a : Nat) (xa : Pt L), l[a]? = some xa -> row[a]? = some (svB n m L xb.1 xa.1) := fun b xb h => ⟨l.map fun xa => svB n m L xb.1 xa.1, by rw [hgd, svM, List.getElem?_map, h]; rfl, List.length_map _, fun a xa ha => by rw [List.getElem?_map, ha]; rfl⟩
 have hcl : ∀ (ws : World) (b9 o9 b : Nat) (xb : Pt L), l[b]? = some xb -> Cells ws (some ⟨b9, o9, none⟩) (shpL L (wvP L l)) -> ∀ j v, (shp L (wav L xb.1.1 xb.1.2))[j]? = some v -> ws.cell? ((⟨b9, o9 + b * 65, none⟩ : Addr).add j) = some v := by
  intro ws b9 o9 b xb hx hc j v hv
  rw [Addr.add_lit, Nat.add_assoc]
  exact hc.at (shpL_get (L := L) (fun z hz => by simp only [wvP, List.mem_map] at hz; obtain ⟨c, _, rfl⟩ := hz; exact wav_length _ _ _) (by rw [wvP, List.getElem?_map, hx]; rfl) hv)
 have hne : 0 < l.length -> shpL L (wvP L l) ≠ [] := by
  intro h h2
  have h3 := shpL_length L (wvP L l) (fun z hz => by simp only [wvP, List.mem_map] at hz; obtain ⟨c, _, rfl⟩ := hz; exact wav_length _ _ _)
  rw [h2] at h3
  simp only [wvP, List.length_map, List.length_nil] at h3
  omega
 have hglen : g.length = l.length := by rw [hgd]; exact svM_len n m L l
 obtain ⟨Z, hZ⟩ : ∃ Z, Z = shp 0 (smp 0 0 0) := ⟨_, rfl⟩
 have z : Tryz.zeroCells129 = Z := by rw [hZ]; exact zero101
 have hZs : Z.size = 65 := by rw [hZ, shp_size, smp_length]
 have hst : ∀ x : Pt L, ∀ wx : World, (storeCells ⟨wx.heap.size, 0, none⟩ (shp L (wav L x.1.1 x.1.2)).toList 0).run Tryz.prog (wx.alloc (.cells Z 129)) = .ok () (wx.alloc (.cells (shp L (wav L x.1.1 x.1.2)) 129)) := fun x => store_shape (shp L (wav L x.1.1 x.1.2)) Z (by rw [shp_size, wav_length]) hZs shp_mem
 have hVsz : ∀ x : Pt L, (shp L (wav L x.1.1 x.1.2)).size = 65 := fun x => by rw [shp_size, wav_length]
 obtain ⟨i0, hi, hz0, hz1, hz2⟩ := info_parts Tryz.infoInt
 have HSH := Lib.hid hsh; have HG := Lib.hid hg; have HCL := Lib.hid hcl; have HNE := Lib.hid hne; have HST := Lib.hid hst; have HVS := Lib.hid hVsz; have HGL := Lib.hid hglen; have HI := Lib.hid hi
 clear hsh hg hcl hne hst hVsz hglen hgd hZ hi
 dsimp only
 have hwl : buildLoop 0 = buildLoop 0 := rfl
 conv at hwl => rhs; whnf
 rw [hwl]
 clear hwl
 go_loopw [56] (fun iv ws => ∃ (b : Nat) (vs : List Value), b <= l.length /\ iv = .int .i64 b /\ Blk ws B4 24 (vs ++ List.replicate (l.length - b) (Value.slice none 0 0)).toArray /\ vs.length = b /\ RowsOf ws B4 3 vs (ixC (g.take b) l.length) /\ Below B4 W ws) (fun iv _ => l.length - (intOf iv).toNat)
 case atStart => exact ⟨0, [], Nat.zero_le _, rfl, by simpa using H0.out, rfl, by rw [List.take_zero]; exact RowsOf.nil _ _ _, Below.refl _ _⟩
 case round =>
  obtain ⟨b, vs, hb, rfl, hblk, hvl, hrows, hbe⟩ := hrel
  obtain ⟨wo, hwo⟩ : ∃ wo, wo = wr := ⟨_, rfl⟩
  subst hwo
  obtain ⟨z9, hcells, z6, z7⟩ := HK.out wo hbe
  have hsr := hbe.size
  by_cases hlt : b < l.length
  · obtain ⟨xb, hxb⟩ := get_of_lt hlt
    obtain ⟨row, hrow, hrl, hrg⟩ := HG.out b xb hxb
    obtain ⟨bb, ob, rfl⟩ := hcells.addr (HNE.out (by omega))
    have hce := HCL.out wo bb ob b xb hxb hcells
    have hst := HST.out xb
    have hsh := fun xa wx => HSH.out xa xb wx
    have hVs := HVS.out xb
    have hrep : List.replicate (l.length - b) (Value.slice none 0 0) = Value.slice none 0 0 :: List.replicate (l.length - b - 1) (Value.slice none 0 0) := by
     rw [show l.length - b = (l.length - b - 1) + 1 by omega, List.replicate_succ]; simp
    rw [hrep] at hblk
    generalize shp L (wav L xb.1.1 xb.1.2) = V1 at *
    have hne1 : ¬ V1 = #[] := by intro h; rw [h] at hVs; simp at hVs
    have hinf : (Tryz.prog.info? 129).map (·.size) = some V1.size := by rw [hVs]; kernel_rfl
    have i1 : (b : Int) < (l.length : Int) := by omega
    have i2 : (0 : Int) <= (b : Int) := by omega
    have hal := hbe.alloc (by omega) (.cells V1 129)
    obtain ⟨y9, -, -, -⟩ := HK.out _ hal
    have hV1 := Blk.new wo 129 V1
    have hblk1 := hblk.alloc (.cells V1 129)
    have hrows1 := hrows.below ((Below.refl _ wo).alloc (Nat.le_refl _) (.cells V1 129)) (Nat.le_refl _)
    have hlts := hrows.lt
    have HCE := Lib.hid hce; have HI1 := Lib.hid hinf; have HS1 := Lib.hid hsh; have HV1 := Lib.hid hV1; have HBK1 := Lib.hid hblk1; have HRW1 := Lib.hid hrows1; have HLT := Lib.hid hlts; have HAL := Lib.hid hal; have HROW := Lib.hid hrow; have HRL := Lib.hid hrl; have HRG := Lib.hid hrg; have HVL := Lib.hid hvl
    have hsz1 : (wo.alloc (.cells V1 129)).heap.size = wo.heap.size + 1 := by simp
    have HSZ1 := Lib.hid hsz1
    clear hce hinf hsh hV1 hblk1 hrows1 hlts hal hrow hrl hrg hvl hblk hrows hbe hcells hxb hrep hsz1 z6 z7
    go_wp2_with (refine wpList_load_arr (by rfl) 129 _ (by rfl) ⟨bb, ob + b * 65, none⟩ (by rfl) V1 _ HCE.out Tryz.underlying129 (by rfl) HI1.out ?_)
    generalize wo.alloc (.cells V1 129) = W1 at *
    clear y9 z9 hst
    go_loopw [63] (fun av ws => ∃ (a : Nat) (cur : Value), a <= l.length /\ av = .int .i64 a /\ Blk ws B4 24 (vs ++ cur :: List.replicate (l.length - b - 1) (Value.slice none 0 0)).toArray /\ RowsOf ws B4 3 vs (ixC (g.take b) l.length) /\ ws.ownsRow W1.heap.size 3 1 cur (ixT row a).length ((nvs (ixT row a)).map (Value.int .i64)) /\ Blk ws wo.heap.size 129 V1 /\ Below B4 W ws /\ W1.heap.size <= ws.heap.size) (fun av _ => l.length - (intOf av).toNat)
    case atStart => exact ⟨0, .slice none 0 0, Nat.zero_le _, rfl, HBK1.out, HRW1.out, World.ownsRow_nil _ _ _ _, HV1.out, HAL.out, Nat.le_refl _⟩
    case round =>
     obtain ⟨a, cur, ha, rfl, hblk2, hrows2, hcur, hV2, hbe2, hsz2⟩ := hrel
     obtain ⟨-, hcells2, -, -⟩ := HK.out wr hbe2
     have hsW1 := HSZ1.out
     by_cases hlt2 : a < l.length
     · obtain ⟨xa, hxa⟩ := get_of_lt hlt2
       have hstep := ixT_step (HRG.out a xa hxa)
       have hce2 := HCL.out wr bb ob a xa hxa hcells2
       have hst2 := HST.out xa
       have hsh2 := fun wx => HS1.out xa wx
       have hVs2 := HVS.out xa
       have hil := ixT_len row a
       generalize svB n m L xb.1 xa.1 = p at *
       generalize shp L (wav L xa.1.1 xa.1.2) = V2 at *
       have hne2 : ¬ V2 = #[] := by intro h; rw [h] at hVs2; simp at hVs2
       have hinf2 : (Tryz.prog.info? 129).map (·.size) = some V2.size := by rw [hVs2]; kernel_rfl
       have j1 : (a : Int) < (l.length : Int) := by omega
       have j2 : (0 : Int) <= (a : Int) := by omega
       have hal2 := hbe2.alloc (by omega) (.cells V2 129)
       obtain ⟨-, -, y6, y7⟩ := HK.out _ hal2
       have hVa := hV2.alloc (.cells V2 129)
       have hVb := Blk.new wr 129 V2
       have hblk3 := hblk2.alloc (.cells V2 129)
       have hrows3 := hrows2.below ((Below.refl _ wr).alloc (Nat.le_refl _) (.cells V2 129)) (Nat.le_refl _)
       have hcur3 := hcur.alloc (.cells V2 129)
       have hsz3 : (wr.alloc (.cells V2 129)).heap.size = wr.heap.size + 1 := by simp
       have HCE2 := Lib.hid hce2; have HI2 := Lib.hid hinf2; have HS2 := Lib.hid hsh2; have HBK3 := Lib.hid hblk3; have HRW3 := Lib.hid hrows3; have HCUR3 := Lib.hid hcur3; have HAL2 := Lib.hid hal2; have HVA := Lib.hid hVa; have HVB := Lib.hid hVb; have HSZ3 := Lib.hid hsz3; have HSTP := Lib.hid hstep
       clear hce2 hinf2 hsh2 hblk3 hrows3 hcur3 hal2 hVa hVb hsz3 hblk2 hrows2 hcur hV2 hbe2 hcells2 hxa hstep
       go_wp2_with (refine wpList_load_arr (by rfl) 129 _ (by rfl) ⟨bb, ob + a * 65, none⟩ (by rfl) V2 _ HCE2.out Tryz.underlying129 (by rfl) HI2.out ?_)
       generalize wr.alloc (.cells V2 129) = W2 at *
       clear hst2
       refine wp_region_held_drew (S := fun w' => w'.cell? ⟨C, 6, none⟩ = some (.int .i64 n) /\ w'.cell? ⟨C, 7, none⟩ = some (.int .i64 m) /\ w'.heap[wr.heap.size]? = some (.cells V2 129 (0, 0)) /\ w'.heap[wo.heap.size]? = some (.cells V1 129 (0, 0))) (by kernel_rfl) ⟨y6, y7, HVB.out, HVA.out⟩ (fun h9 => ?_)
       refine tkV 0 (.pointer (some ⟨C, 0, none⟩)) h9 ?_ (hQ := fun _ _ _ h => hpan _ _ _ _ _ h)
       refine tkV 1 (.pointer (some ⟨C, 0, none⟩)) h9 ?_ (hQ := fun _ _ _ h => hpan _ _ _ _ _ h)
       refine tkV 2 (.pointer (some ⟨C, 6, none⟩)) h9 ?_ (hQ := fun _ _ _ h => hpan _ _ _ _ _ h)
       refine tkV 3 (.agg #[.int .i64 n, .int .i64 m]) h9 ?_ (hQ := fun _ _ _ h => hpan _ _ _ _ _ h) (hy := by intro w9 h; exact exec_load_arr 157 _ rfl ⟨C, 6, none⟩ rfl #[.int .i64 n, .int .i64 m] _ (cells_two h.1 h.2.1) Tryz.underlying157 (by rfl) (by kernel_rfl))
       refine tkV 4 (.agg V2) h9 ?_ (hQ := fun _ _ _ h => hpan _ _ _ _ _ h) (hy := by intro w9 h; exact exec_load_row 129 _ rfl wr.heap.size rfl 129 V2 (0, 0) _ h.2.2.1 Tryz.underlying129 (by rfl) HI2.out)
       refine tkV 5 (.agg V1) h9 ?_ (hQ := fun _ _ _ h => hpan _ _ _ _ _ h) (hy := by intro w9 h; exact exec_load_row 129 _ rfl wo.heap.size rfl 129 V1 (0, 0) _ h.2.2.2 Tryz.underlying129 (by rfl) HI1.out)
       refine tkC 6 (fun K hK => ?_)
       go_simp
       refine (HS2.out _).mono ?_
       rintro e w3 ⟨⟨vv, rfl⟩, hb3⟩
       have hb23 : Below W2.heap.size W2 w3 := ((Below.refl W2.heap.size W2).drew).trans hb3
       have hbe3 := HAL2.out.trans (hb23.mono (by have := HAL2.out.size; omega))
       obtain ⟨-, -, x6, x7⟩ := HK.out w3 hbe3
       have hVa3 := HVA.out.below hb23 HVA.out.lt
       have hVb3 := HVB.out.below hb23 HVB.out.lt
       have hblk4 := HBK3.out.below hb23 HBK3.out.lt
       have hrows4 := HRW3.out.below hb23 (Nat.le_refl _)
       have hcur4 := own_belowK HCUR3.out hb23 (Nat.le_refl _)
       have hsz4 : W1.heap.size <= w3.heap.size := by have := hb23.size; have := HSZ3.out; omega
       refine hK.out _ _ ⟨x6, x7, hVb3, hVa3⟩ (fun hA => ?_)
       have HBE3 := Lib.hid hbe3; have HVA3 := Lib.hid hVa3; have HBK4 := Lib.hid hblk4; have HRW4 := Lib.hid hrows4; have HC4 := Lib.hid hcur4
       clear hK K hb23 hbe3 hVa3 hVb3 hblk4 hrows4 hcur4 hb3 x6 x7
       try simp only [Act.put, List.setIfInBounds_toArray, List.set_cons_zero, List.set_cons_succ]
       refine tkV 7 (.tuple #[.int .i64 vv, .bool p]) hA ?_ (hQ := fun _ _ _ h => hpan _ _ _ _ _ h)
       refine tkV 8 (.int .i64 vv) hA ?_ (hQ := fun _ _ _ h => hpan _ _ _ _ _ h)
       refine tkV 9 (.bool p) hA ?_ (hQ := fun _ _ _ h => hpan _ _ _ _ _ h)
       refine tkV 10 (.int .i64 vv) hA ?_ (hQ := fun _ _ _ h => hpan _ _ _ _ _ h)
       refine tkV 11 (.bool p) hA ?_ (hQ := fun _ _ _ h => hpan _ _ _ _ _ h)
       refine wpAnyH_done (by kernel_rfl) ?_ _
       clear hA h9 y6 y7 HVA HVB HBK3 HRW3 HCUR3 HAL2
       cases p with
       | false =>
         have hstep2 : ixT row (a + 1) = ixT row a := by rw [HSTP.out]; simp
         have HST2 := Lib.hid hstep2
         clear hstep2
         go_wp2_with fail
         go_roundw
         case rel => exact ⟨a + 1, cur, by omega, by go_num, HBK4.out, HRW4.out, by rw [HST2.out]; exact HC4.out, HVA3.out, HBE3.out, hsz4⟩
         case measure => simp [intOf]; omega
       | true =>
         have hstep2 : ixT row (a + 1) = ixT row a ++ [a] := by rw [HSTP.out]; simp
         have HST2 := Lib.hid hstep2
         clear hstep2
         have HGT := Lib.hid (get_midL vs cur (List.replicate (l.length - b - 1) (Value.slice none 0 0)) HVL.out)
         have c0 : w3.cell? ⟨B4, b, none⟩ = some cur := by rw [Blk.cell HBK4.out, List.getElem?_toArray]; exact HGT.out
         have hbsz := HBE3.out.size
         go_wp2_with (at_builtin; refine wpList_append_own _ rfl _ _ 24 rfl W1.heap.size 3 i0 (.int .i64 0) 1 8 Tryz.underlying24 HI.out hz0 hz1 hz2 rfl (by decide) _ _ _ rfl (HC4.out.alloc _) ⟨w3.heap.size, 0, none⟩ 1 1 [.int .i64 a] rfl rfl (World.news_of_block (cs := #[.int .i64 a]) (t := 3) (fr := (0, 0)) (heap_alloc_new w3 _)) (by simp [Value.oneCell']) (by unfold maxLen; omega) (by omega) (by simp; omega) ?_; intro v1 wz hown1 hgrow _; obtain ⟨gg, cc, rfl⟩ := own_succ hown1; have hbz := (HBK4.out.alloc (.cells #[.int .i64 a] 3)).kept hgrow (own_ne_blk (HC4.out.alloc (.cells #[.int .i64 a] 3)) (HBK4.out.alloc (.cells #[.int .i64 a] 3)) (by decide)); have x0 : wz.cell? ⟨B4, b, none⟩ = some cur := (by rw [Blk.cell hbz, List.getElem?_toArray]; exact HGT.out); have x1 := hbz.free b; have HBZ := Lib.hid hbz; have HOWN := Lib.hid hown1; have HGR := Lib.hid hgrow; clear hbz hown1 hgrow c0)
         have hszz := HGR.out.size
         have hszy : (w3.alloc (.cells #[.int .i64 a] 3)).heap.size = w3.heap.size + 1 := by simp
         have hset := HBZ.out.setAt b (.slice (some ⟨gg, 0, none⟩) ((ixT row a).length + 1) cc)
         rw [List.setIfInBounds_toArray, set_midL vs cur (.slice (some ⟨gg, 0, none⟩) ((ixT row a).length + 1) cc) _ HVL.out] at hset
         have hge : ∀ j, cur.ownBlock = some j -> W1.heap.size <= j := fun j e => (HC4.out.lt j e).1
         have hrz := (((HRW4.out.below ((Below.refl _ w3).alloc (Nat.le_refl _) (.cells #[.int .i64 a] 3)) (Nat.le_refl _)).keptN HGR.out (fun v hv => by
          cases hvo : v.ownBlock with
          | none => exact .inl rfl
          | some j =>
            refine .inr fun e => ?_
            have h1 := HLT.out v hv j hvo
            have h2 := hge j e.symm
            omega)).setB HBZ.out (by decide) b (.slice (some ⟨gg, 0, none⟩) ((ixT row a).length + 1) cc))
         have hoz := own_set3 (p := ⟨B4, b, none⟩) (u := (.slice (some ⟨gg, 0, none⟩) ((ixT row a).length + 1) cc)) HOWN.out (fun h => own_ne_blk HOWN.out HBZ.out (by decide) h.symm)
         have hvz := ((HVA3.out.alloc (.cells #[.int .i64 a] 3)).kept HGR.out (fun e => by have := hge _ e.symm; omega)).other (B' := B4) (by omega) b (.slice (some ⟨gg, 0, none⟩) ((ixT row a).length + 1) cc)
         have hbez := ((HBE3.out.alloc (by omega) (.cells #[.int .i64 a] 3)).grown HGR.out (by simp; omega) (fun j e => by have := hge j e; omega)).setCell (p := ⟨B4, b, none⟩) (Nat.le_refl _) (.slice (some ⟨gg, 0, none⟩) ((ixT row a).length + 1) cc)
         have HSET := Lib.hid hset; have HRZ := Lib.hid hrz; have HOZ := Lib.hid hoz; have HVZ := Lib.hid hvz; have HBEZ := Lib.hid hbez
         clear hset hrz hoz hvz hbez hge
         go_wp2_with fail
         go_roundw
         case rel => exact ⟨a + 1, (.slice (some ⟨gg, 0, none⟩) ((ixT row a).length + 1) cc), by omega, by go_num, HSET.out, HRZ.out, by rw [HST2.out, nvs_snoc, List.length_append]; exact HOZ.out, HVZ.out, HBEZ.out, by simp; omega⟩
         case measure => simp [intOf]; omega
     · obtain rfl : a = l.length := by omega
       have hrz := hrows2.snoc (v := cur) (xs := (nvs (ixT row l.length)).map (Value.int .i64)) (by rw [nvs_len]; exact own_baseL hcur (by omega))
       have hix : ixC (g.take (b + 1)) l.length = ixC (g.take b) l.length ++ [(nvs (ixT row l.length)).map (Value.int .i64)] := by
        rw [List.take_add_one, HROW.out]; simp [ixC]
       rw [<- hix] at hrz
       have hap : vs ++ cur :: List.replicate (l.length - b - 1) (Value.slice none 0 0) = (vs ++ [cur]) ++ List.replicate (l.length - (b + 1)) (Value.slice none 0 0) := by
        rw [List.append_assoc, List.singleton_append, show l.length - b - 1 = l.length - (b + 1) by omega]
       rw [hap] at hblk2
       have hvl2 : (vs ++ [cur]).length = b + 1 := by rw [List.length_append, HVL.out]; rfl
       have HB2 := Lib.hid hblk2; have HR2 := Lib.hid hrz; have HV2 := Lib.hid hvl2; have HE2 := Lib.hid hbe2
       clear hblk2 hrows2 hcur hV2 hbe2 hcells2 hrz hix hap hvl2
       go_wp2_with fail
       go_roundw
       case rel => exact ⟨b + 1, vs ++ [cur], by omega, by go_num, HB2.out, HV2.out, HR2.out, HE2.out⟩
       case measure => simp [intOf]; omega
  · obtain rfl : b = l.length := by omega
    rw [Nat.sub_self, List.replicate_zero, List.append_nil] at hblk
    rw [<- HGL.out, List.take_length, HGL.out] at hrows
    have HB2 := Lib.hid hblk; have HR2 := Lib.hid hrows; have HV2 := Lib.hid hvl; have HE2 := Lib.hid hbe
    clear hblk hrows hvl hbe hcells z9 z6 z7
    go_wp2_with fail
    refine HEX.out _ _ ⟨⟨vs, HB2.out, HV2.out, HR2.out⟩, HE2.out, ?_⟩
    repeat apply Exists.intro
    rfl
end Go.Proofs.YtdpjdifoonfcdaaGreatDoor

namespace Go.Proofs.YtdpjdifoonfcdaaGreatDoor
open Go.RowKit Go.Maps
theorem Tryz.keyInt : Keyed Tryz.prog 3 := int_keyed Tryz.underlying3
theorem Tryz.zeroBool (w : World) : (zeroValue 4).run Tryz.prog w = .ok (.bool false) w := by kernel_rfl
theorem key_wf {k : Nat} (h : k <= 100000) : (Lit.int .i64 (k : Int)).wf = true := WalkArith.wf_i64 (by omega)
set_option maxRecDepth 1000000 in
def Loop3X (N B6 : Nat) (W : World) (df : List Deferred) (s0 s1 s2 s3 s4 s5 s6 s7 s8 s9 s10 s11 s12 s13 s14 s15 s16 s17 s18 s21 s22 s23 s24 s25 s26 s27 s28 s29 s30 s31 s32 s33 s34 s35 s36 s37 s38 s39 s40 s41 s42 s43 s44 s45 s46 s47 s48 s49 s50 s51 s52 s53 s54 s55 s56 s57 s58 s59 s60 s61 s62 s63 s64 s65 s66 s67 s68 s69 s70 s71 s72 s73 s74 s75 s76 s77 s78 s79 s80 s81 s82 s83 s84 s85 s86 s87 s88 s89 s90 s91 s92 s100 s101 s102 s103 s104 s105 s106 s107 s108 s109 s110 s111 s112 s113 s114 s115 s116 s117 s118 s119 s120 s121 s122 s123 s124 s125 s126 s127 s128 s129 s130 s131 s132 s133 s134 s135 s136 s137 s138 s139 s140 s141 s142 s143 s144 s145 s146 s147 s148 s149 s150 s151 : Value) (a : Act) (w' : World) : Prop :=
 (∃ D : DataW Unit, w'.ownsMap Tryz.prog 3 (plainElem Tryz.prog 4) B6 N D /\ MIs D (List.replicate N true)) /\ Below B6 W w' /\ ∃ v20 v94 v95 v96 v97 v98 v99 : Value, a = ⟨#[s0, s1, s2, s3, s4, s5, s6, s7, s8, s9, s10, s11, s12, s13, s14, s15, s16, s17, s18, .map (some B6), v20, s21, s22, s23, s24, s25, s26, s27, s28, s29, s30, s31, s32, s33, s34, s35, s36, s37, s38, s39, s40, s41, s42, s43, s44, s45, s46, s47, s48, s49, s50, s51, s52, s53, s54, s55, s56, s57, s58, s59, s60, s61, s62, s63, s64, s65, s66, s67, s68, s69, s70, s71, s72, s73, s74, s75, s76, s77, s78, s79, s80, s81, s82, s83, s84, s85, s86, s87, s88, s89, s90, s91, s92, .int .i64 N, v94, v95, v96, v97, v98, v99, s100, s101, s102, s103, s104, s105, s106, s107, s108, s109, s110, s111, s112, s113, s114, s115, s116, s117, s118, s119, s120, s121, s122, s123, s124, s125, s126, s127, s128, s129, s130, s131, s132, s133, s134, s135, s136, s137, s138, s139, s140, s141, s142, s143, s144, s145, s146, s147, s148, s149, s150, s151], df⟩
def firstT (N k : Nat) : List Bool := List.replicate k true ++ List.replicate (N - k) false
theorem firstT_get {N k : Nat} (h : k < N) : (firstT N k)[k]? = some false := by
 unfold firstT
 rw [List.getElem?_append_right (by simp), List.length_replicate, Nat.sub_self, List.getElem?_replicate, if_pos (by omega)]
theorem firstT_set {N k : Nat} (h : k < N) : (firstT N k).set k true = firstT N (k + 1) := by
 unfold firstT
 rw [List.set_append_right _ _ (by simp), List.length_replicate, Nat.sub_self, show N - k = (N - (k + 1)) + 1 by omega, List.replicate_succ, List.set_cons_zero, List.replicate_succ' (n := k), List.append_assoc, List.singleton_append]
set_option maxRecDepth 1000000 in
set_option maxHeartbeats 4000000 in
theorem build_loop3 (N B6 : Nat) (W : World) (Q0 : Exit -> Act -> World -> Prop) (df : List Deferred) (s0 s1 s2 s3 s4 s5 s6 s7 s8 s9 s10 s11 s12 s13 s14 s15 s16 s17 s18 s20 s21 s22 s23 s24 s25 s26 s27 s28 s29 s30 s31 s32 s33 s34 s35 s36 s37 s38 s39 s40 s41 s42 s43 s44 s45 s46 s47 s48 s49 s50 s51 s52 s53 s54 s55 s56 s57 s58 s59 s60 s61 s62 s63 s64 s65 s66 s67 s68 s69 s70 s71 s72 s73 s74 s75 s76 s77 s78 s79 s80 s81 s82 s83 s84 s85 s86 s87 s88 s89 s90 s91 s92 s95 s96 s97 s98 s99 s100 s101 s102 s103 s104 s105 s106 s107 s108 s109 s110 s111 s112 s113 s114 s115 s116 s117 s118 s119 s120 s121 s122 s123 s124 s125 s126 s127 s128 s129 s130 s131 s132 s133 s134 s135 s136 s137 s138 s139 s140 s141 s142 s143 s144 s145 s146 s147 s148 s149 s150 s151 : Value)
 (h400 : N <= 400) (H0 : Hid (W.ownsMap Tryz.prog 3 (plainElem (H := Unit) Tryz.prog 4) B6 0 (.map [])))
 (hexit : ∀ a' w', Loop3X N B6 W df s0 s1 s2 s3 s4 s5 s6 s7 s8 s9 s10 s11 s12 s13 s14 s15 s16 s17 s18 s21 s22 s23 s24 s25 s26 s27 s28 s29 s30 s31 s32 s33 s34 s35 s36 s37 s38 s39 s40 s41 s42 s43 s44 s45 s46 s47 s48 s49 s50 s51 s52 s53 s54 s55 s56 s57 s58 s59 s60 s61 s62 s63 s64 s65 s66 s67 s68 s69 s70 s71 s72 s73 s74 s75 s76 s77 s78 s79 s80 s81 s82 s83 s84 s85 s86 s87 s88 s89 s90 s91 s92 s100 s101 s102 s103 s104 s105 s106 s107 s108 s109 s110 s111 s112 s113 s114 s115 s116 s117 s118 s119 s120 s121 s122 s123 s124 s125 s126 s127 s128 s129 s130 s131 s132 s133 s134 s135 s136 s137 s138 s139 s140 s141 s142 s143 s144 s145 s146 s147 s148 s149 s150 s151 a' w' -> Q0 (.exit 6) a' w') :
 Code.wp Tryz.prog (Code.loop (buildLoop 2)) Q0 ⟨#[s0, s1, s2, s3, s4, s5, s6, s7, s8, s9, s10, s11, s12, s13, s14, s15, s16, s17, s18, .map (some B6), s20, s21, s22, s23, s24, s25, s26, s27, s28, s29, s30, s31, s32, s33, s34, s35, s36, s37, s38, s39, s40, s41, s42, s43, s44, s45, s46, s47, s48, s49, s50, s51, s52, s53, s54, s55, s56, s57, s58, s59, s60, s61, s62, s63, s64, s65, s66, s67, s68, s69, s70, s71, s72, s73, s74, s75, s76, s77, s78, s79, s80, s81, s82, s83, s84, s85, s86, s87, s88, s89, s90, s91, s92, .int .i64 N, .int .i64 0, s95, s96, s97, s98, s99, s100, s101, s102, s103, s104, s105, s106, s107, s108, s109, s110, s111, s112, s113, s114, s115, s116, s117, s118, s119, s120, s121, s122, s123, s124, s125, s126, s127, s128, s129, s130, s131, s132, s133, s134, s135, s136, s137, s138, s139, s140, s141, s142, s143, s144, s145, s146, s147, s148, s149, s150, s151], df⟩ W := by
 have HEX := Lib.hid hexit
 clear hexit
 dsimp only
 have hwl : buildLoop 2 = buildLoop 2 := rfl
 conv at hwl => rhs; whnf
 rw [hwl]
 clear hwl
 go_loopw [94] (fun kv ws => ∃ (k : Nat) (D : DataW Unit), k <= N /\ kv = .int .i64 k /\ ws.ownsMap Tryz.prog 3 (plainElem Tryz.prog 4) B6 k D /\ MIs D (firstT N k) /\ Below B6 W ws) (fun kv _ => N - (intOf kv).toNat)
 case atStart => exact ⟨0, .map [], Nat.zero_le _, rfl, H0.out, MIs.nil N, Below.refl _ _⟩
 case round =>
  obtain ⟨k, D, hk, rfl, hown, hmi, hbe⟩ := hrel
  have hsz := hbe.size
  have hlt0 := H0.out.lt
  by_cases hlt : k < N
  · have i1 : (k : Int) < (N : Int) := by omega
    have hkey := keyOf_int_mk Tryz.underlying3 (key_wf (k := k) (by omega))
    have hput := hmi.put (firstT_get hlt)
    rw [firstT_set hlt] at hput
    have HO := Lib.hid hown; have HP := Lib.hid hput; have HBE := Lib.hid hbe; have HKEY := Lib.hid hkey
    clear hown hput hbe hkey hmi
    go_wp2_with (at_mapUpdate; refine wpList_mapUpdate_own _ rfl _ _ _ 161 rfl 3 4 Tryz.keyInt Tryz.underlying161 _ B6 k D rfl HO.out (by unfold maxLen; omega) _ _ _ rfl rfl HKEY.out _ [] (plainElem_bool Tryz.underlying4 true) ?_; intro w1 hown1 hgrow1; have HO1 := Lib.hid hown1; have HG1 := Lib.hid hgrow1; clear hown1 hgrow1)
    have hb1 := HBE.out.grown HG1.out (by omega) (fun j e => by cases e; exact Nat.le_refl _)
    go_wp2_with fail
    go_roundw
    case rel => exact ⟨k + 1, _, by omega, by go_num, HO1.out, HP.out, hb1⟩
    case measure => simp [intOf]; omega
  · obtain rfl : k = N := by omega
    have hft : firstT k k = List.replicate k true := by simp [firstT]
    rw [hft] at hmi
    have HO := Lib.hid hown; have HP := Lib.hid hmi; have HBE := Lib.hid hbe
    clear hown hmi hbe hft
    go_wp2_with fail
    refine HEX.out _ _ ⟨⟨D, HO.out, HP.out⟩, HBE.out, ?_⟩
    repeat apply Exists.intro
    rfl
end Go.Proofs.YtdpjdifoonfcdaaGreatDoor

namespace Go.Proofs.YtdpjdifoonfcdaaGreatDoor
open Go.RowKit
section
variable {P : Program} {md : Region.Mode} {ops : Array Oper} {Q : Exit -> Act -> World -> Prop} {T : Nat -> World -> Prop}
def wpAnyJ (P : Program) (md : Region.Mode) (ops : Array Oper) (Q : Exit -> Act -> World -> Prop) (T : Nat -> World -> Prop) : Nat -> Array Bool -> Act -> World -> Prop
 | 0, listed, a, w => Region.ready md ops listed = [] /\ Q .normal a w
 | fuel + 1, listed, a, w =>
   (Region.ready md ops listed = [] -> Q .normal a w) /\
   ∀ i ∈ Region.ready md ops listed, wpOp P ops Q i (fun a' w' => T i w' /\ wpAnyJ P md ops Q T fuel (listed.setIfInBounds i true) a' w') a w
theorem wpAny_of_J : ∀ (fuel : Nat) (listed : Array Bool) (a : Act) (w : World), wpAnyJ P md ops Q T fuel listed a w -> wpAny P md ops Q fuel listed a w
 | 0, _, _, _, h => h
 | fuel + 1, _, _, _, h => ⟨h.1, fun i hi => wpOp_mono (fun a' w' h' => wpAny_of_J fuel _ a' w' h'.2) (h.2 i hi)⟩
theorem wpAnyJ_first {S : World -> Prop} {i : Nat} {oi : Oper} {v : Value} (hi : ops[i]? = some oi) (hsel : ∀ (j : Nat) (o : Oper) cs b, ops[j]? = some o -> o.op ≠ .select cs b)
 (hQ : ∀ c a w, Q (.panic c) (a.put oi.dst v) w -> Q (.panic c) a w) (hTi : ∀ w, S w -> T i w) :
 ∀ (fuel : Nat) (listed : Array Bool) (a : Act) (w : World),
   (∀ j oj, ops[j]? = some oj -> j ≠ i -> listed.getD j true = false -> (∀ e ∈ oj.after, Region.binds md e = true -> e.on ≠ i) -> ∀ w, T j w -> S w) ->
   (∀ j oj, ops[j]? = some oj -> j ≠ i -> listed.getD j true = false -> (∀ e ∈ oj.after, Region.binds md e = true -> e.on ≠ i) -> oi.apart ops oj = true) ->
   i ∈ Region.ready md ops listed -> YieldsIf P ops S oi v a -> S w ->
   wpAnyJ P md ops Q T fuel (listed.setIfInBounds i true) (a.put oi.dst v) w -> wpAnyJ P md ops Q T (fuel + 1) listed a w := by
 intro fuel
 induction fuel with
 | zero =>
   intro listed a w _ _ hr hy hS H
   refine ⟨fun h => (by rw [h] at hr; cases hr), fun j hj => ?_⟩
   by_cases hji : j = i
   · subst hji; exact hy.wpOp hi hS ⟨hTi _ hS, H⟩
   · have := ready_mono hj hji
     rw [H.1] at this
     cases this
 | succ fuel ih =>
   intro listed a w hTS hfree hr hy hS H
   refine ⟨fun h => (by rw [h] at hr; cases hr), fun j hj => ?_⟩
   by_cases hji : j = i
   · subst hji; exact hy.wpOp hi hS ⟨hTi _ hS, H⟩
   · have h1 := H.2 j (ready_mono hj hji)
     obtain ⟨hjun, oj, hoj, hall⟩ := mem_ready.1 hj
     have hnot : ∀ e ∈ oj.after, Region.binds md e = true -> e.on ≠ i := fun e he hb heq => by
      have h1 := hall e he hb
      have h0 := (mem_ready.1 hr).1
      rw [heq] at h1
      rcases Nat.lt_or_ge i listed.size with h' | h'
      · simp [h'] at h0 h1; rw [h0] at h1; cases h1
      · simp [Array.getElem?_eq_none h'] at h1
     have h2 := wpOp_putIf hoj (hfree j oj hoj hji hjun hnot) (fun cs b => hsel i oi cs b hi) (fun cs b => hsel j oj cs b hoj) hQ hy h1
     have hfree' : ∀ k ok, ops[k]? = some ok -> k ≠ i -> (listed.setIfInBounds j true).getD k true = false ->
      (∀ e ∈ ok.after, Region.binds md e = true -> e.on ≠ i) -> oi.apart ops ok = true := fun k ok hk hki hun hno => by
      refine hfree k ok hk hki ?_ hno
      by_cases hjk : j = k
      · subst hjk; exact hjun
      · rw [getD_set_ne true hjk] at hun; exact hun
     have hTS' : ∀ k ok, ops[k]? = some ok -> k ≠ i -> (listed.setIfInBounds j true).getD k true = false ->
      (∀ e ∈ ok.after, Region.binds md e = true -> e.on ≠ i) -> ∀ w, T k w -> S w := fun k ok hk hki hun hno => by
      refine hTS k ok hk hki ?_ hno
      by_cases hjk : j = k
      · subst hjk; exact hjun
      · rw [getD_set_ne true hjk] at hun; exact hun
     refine wpOp_mono (fun a' w' h3 => ⟨h3.2.1, ih (listed.setIfInBounds j true) a' w' hTS' hfree' (ready_mono hr (Ne.symm hji)) h3.1 (hTS j oj hoj hji hjun hnot _ h3.2.1) ?_⟩) h2
     rw [Array.setIfInBounds_comm _ _ hji]
     exact h3.2.2
theorem wpAnyJ_all {rs : List Nat} {fuel : Nat} {listed : Array Bool} {a : Act} {w : World} (hr : Region.ready md ops listed = rs) (hne : rs ≠ [])
 (h : ∀ i ∈ rs, wpOp P ops Q i (fun a' w' => T i w' /\ wpAnyJ P md ops Q T fuel (listed.setIfInBounds i true) a' w') a w) : wpAnyJ P md ops Q T (fuel + 1) listed a w :=
 ⟨fun h0 => absurd (hr ▸ h0) hne, hr ▸ h⟩
theorem wpAnyJ_done {listed : Array Bool} {a : Act} {w : World} (hr : Region.ready md ops listed = []) (h : Q .normal a w) :
 ∀ fuel, wpAnyJ P md ops Q T fuel listed a w
 | 0 => ⟨hr, h⟩
 | _ + 1 => ⟨fun _ => h, by rw [hr]; simp⟩
theorem wpIn_region_roundJ {l n : Nat} {id : Nat} {a : Act} {w : World} (hm : P.follows .mixedOrders = true) (hd : noDefer ops = true) (hq : ¬ LetsOut Q)
 (h : wpAnyJ P .any ops Q T ops.size (Array.replicate ops.size false) a w.drew) : (Code.region id ops true).wpIn (Fence.wide.inRound l) n P Q a w :=
 wpIn_region_any hm (wpAny_in (noDefer_spec hd) hq _ _ _ _ (wpAny_of_J _ _ _ _ h))
def waitsFor (md : Region.Mode) (ops : Array Oper) (j i : Nat) : Bool := match ops[j]? with | some o => o.after.any (fun e => Region.binds md e && e.on == i) | none => true
theorem tjV (i : Nat) (v : Value) (S : World -> Prop) (ok : Nat -> Bool) {oi : Oper} {fuel : Nat} {listed l' : Array Bool} {a a' : Act} {w : World} (hS : S w) (hTi : ∀ w, S w -> T i w) (hTS : ∀ j, ok j = true -> ∀ w, T j w -> S w)
 (h : wpAnyJ P md ops Q T fuel l' a' w)
 (hi : ops[i]? = some oi := by simp only [List.getElem?_toArray, List.getElem?_cons_succ, List.getElem?_cons_zero]; rfl)
 (hs : Region.noSelect ops = true := by kernel_rfl) (hf : Region.free md ops listed i = true := by kernel_rfl) (hr : (Region.ready md ops listed).contains i = true := by kernel_rfl)
 (hok : (List.range ops.size).all (fun j => j == i || listed.getD j true || waitsFor md ops j i || ok j) = true := by kernel_rfl)
 (hQ : ∀ c a w, Q (.panic c) (a.put oi.dst v) w -> Q (.panic c) a w := by exact fun _ _ _ h => h) (hw : Region.wanted oi (yielded ops a.tmps) = true := by rfl)
 (hy : ∀ w, S w -> (execOp a.eval oi).run P w = .ok (.value v) w := by intro w9 h; (repeat (obtain ⟨_, h⟩ := h)); first | (go_simp; done) | (go_simp; exact IntWalk.i64_in _ (by omega)))
 (hl : listed.setIfInBounds i true = l' := by first | (simp only [List.setIfInBounds_toArray, List.set_cons_zero, List.set_cons_succ]; rfl) | rfl)
 (ha : a.put oi.dst v = a' := by first | (simp only [Act.put, List.setIfInBounds_toArray, List.set_cons_zero, List.set_cons_succ]; rfl) | rfl) : wpAnyJ P md ops Q T (fuel + 1) listed a w := by
 subst hl; subst ha
 refine wpAnyJ_first (S := S) hi (Region.noSelect_spec hs) hQ hTi fuel listed a w (fun j oj hj hji hun hno w hT => hTS j ?_ w hT) (Region.free_spec hi hf) (by simpa using hr) (.inl ⟨hw, hy⟩) hS h
 have hjs := (Array.getElem?_eq_some_iff.1 hj).1
 have h1 := List.all_eq_true.1 hok j (List.mem_range.2 hjs)
 rw [Bool.or_eq_true, Bool.or_eq_true, Bool.or_eq_true] at h1
 rcases h1 with ((h1 | h1) | h1) | h1
 · exact absurd (by simpa using h1) hji
 · rw [hun] at h1; cases h1
 · exfalso
   unfold waitsFor at h1
   rw [hj] at h1
   simp only [Array.any_eq_true] at h1
   obtain ⟨k, hk, he⟩ := h1
   rw [Bool.and_eq_true, beq_iff_eq] at he
   exact hno _ (Array.getElem_mem hk) he.1 he.2
 · exact h1
theorem tjO {fuel : Nat} {listed l' : Array Bool} {a : Act} {w : World} {i : Nat} {o : Oper}
 (h : ∀ K' : Act -> World -> Prop, Shut (∀ a w, T i w -> wpAnyJ P md ops Q T fuel l' a w -> K' a w) -> if Region.wanted o (yielded ops a.tmps) = true then Oper.wp P o a w K' Q else K' (a.put o.dst undef) w)
 (hi : ops[i]? = some o) (hl : listed.setIfInBounds i true = l') : wpOp P ops Q i (fun a' w' => T i w' /\ wpAnyJ P md ops Q T fuel (listed.setIfInBounds i true) a' w') a w := by
 subst hl
 exact wpOp_step hi (fun K' hK => h K' (fun a w hS hW => hK a w ⟨hS, hW⟩))
theorem tjC (i : Nat) {o : Oper} {fuel : Nat} {listed l' : Array Bool} {a : Act} {w : World}
 (h : ∀ K' : Act -> World -> Prop, Shut (∀ a w, T i w -> wpAnyJ P md ops Q T fuel l' a w -> K' a w) -> if Region.wanted o (yielded ops a.tmps) = true then Oper.wp P o a w K' Q else K' (a.put o.dst undef) w)
 (hi : ops[i]? = some o := by simp only [List.getElem?_toArray, List.getElem?_cons_succ, List.getElem?_cons_zero]; rfl) (hr : Region.ready md ops listed = [i] := by kernel_rfl)
 (hl : listed.setIfInBounds i true = l' := by first | (simp only [List.setIfInBounds_toArray, List.set_cons_zero, List.set_cons_succ]; rfl) | rfl) : wpAnyJ P md ops Q T (fuel + 1) listed a w :=
 wpAnyJ_all hr (by simp) (fun j hj => by obtain rfl := List.mem_singleton.1 hj; exact tjO h hi hl)
theorem tjB (i j : Nat) {o u : Oper} {fuel : Nat} {listed l1 l2 : Array Bool} {a : Act} {w : World}
 (h : ∀ K' : Act -> World -> Prop, Shut (∀ a w, T i w -> wpAnyJ P md ops Q T fuel l1 a w -> K' a w) -> if Region.wanted o (yielded ops a.tmps) = true then Oper.wp P o a w K' Q else K' (a.put o.dst undef) w)
 (h2 : ∀ K' : Act -> World -> Prop, Shut (∀ a w, T j w -> wpAnyJ P md ops Q T fuel l2 a w -> K' a w) -> if Region.wanted u (yielded ops a.tmps) = true then Oper.wp P u a w K' Q else K' (a.put u.dst undef) w)
 (hi : ops[i]? = some o := by simp only [List.getElem?_toArray, List.getElem?_cons_succ, List.getElem?_cons_zero]; rfl) (hj : ops[j]? = some u := by simp only [List.getElem?_toArray, List.getElem?_cons_succ, List.getElem?_cons_zero]; rfl) (hr : Region.ready md ops listed = [i, j] := by kernel_rfl)
 (hl : listed.setIfInBounds i true = l1 := by first | (simp only [List.setIfInBounds_toArray, List.set_cons_zero, List.set_cons_succ]; rfl) | rfl)
 (hl2 : listed.setIfInBounds j true = l2 := by first | (simp only [List.setIfInBounds_toArray, List.set_cons_zero, List.set_cons_succ]; rfl) | rfl) : wpAnyJ P md ops Q T (fuel + 1) listed a w :=
 wpAnyJ_all hr (by simp) (fun k hk => by
  rcases List.mem_cons.1 hk with rfl | hk
  · exact tjO h hi hl
  · obtain rfl := List.mem_singleton.1 hk; exact tjO h2 hj hl2)
end
end Go.Proofs.YtdpjdifoonfcdaaGreatDoor

namespace Go.Proofs.YtdpjdifoonfcdaaGreatDoor
open Go.RowKit Go.Shelf
structure Rd (B Bx : Nat) (p q : Int) (V : Array Value) (W X : World) (u8 v8 : Value) (n8 : Nat) (xs8 : List Value) (u9 v9 : Value) (n9 : Nat) (xs9 : List Value) : Prop where
 k : KeepsOthers W X
 be : Below B W X
 sz : B + 3 <= X.heap.size
 fam : X.heap[B + 2]? = W.heap[B + 2]?
 b8 : Blk X B 44 #[u8]
 b9 : Blk X (B + 1) 152 #[u9]
 r8 : X.ownsRow (B + 3) 23 2 v8 n8 xs8
 r9 : X.ownsRow (B + 3) 129 65 v9 n9 xs9
 c : Blk X Bx 23 #[.int .i64 p, .int .i64 q]
 x : Blk X (Bx + 1) 129 V
section
variable {B Bx : Nat} {p q : Int} {V : Array Value} {W X Y : World} {u8 v8 : Value} {n8 : Nat} {xs8 : List Value} {u9 v9 : Value} {n9 : Nat} {xs9 : List Value}
theorem Rd.alloc (h : Rd B Bx p q V W X u8 v8 n8 xs8 u9 v9 n9 xs9) (tmp : Obj) : Rd B Bx p q V W (X.alloc tmp) u8 v8 n8 xs8 u9 v9 n9 xs9 :=
 ⟨h.k.trans (KeepsOthers.alloc X tmp), h.be.alloc (by have := h.sz; omega) tmp, by simp; have := h.sz; omega, (hold_old X tmp _ (by have := h.sz; omega)).trans h.fam, h.b8.alloc tmp, h.b9.alloc tmp, h.r8.alloc tmp, h.r9.alloc tmp, h.c.alloc tmp, h.x.alloc tmp⟩
theorem own_keeps {b : Nat} {e : TypeId} {s n : Nat} {v : Value} {xs : List Value} (h : X.ownsRow b e s v n xs) (hg : X.grownBy Y v.ownBlock) : KeepsOthers X Y := by
 refine KeepsOthers.of_grownBy hg fun j o ej hj => ?_
 rcases h.2 with ⟨rfl, _⟩ | ⟨g, cap, cur, rfl, _, hgb, _⟩
 · simp [Value.ownBlock] at ej
 · obtain rfl : g = j := by simpa [Value.ownBlock] using ej
   rw [hgb] at hj; cases hj; rfl
theorem Rd.grow8 {v : Value} {n : Nat} {xs : List Value} (h : Rd B Bx p q V W X u8 v8 n8 xs8 u9 v9 n9 xs9) (ho : Y.ownsRow (B + 3) 23 2 v n xs) (hg : X.grownBy Y v8.ownBlock) (ha : some Bx ≠ v8.ownBlock) : Rd B Bx p q V W Y u8 v n xs u9 v9 n9 xs9 := by
 have ne : ∀ b, b < B + 3 -> some b ≠ v8.ownBlock := fun b hb e => by have := (h.r8.lt b e.symm).1; omega
 exact ⟨h.k.trans (own_keeps h.r8 hg), h.be.grown hg (by have := h.sz; omega) (fun j ej => by have := (h.r8.lt j ej).1; omega), Nat.le_trans h.sz hg.size, (hg.block _ (by have := h.sz; omega) (ne _ (by omega))).trans h.fam, h.b8.kept hg (ne _ (by omega)), h.b9.kept hg (ne _ (by omega)), ho, h.r9.kept hg (own_ne3 h.r9 h.r8 (by decide)), h.c.kept hg ha, h.x.kept hg (own_ne_blk h.r8 h.x (by decide))⟩
theorem Rd.grow9 {v : Value} {n : Nat} {xs : List Value} (h : Rd B Bx p q V W X u8 v8 n8 xs8 u9 v9 n9 xs9) (ho : Y.ownsRow (B + 3) 129 65 v n xs) (hg : X.grownBy Y v9.ownBlock) (ha : some (Bx + 1) ≠ v9.ownBlock) : Rd B Bx p q V W Y u8 v8 n8 xs8 u9 v n xs := by
 have ne : ∀ b, b < B + 3 -> some b ≠ v9.ownBlock := fun b hb e => by have := (h.r9.lt b e.symm).1; omega
 exact ⟨h.k.trans (own_keeps h.r9 hg), h.be.grown hg (by have := h.sz; omega) (fun j ej => by have := (h.r9.lt j ej).1; omega), Nat.le_trans h.sz hg.size, (hg.block _ (by have := h.sz; omega) (ne _ (by omega))).trans h.fam, h.b8.kept hg (ne _ (by omega)), h.b9.kept hg (ne _ (by omega)), h.r8.kept hg (own_ne3 h.r8 h.r9 (by decide)), ho, h.c.kept hg (own_ne_blk h.r9 h.c (by decide)), h.x.kept hg ha⟩
theorem Rd.store8 (h : Rd B Bx p q V W X u8 v8 n8 xs8 u9 v9 n9 xs9) (hB : B + 3 <= Bx) (u : Value) : Rd B Bx p q V W (X.setCell ⟨B, 0, none⟩ u) u v8 n8 xs8 u9 v9 n9 xs9 :=
 ⟨h.k.trans (KeepsOthers.setCell _ _ _), h.be.setCell (p := ⟨B, 0, none⟩) (Nat.le_refl _) u, by simp; exact h.sz, (heap_setCell_other X ⟨B, 0, none⟩ _ _ (by show B + 2 ≠ B; omega)).trans h.fam, h.b8.set0 u, h.b9.other (by omega) _ _, own_set3 h.r8 (fun e => by have := (h.r8.lt _ e).1; simp at this <;> omega), own_set3 h.r9 (fun e => by have := (h.r9.lt _ e).1; simp at this <;> omega), h.c.other (by omega) _ _, h.x.other (by omega) _ _⟩
theorem Rd.store9 (h : Rd B Bx p q V W X u8 v8 n8 xs8 u9 v9 n9 xs9) (hB : B + 3 <= Bx) (u : Value) : Rd B Bx p q V W (X.setCell ⟨B + 1, 0, none⟩ u) u8 v8 n8 xs8 u v9 n9 xs9 :=
 ⟨h.k.trans (KeepsOthers.setCell _ _ _), h.be.setCell (p := ⟨B + 1, 0, none⟩) (Nat.le_succ _) u, by simp; exact h.sz, (heap_setCell_other X ⟨B + 1, 0, none⟩ _ _ (by show B + 2 ≠ B + 1; omega)).trans h.fam, h.b8.other (by omega) _ _, h.b9.set0 u, own_set3 h.r8 (fun e => by have := (h.r8.lt _ e).1; simp at this <;> omega), own_set3 h.r9 (fun e => by have := (h.r9.lt _ e).1; simp at this <;> omega), h.c.other (by omega) _ _, h.x.other (by omega) _ _⟩
end
theorem step_build_one {P : Program} {ops : Array Oper} {o : Oper} {a : Act} {w : World} {K : Act -> World -> Prop} {Q : Exit -> Act -> World -> Prop} {E : Prop} (hgd : o.guard = none) (t elem : TypeId) (x : Operand) (ho : o.op = .buildSlice t 1 #[(0, x)])
 (i : TypeInfo) (V Z : Array Value) (hx : a.eval x = .agg V) (hu : P.underlying t = some (.slice elem)) (hi : P.info? elem = some i) (hz : i.zero = some (.agg Z)) (hsz : i.size = V.size) (hZ : Z.size = V.size) (h0 : V.size ≠ 0) (hm : V.size <= 16777216)
 (h : K (a.put o.dst (.slice (some ⟨w.heap.size, 0, none⟩) 1 1)) (w.alloc (.cells V elem))) : if Region.wanted o (yielded ops a.tmps) = true then Oper.wp P o a w K Q else E := by
 have hw : Region.wanted o (yielded ops a.tmps) = true := by simp [Region.wanted, hgd]
 rw [if_pos hw]
 unfold Oper.wp execOp
 simp only [ho, List.map_toArray, List.map_cons, List.map_nil, hx, Sem.run_bind, run_buildSlice_one t elem i V Z hu hi hz hsz hZ h0 hm, Sem.run_pure, Result.andThen_ok]
 exact h
end Go.Proofs.YtdpjdifoonfcdaaGreatDoor

namespace Go.Proofs.YtdpjdifoonfcdaaGreatDoor
open Go.RowKit Go.Maps
theorem RowsOf.cells_at {w : World} {base : Nat} {e : TypeId} {vs : List Value} {xss : List (List Value)} {j n c : Nat} {a : Option Addr} {xs : List Value} (h : RowsOf w base e vs xss) (hj : xss[j]? = some xs) (hv : vs[j]? = some (.slice a n c)) : Cells w a xs := by
 obtain ⟨a', c', h1, h2⟩ := h.at hj
 rw [hv] at h1
 simp only [Option.some.injEq, Value.slice.injEq] at h1
 rw [h1.1]; exact h2
set_option maxRecDepth 1000000 in
def Loop4B {L : Int} (l : List (Pt L)) (RES : Option (List Nat)) (B4 B6 B8 B9 : Nat) (W : World) (df : List Deferred) (s0 s1 s2 s3 s6 s7 s10 s11 s13 s14 s15 s16 s17 s18 s20 s30 s31 s32 s33 s34 s35 s36 s37 s38 s39 s40 s41 s42 s43 s44 s45 s46 s47 s48 s49 s50 s51 s52 s53 s54 s55 s56 s57 s58 s59 s60 s61 s62 s63 s64 s65 s66 s67 s68 s69 s70 s71 s72 s73 s74 s75 s76 s77 s78 s79 s80 s81 s82 s83 s84 s85 s86 s87 s88 s89 s90 s91 s92 s93 s94 s95 s96 s97 s98 s99 s151 : Value) (a : Act) (w' : World) : Prop :=
 Below B6 W w' /\ ∃ out ov, RES = some out /\ out.length <= 64 /\ w'.ownsRow (B6 + 1) 23 2 ov out.length (prs (pick (pairsOf l) out)) /\ ∃ v4 v5 v22 v23 v24 v25 v26 v27 v28 v29 v100 v101 v102 v103 v104 v105 v106 v107 v108 v109 v110 v111 v112 v113 v114 v115 v116 v117 v118 v119 v120 v121 v122 v123 v124 v125 v126 v127 v128 v129 v130 v131 v132 v133 v134 v135 v136 v137 v138 v139 v140 v141 v142 v143 v144 v145 v146 v147 v148 v149 v150 : Value, a = ⟨#[s0, s1, s2, s3, v4, v5, s6, s7, .pointer (some ⟨B8, 0, none⟩), .pointer (some ⟨B9, 0, none⟩), s10, s11, .slice (some ⟨B4, 0, none⟩) l.length l.length, s13, s14, s15, s16, s17, s18, .map (some B6), s20, ov, v22, v23, v24, v25, v26, v27, v28, v29, s30, s31, s32, s33, s34, s35, s36, s37, s38, s39, s40, s41, s42, s43, s44, s45, s46, s47, s48, s49, s50, s51, s52, s53, s54, s55, s56, s57, s58, s59, s60, s61, s62, s63, s64, s65, s66, s67, s68, s69, s70, s71, s72, s73, s74, s75, s76, s77, s78, s79, s80, s81, s82, s83, s84, s85, s86, s87, s88, s89, s90, s91, s92, s93, s94, s95, s96, s97, s98, s99, v100, v101, v102, v103, v104, v105, v106, v107, v108, v109, v110, v111, v112, v113, v114, v115, v116, v117, v118, v119, v120, v121, v122, v123, v124, v125, v126, v127, v128, v129, v130, v131, v132, v133, v134, v135, v136, v137, v138, v139, v140, v141, v142, v143, v144, v145, v146, v147, v148, v149, v150, s151], df⟩
set_option maxRecDepth 1000000 in
def Loop4R {L : Int} (l : List (Pt L)) (RES : Option (List Nat)) (B4 B6 B8 B9 : Nat) (W : World) (df : List Deferred) (s0 s1 s2 s3 s6 s7 s10 s11 s13 s14 s15 s16 s17 s18 s20 s30 s31 s32 s33 s34 s35 s36 s37 s38 s39 s40 s41 s42 s43 s44 s45 s46 s47 s48 s49 s50 s51 s52 s53 s54 s55 s56 s57 s58 s59 s60 s61 s62 s63 s64 s65 s66 s67 s68 s69 s70 s71 s72 s73 s74 s75 s76 s77 s78 s79 s80 s81 s82 s83 s84 s85 s86 s87 s88 s89 s90 s91 s92 s93 s94 s95 s96 s97 s98 s99 s151 : Value) (a : Act) (w' : World) : Prop :=
 Below B6 W w' /\ RES = none /\ ∃ ov v22 v23 v24 v25 v26 v27 v28 v29 v100 v101 v102 v103 v104 v105 v106 v107 v108 v109 v110 v111 v112 v113 v114 v115 v116 v117 v118 v119 v120 v121 v122 v123 v124 v125 v126 v127 v128 v129 v130 v131 v132 v133 v134 v135 v136 v137 v138 v139 v140 v141 v142 v143 v144 v145 v146 v147 v148 v149 v150 : Value, a = ⟨#[s0, s1, s2, s3, .slice none 0 0, .int .i64 3, s6, s7, .pointer (some ⟨B8, 0, none⟩), .pointer (some ⟨B9, 0, none⟩), s10, s11, .slice (some ⟨B4, 0, none⟩) l.length l.length, s13, s14, s15, s16, s17, s18, .map (some B6), s20, ov, v22, v23, v24, v25, v26, v27, v28, v29, s30, s31, s32, s33, s34, s35, s36, s37, s38, s39, s40, s41, s42, s43, s44, s45, s46, s47, s48, s49, s50, s51, s52, s53, s54, s55, s56, s57, s58, s59, s60, s61, s62, s63, s64, s65, s66, s67, s68, s69, s70, s71, s72, s73, s74, s75, s76, s77, s78, s79, s80, s81, s82, s83, s84, s85, s86, s87, s88, s89, s90, s91, s92, s93, s94, s95, s96, s97, s98, s99, v100, v101, v102, v103, v104, v105, v106, v107, v108, v109, v110, v111, v112, v113, v114, v115, v116, v117, v118, v119, v120, v121, v122, v123, v124, v125, v126, v127, v128, v129, v130, v131, v132, v133, v134, v135, v136, v137, v138, v139, v140, v141, v142, v143, v144, v145, v146, v147, v148, v149, v150, s151], df⟩
set_option maxRecDepth 1000000 in
set_option maxHeartbeats 8000000 in
theorem build_loop4 {L : Int} (l : List (Pt L)) (g : List (List Bool)) (RES : Option (List Nat)) (vs : List Value) (B4 B6 B8 B9 : Nat) (a8 a9 : Option Addr) (e8 e9 : Nat) (W : World) (Q0 : Exit -> Act -> World -> Prop) (df : List Deferred) (s0 s1 s2 s3 s4 s5 s6 s7 s10 s11 s13 s14 s15 s16 s17 s18 s20 s22 s23 s24 s25 s26 s27 s28 s29 s30 s31 s32 s33 s34 s35 s36 s37 s38 s39 s40 s41 s42 s43 s44 s45 s46 s47 s48 s49 s50 s51 s52 s53 s54 s55 s56 s57 s58 s59 s60 s61 s62 s63 s64 s65 s66 s67 s68 s69 s70 s71 s72 s73 s74 s75 s76 s77 s78 s79 s80 s81 s82 s83 s84 s85 s86 s87 s88 s89 s90 s91 s92 s93 s94 s95 s96 s97 s98 s99 s100 s101 s102 s103 s104 s105 s106 s107 s108 s109 s110 s111 s112 s113 s114 s115 s116 s117 s118 s119 s120 s121 s122 s123 s124 s125 s126 s127 s128 s129 s130 s131 s132 s133 s134 s135 s136 s137 s138 s139 s140 s141 s142 s143 s144 s145 s146 s147 s148 s149 s150 s151 : Value)
 (h400 : l.length <= 400) (hW : B6 < W.heap.size) (hvl : vs.length = l.length)
 (HG : Hid (∀ b, b < l.length -> ∃ row, g[b]? = some row /\ row.length = l.length /\ rowAt g b = row))
 (HSF : Hid (∀ m : List Bool, m.length = l.length -> ((bestTo g m l.length).2 = 0 ↔ m.count true = 0)))
 (HRES : Hid (RES = grd g l.length 65 (List.replicate l.length true) []))
 (HK : Hid (∀ ws, Below B6 W ws -> ws.cell? ⟨B8, 0, none⟩ = some (.slice a8 l.length e8) /\ Cells ws a8 (prs (pairsOf l)) /\ ws.cell? ⟨B9, 0, none⟩ = some (.slice a9 l.length e9) /\ Blk ws B4 24 vs.toArray /\ RowsOf ws B4 3 vs (ixC g l.length)))
 (H0 : Hid (∃ D : DataW Unit, W.ownsMap Tryz.prog 3 (plainElem Tryz.prog 4) B6 l.length D /\ MIs D (List.replicate l.length true)))
 (hbreak : ∀ a' w', Loop4B l RES B4 B6 B8 B9 W df s0 s1 s2 s3 s6 s7 s10 s11 s13 s14 s15 s16 s17 s18 s20 s30 s31 s32 s33 s34 s35 s36 s37 s38 s39 s40 s41 s42 s43 s44 s45 s46 s47 s48 s49 s50 s51 s52 s53 s54 s55 s56 s57 s58 s59 s60 s61 s62 s63 s64 s65 s66 s67 s68 s69 s70 s71 s72 s73 s74 s75 s76 s77 s78 s79 s80 s81 s82 s83 s84 s85 s86 s87 s88 s89 s90 s91 s92 s93 s94 s95 s96 s97 s98 s99 s151 a' w' -> Q0 (.exit 8) a' w')
 (hret : ∀ a' w', Loop4R l RES B4 B6 B8 B9 W df s0 s1 s2 s3 s6 s7 s10 s11 s13 s14 s15 s16 s17 s18 s20 s30 s31 s32 s33 s34 s35 s36 s37 s38 s39 s40 s41 s42 s43 s44 s45 s46 s47 s48 s49 s50 s51 s52 s53 s54 s55 s56 s57 s58 s59 s60 s61 s62 s63 s64 s65 s66 s67 s68 s69 s70 s71 s72 s73 s74 s75 s76 s77 s78 s79 s80 s81 s82 s83 s84 s85 s86 s87 s88 s89 s90 s91 s92 s93 s94 s95 s96 s97 s98 s99 s151 a' w' -> Q0 .ret a' w') :
 Code.wp Tryz.prog (Code.loop (buildLoop 3)) Q0 ⟨#[s0, s1, s2, s3, s4, s5, s6, s7, .pointer (some ⟨B8, 0, none⟩), .pointer (some ⟨B9, 0, none⟩), s10, s11, .slice (some ⟨B4, 0, none⟩) l.length l.length, s13, s14, s15, s16, s17, s18, .map (some B6), s20, .slice none 0 0, s22, s23, s24, s25, s26, s27, s28, s29, s30, s31, s32, s33, s34, s35, s36, s37, s38, s39, s40, s41, s42, s43, s44, s45, s46, s47, s48, s49, s50, s51, s52, s53, s54, s55, s56, s57, s58, s59, s60, s61, s62, s63, s64, s65, s66, s67, s68, s69, s70, s71, s72, s73, s74, s75, s76, s77, s78, s79, s80, s81, s82, s83, s84, s85, s86, s87, s88, s89, s90, s91, s92, s93, s94, s95, s96, s97, s98, s99, s100, s101, s102, s103, s104, s105, s106, s107, s108, s109, s110, s111, s112, s113, s114, s115, s116, s117, s118, s119, s120, s121, s122, s123, s124, s125, s126, s127, s128, s129, s130, s131, s132, s133, s134, s135, s136, s137, s138, s139, s140, s141, s142, s143, s144, s145, s146, s147, s148, s149, s150, s151], df⟩ W := by
 have HBR := Lib.hid hbreak; have HRT := Lib.hid hret; have HVL := Lib.hid hvl
 clear hbreak hret hvl
 obtain ⟨i0, hi, hz0, hz1, hz2⟩ := info_parts Tryz.infoChirp
 have HI := Lib.hid hi
 clear hi
 dsimp only
 have hwl : buildLoop 3 = buildLoop 3 := rfl
 conv at hwl => rhs; whnf
 rw [hwl]
 clear hwl
 go_loopw [21] (fun ov ws => ∃ (out : List Nat) (mi : List Bool) (D : DataW Unit), out.length <= 64 /\ mi.length = l.length /\ grd g l.length (65 - out.length) mi out = RES /\ ws.ownsRow (B6 + 1) 23 2 ov out.length (prs (pick (pairsOf l) out)) /\ ws.ownsMap Tryz.prog 3 (plainElem Tryz.prog 4) B6 l.length D /\ MIs D mi /\ Below B6 W ws) (fun ov _ => 65 - vlen ov)
 case atStart =>
  obtain ⟨D, h1, h2⟩ := H0.out
  exact ⟨[], List.replicate l.length true, D, by simp, by simp, HRES.out.symm, World.ownsRow_nil _ _ _ _, h1, h2, Below.refl _ _⟩
 case round =>
  obtain ⟨out, mi, D, ho64, hml, hgrd, hown, hmap, hmi, hbe⟩ := hrel
  obtain ⟨wo, hwo⟩ : ∃ wo, wo = wr := ⟨_, rfl⟩
  subst hwo
  obtain ⟨z8, hps, z9, hblk, hrows⟩ := HK.out wo hbe
  have hst := grd_step g l.length mi out ho64
  rw [hgrd] at hst
  have hvl := own_vlen hown
  have hms := hmi.2.2
  have hsf := HSF.out mi hml
  have hbl := bestTo_le g mi l.length
  have hblt := bestTo_lt g mi l.length
  have hcl : mi.count true <= l.length := by rw [<- hml]; exact List.count_le_length
  obtain ⟨oa, oc, rfl, -⟩ := own_cells hown
  have HST := Lib.hid hst; have HO := Lib.hid hown; have HMP := Lib.hid hmap; have HMI := Lib.hid hmi; have HBE := Lib.hid hbe; have HVV := Lib.hid hvl; have HPS := Lib.hid hps; have HBK := Lib.hid hblk; have HRW := Lib.hid hrows; have HML := Lib.hid hml; have HMS := Lib.hid hms; have HSFF := Lib.hid hsf; have HBL := Lib.hid hbl; have HBT := Lib.hid hblt
  have HOB : Hid (∀ j, (Value.slice oa out.length oc).ownBlock = some j -> B6 + 1 <= j) := fun j e => (hown.lt j e).1
  clear hst hown hmap hmi hbe hgrd hvl hps hblk hrows hms hsf hbl hblt
  by_cases hc0 : mi.count true = 0
  · have hr : RES = some out := by rw [HST.out, if_pos (HSFF.out.2 hc0)]
    have HR := Lib.hid hr
    have e0 : ((Maps.size D : Int) == 0) = true := by rw [HMS.out, hc0]; rfl
    clear hr hml hcl hc0
    go_wp2_with (at_len; refine wpList_len_own _ rfl _ 161 rfl 3 4 Tryz.underlying161 _ B6 l.length D rfl HMP.out ?_)
    refine HBR.out _ _ ⟨HBE.out, out, _, HR.out, ho64, HO.out, ?_⟩
    repeat apply Exists.intro
    rfl
  · have hb0 : (bestTo g mi l.length).2 ≠ 0 := fun h => hc0 (HSFF.out.1 h)
    have hst := HST.out
    rw [if_neg hb0] at hst
    have e0 : ((Maps.size D : Int) == 0) = false := by rw [HMS.out, beq_eq_false_iff_ne]; omega
    by_cases h64 : out.length = 64
    · rw [if_pos h64] at hst
      have HR := Lib.hid hst
      have e1 : ((out.length : Int) == 64) = true := by rw [h64]; rfl
      clear hst hml hcl hc0 hb0 h64
      go_wp2_with (at_len; refine wpList_len_own _ rfl _ 161 rfl 3 4 Tryz.underlying161 _ B6 l.length D rfl HMP.out ?_)
      refine HRT.out _ _ ⟨HBE.out, HR.out, ?_⟩
      repeat apply Exists.intro
      rfl
    · rw [if_neg h64] at hst
      have e1 : ((out.length : Int) == 64) = false := by rw [beq_eq_false_iff_ne]; omega
      have hb1l := HBT.out hb0
      have HR := Lib.hid hst
      have HB0 := Lib.hid hb0
      clear hst hcl hc0 hb0
      go_wp2_with (at_len; refine wpList_len_own _ rfl _ 161 rfl 3 4 Tryz.underlying161 _ B6 l.length D rfl HMP.out ?_)
      go_loopw [22, 23, 108] (fun mv av bv ws => ∃ i : Nat, i <= l.length /\ bv = .int .i64 i /\ mv = .int .i64 (bestTo g mi i).2 /\ av = .int .i64 (atV (bestTo g mi i)) /\ wo = ws) (fun _ _ bv _ => l.length - (intOf bv).toNat)
      case atStart => exact ⟨0, Nat.zero_le _, rfl, rfl, rfl, rfl⟩
      case round =>
       obtain ⟨i, hi, rfl, rfl, rfl, hww⟩ := hrel
       subst hww
       by_cases hlt : i < l.length
       · obtain ⟨row, hrow, hrl, hra⟩ := HG.out i hlt
         obtain ⟨ai, ci, hai, hci⟩ := HRW.out.at (ixC_get (n := l.length) hrow)
         rw [nvs_len] at hai
         have c1 : wo.cell? ⟨B4, i, none⟩ = some (.slice ai (ixT row l.length).length ci) := by rw [Blk.cell HBK.out, List.getElem?_toArray]; exact hai
         have i1 : (i : Int) < (l.length : Int) := by omega
         have i2 : (0 : Int) <= (i : Int) := by omega
         have hks : ∀ a ∈ ixT row l.length, a < l.length := fun a h => ixT_lt h
         have hkl := ixT_len row l.length
         have hgn := cntT_gain (row := row) (m := mi) (by omega) l.length (by omega)
         have hbst : bestTo g mi (i + 1) = if (bestTo g mi i).2 < gainTo row mi l.length then (i, gainTo row mi l.length) else bestTo g mi i := by
          conv => lhs; unfold bestTo
          rw [hra, hml]
         have hbl2 := bestTo_le g mi i
         rw [<- hgn] at hbst
         have hcle := cntT_le mi (ixT row l.length)
         generalize ixT row l.length = ks at *
         have HCI := Lib.hid hci; have HKS := Lib.hid hks; have HBS := Lib.hid hbst
         clear hai hci hks hgn hrow hrl hra hbst
         go_wp2_with fail
         go_loopw [25, 116] (fun nv jv ws => ∃ j : Nat, j <= ks.length /\ jv = .int .i64 j /\ nv = .int .i64 (cntT mi (ks.take j)) /\ wo = ws) (fun _ jv _ => ks.length - (intOf jv).toNat)
         case atStart => exact ⟨0, Nat.zero_le _, rfl, rfl, rfl⟩
         case round =>
          obtain ⟨j, hj, rfl, rfl, hww⟩ := hrel
          subst hww
          by_cases hlj : j < ks.length
          · obtain ⟨a, haj⟩ := get_of_lt hlj
            have hal := HKS.out a (List.mem_of_getElem? haj)
            obtain ⟨q, hq⟩ := get_of_lt (xs := mi) (show a < mi.length by omega)
            have hsn := cntT_snoc haj hq
            have hat := (HMI.out.2.1 a q hq).2
            have hcl := cntT_le mi (ks.take j)
            rw [List.length_take] at hcl
            obtain ⟨bi, oi, rfl⟩ := HCI.out.addr (nvs_ne (by omega))
            have c2 := HCI.out.at (nvs_get haj)
            have j1 : (j : Int) < (ks.length : Int) := by omega
            have j2 : (0 : Int) <= (j : Int) := by omega
            have hkey := keyOf_int_mk Tryz.underlying3 (key_wf (k := a) (by omega))
            have HKEY := Lib.hid hkey; have HAT := Lib.hid hat; have HSN := Lib.hid hsn
            clear hkey hat hsn hq haj
            generalize cntT mi (ks.take j) = cn at *
            cases q with
            | false =>
              rw [if_neg (by decide)] at HSN
              go_wp2_with (at_lookup; refine wpList_lookup_bool _ rfl _ _ 161 rfl 3 4 Tryz.keyInt Tryz.underlying161 Tryz.underlying4 (Tryz.zeroBool _) B6 l.length D rfl HMP.out _ _ rfl HKEY.out false HAT.out ?_)
              go_roundw
              case rel => exact ⟨j + 1, by omega, by go_num, by rw [HSN.out]; simp, by first | rfl | trivial⟩
              case measure => simp [intOf]; omega
            | true =>
              rw [if_pos rfl] at HSN
              go_wp2_with (at_lookup; refine wpList_lookup_bool _ rfl _ _ 161 rfl 3 4 Tryz.keyInt Tryz.underlying161 Tryz.underlying4 (Tryz.zeroBool _) B6 l.length D rfl HMP.out _ _ rfl HKEY.out true HAT.out ?_)
              go_roundw
              case rel => exact ⟨j + 1, by omega, by go_num, by rw [HSN.out]; go_num, by first | rfl | trivial⟩
              case measure => simp [intOf]; omega
          · obtain rfl : j = ks.length := by omega
            rw [List.take_length]
            have hbs := HBS.out
            generalize cntT mi ks = cn at *
            by_cases hgt : (bestTo g mi i).2 < cn
            · rw [if_pos hgt] at hbs
              have HB := Lib.hid hbs
              have hav : atV (i, cn) = i := by unfold atV; rw [if_neg (by simp only; omega)]
              have HAV := Lib.hid hav
              clear hbs hav
              generalize (bestTo g mi i).2 = mo at *
              have g1 : (mo : Int) < (cn : Int) := by omega
              go_wp2_with fail
              go_roundw
              case rel => exact ⟨i + 1, by omega, by go_num, by rw [HB.out], by rw [HB.out, HAV.out], by first | rfl | trivial⟩
              case measure => simp [intOf]; omega
            · rw [if_neg hgt] at hbs
              have HB := Lib.hid hbs
              clear hbs
              generalize bestTo g mi i = pp at *
              generalize hav : atV pp = av at *
              generalize hmo : pp.2 = mo at *
              have HAV := Lib.hid hav; have HMO := Lib.hid hmo
              clear hav hmo
              have g1 : ¬ (mo : Int) < (cn : Int) := by omega
              go_wp2_with fail
              go_roundw
              case rel => exact ⟨i + 1, by omega, by go_num, by rw [HB.out, HMO.out], by rw [HB.out, HAV.out], by first | rfl | trivial⟩
              case measure => simp [intOf]; omega
       · obtain rfl : i = l.length := by omega
         have hav : atV (bestTo g mi l.length) = (bestTo g mi l.length).1 := by unfold atV; rw [if_neg HB0.out]
         rw [hav]
         clear hav HSFF HBL HBT HST HMS e0
         generalize (bestTo g mi l.length).2 = b2 at *
         generalize (bestTo g mi l.length).1 = b1 at *
         clear HB0
         obtain ⟨row, hrow, hrl, hra⟩ := HG.out b1 hb1l
         rw [hra] at HR
         obtain ⟨ai, ci, hai, hci⟩ := HRW.out.at (ixC_get (n := l.length) hrow)
         rw [nvs_len] at hai
         have c1 : wo.cell? ⟨B4, b1, none⟩ = some (.slice ai (ixT row l.length).length ci) := by rw [Blk.cell HBK.out, List.getElem?_toArray]; exact hai
         have i1 : (b1 : Int) < (l.length : Int) := by omega
         have i2 : (0 : Int) <= (b1 : Int) := by omega
         have hks : ∀ a ∈ ixT row l.length, a < l.length := fun a h => ixT_lt h
         have hkl := ixT_len row l.length
         have hrm : row.length = mi.length := by omega
         have hdl : delT mi (ixT row l.length) = strike row mi := by rw [delT_mid hrm _ (by omega), <- hml, midTo_full hrm]
         have hsl : (strike row mi).length = l.length := by rw [strike_len hrm]; exact hml
         have hix := ixC_get (n := l.length) hrow
         generalize ixT row l.length = ks at *
         have HAI := Lib.hid hai; have HKS := Lib.hid hks; have HDL := Lib.hid hdl; have HIX := Lib.hid hix
         clear hai hci hks hrow hrl hra hdl hix
         go_wp2_with fail
         go_loopw [137] (fun jv ws => ∃ (j : Nat) (D' : DataW Unit), j <= ks.length /\ jv = .int .i64 j /\ ws.ownsMap Tryz.prog 3 (plainElem Tryz.prog 4) B6 l.length D' /\ MIs D' (delT mi (ks.take j)) /\ ws.ownsRow (B6 + 1) 23 2 (.slice oa out.length oc) out.length (prs (pick (pairsOf l) out)) /\ Below B6 W ws) (fun jv _ => ks.length - (intOf jv).toNat)
         case atStart => exact ⟨0, D, Nat.zero_le _, rfl, HMP.out, HMI.out, HO.out, HBE.out⟩
         case round =>
          obtain ⟨j, D', hj, rfl, hmap, hmi2, hown, hbe⟩ := hrel
          have hsz := hbe.size
          by_cases hlj : j < ks.length
          · obtain ⟨a, haj⟩ := get_of_lt hlj
            have hal := HKS.out a (List.mem_of_getElem? haj)
            have hdel := hmi2.del (k := a) (by rw [delT_len]; omega)
            rw [<- delT_snoc haj] at hdel
            obtain ⟨y8, -, y9, -, hrw2⟩ := HK.out wr hbe
            have hciw := hrw2.cells_at HIX.out HAI.out
            obtain ⟨bi, oi, rfl⟩ := hciw.addr (nvs_ne (by omega))
            have c2 := hciw.at (nvs_get haj)
            have j1 : (j : Int) < (ks.length : Int) := by omega
            have j2 : (0 : Int) <= (j : Int) := by omega
            have hkey := keyOf_int_mk Tryz.underlying3 (key_wf (k := a) (by omega))
            have HKEY := Lib.hid hkey; have HD := Lib.hid hdel; have HM2 := Lib.hid hmap; have HO2 := Lib.hid hown; have HB2 := Lib.hid hbe
            clear hkey hdel hmap hown hbe hmi2 haj hciw hrw2
            go_wp2_with (at_delete; refine wpList_delete_own _ rfl _ _ 161 3 rfl 4 Tryz.keyInt Tryz.underlying161 _ B6 l.length D' rfl HM2.out _ _ rfl HKEY.out ?_; intro w1 hown1 hturn1; have HO1 := Lib.hid hown1; have HG1 := Lib.hid hturn1.grown; clear hown1 hturn1)
            have hb1 := HB2.out.grown HG1.out (by omega) (fun j e => by cases e; exact Nat.le_refl _)
            have hoz := HO2.out.kept HG1.out (.inr fun e => by have := HOB.out _ e; omega)
            go_wp2_with fail
            go_roundw
            case rel => exact ⟨j + 1, _, by omega, by go_num, HO1.out, HD.out, hoz, hb1⟩
            case measure => simp [intOf]; omega
          · obtain rfl : j = ks.length := by omega
            rw [List.take_length, HDL.out] at hmi2
            obtain ⟨y8, hpcx, y9, -, -⟩ := HK.out wr hbe
            obtain ⟨t, ht⟩ := get_of_lt hb1l
            have htt : (pairsOf l)[b1]? = some t.1 := by rw [pairsOf, List.getElem?_map, ht]; rfl
            have hll : (pairsOf l).length = l.length := by simp [pairsOf]
            obtain ⟨bk, off, rfl⟩ := hpcx.addr (prs_ne (by omega))
            have c1 := hpcx.at (prs_fst htt)
            have c2 := hpcx.at (prs_snd htt)
            rw [<- Nat.add_assoc] at c2
            have hps := pick_snoc out htt
            have HM2 := Lib.hid hmap; have HO2 := Lib.hid hown; have HB2 := Lib.hid hbe; have HMI2 := Lib.hid hmi2; have HPP := Lib.hid hps
            clear hmap hown hbe hmi2 hpcx hps ht htt hll
            go_wp2_with (at_builtin; refine wpList_append_own _ rfl _ _ 44 rfl (B6 + 1) 23 i0 (.agg #[.int .i64 0, .int .i64 0]) 2 16 Tryz.underlying44 HI.out hz0 hz1 hz2 rfl (by decide) _ _ _ rfl (HO2.out.alloc _) ⟨wr.heap.size, 0, none⟩ 1 1 [.int .i64 t.1.1, .int .i64 t.1.2] rfl rfl (World.news_of_block (cs := #[.int .i64 t.1.1, .int .i64 t.1.2]) (t := 23) (fr := (0, 0)) (heap_alloc_new wr _)) (by simp [Value.oneCell']) (by unfold maxLen; omega) (by omega) (by simp; omega) ?_; intro v1 wz hown1 hgrow _; have HOW := Lib.hid hown1; have HGR := Lib.hid hgrow; clear hown1 hgrow)
            have hbz := (HB2.out.alloc (by omega) (.cells #[.int .i64 t.1.1, .int .i64 t.1.2] 23)).grown HGR.out (by simp; omega) (fun j e => by have := HOB.out j e; omega)
            have hmz := (HM2.out.alloc (.cells #[.int .i64 t.1.1, .int .i64 t.1.2] 23)).kept HGR.out (fun e => by have := HOB.out _ e.symm; omega)
            have how := HOW.out
            rw [<- HPP.out] at how
            have hlen1 : (out ++ [b1]).length = out.length + 1 := by simp
            have hvl2 := own_vlen how
            rw [<- hlen1] at how
            have HBZ := Lib.hid hbz; have HMZ := Lib.hid hmz; have HOO := Lib.hid how
            clear hbz hmz how
            go_wp2_with fail
            go_roundw
            case rel => exact ⟨out ++ [b1], strike row mi, D', by omega, hsl, HR.out.symm, HOO.out, HMZ.out, HMI2.out, HBZ.out⟩
            case measure => have h5 := HVV.out; omega
end Go.Proofs.YtdpjdifoonfcdaaGreatDoor

namespace Go.Proofs.YtdpjdifoonfcdaaGreatDoor
open Go.RowKit
def T2 (p : Nat × Nat) : ByteArray := ofT (p.1 : Int) p.2
end Go.Proofs.YtdpjdifoonfcdaaGreatDoor
