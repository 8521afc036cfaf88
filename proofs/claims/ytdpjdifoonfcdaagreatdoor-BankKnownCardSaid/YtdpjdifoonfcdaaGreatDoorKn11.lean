/- Parts of a proof, in build order: LD, LS, LG, LF, LQ, JB, JD, JC, LV, LW. -/
import Derived.Test.YtdpjdifoonfcdaaGreatDoorKn10
import Derived.Maps.OwnSet
import Derived.Shelf.SlSortCmp.WholeK
import Derived.Test.YtdpjdifoonfcdaaGreatDoorProg
import Derived.Shelf.SlSortCmp.NoneTotal

namespace Go.Proofs.YtdpjdifoonfcdaaGreatDoor
open Go.RowKit
def rowAt (g : List (List Bool)) (i : Nat) : List Bool := (g[i]?).getD []
def bestTo (g : List (List Bool)) (m : List Bool) : Nat -> Nat × Nat
 | 0 => (0, 0)
 | k + 1 => if (bestTo g m k).2 < gainTo (rowAt g k) m m.length then (k, gainTo (rowAt g k) m m.length) else bestTo g m k
theorem bestTo_lt (g : List (List Bool)) (m : List Bool) (k : Nat) : (bestTo g m k).2 ≠ 0 -> (bestTo g m k).1 < k := by
 induction k with
 | zero => intro h; exact absurd rfl h
 | succ k ih =>
   intro h
   unfold bestTo at h ⊢
   split
   · exact Nat.lt_succ_self k
   · rename_i hc
     rw [if_neg hc] at h
     exact Nat.lt_succ_of_lt (ih h)
theorem bestTo_le (g : List (List Bool)) (m : List Bool) (k : Nat) : (bestTo g m k).2 <= m.length := by
 induction k with
 | zero => exact Nat.zero_le _
 | succ k ih =>
   unfold bestTo
   split
   · exact gainTo_le _ _ _
   · exact ih
def strike (row m : List Bool) : List Bool := List.zipWith (fun x y => x && !y) m row
theorem strike_len {row m : List Bool} (h : row.length = m.length) : (strike row m).length = m.length := by
 unfold strike
 rw [List.length_zipWith]; omega
def midTo (row m : List Bool) (k : Nat) : List Bool := (strike row m).take k ++ m.drop k
theorem midTo_zero (row m : List Bool) : midTo row m 0 = m := by simp [midTo]
theorem midTo_full {row m : List Bool} (h : row.length = m.length) : midTo row m m.length = strike row m := by
 unfold midTo
 rw [List.take_of_length_le (by rw [strike_len h]; exact Nat.le_refl _), List.drop_of_length_le (Nat.le_refl _), List.append_nil]
theorem midTo_get {row m : List Bool} (h : row.length = m.length) {k : Nat} (hk : k < m.length) : (midTo row m k)[k]? = m[k]? := by
 unfold midTo
 rw [List.getElem?_append_right (by rw [List.length_take, strike_len h]; omega), List.length_take, strike_len h, Nat.min_eq_left (by omega), Nat.sub_self, List.getElem?_drop, Nat.add_zero]
theorem midTo_set {row m : List Bool} (h : row.length = m.length) {k : Nat} {p q : Bool} (hq : m[k]? = some q) (hp : row[k]? = some p) : (midTo row m k).set k (q && !p) = midTo row m (k + 1) := by
 have hk := (List.getElem?_eq_some_iff.1 hq).1
 have hs : (strike row m)[k]? = some (q && !p) := by
  unfold strike
  rw [List.getElem?_zipWith, hq, hp]
 unfold midTo
 rw [List.set_append_right _ _ (by rw [List.length_take, strike_len h]; omega), List.length_take, strike_len h, Nat.min_eq_left (by omega), Nat.sub_self]
 rw [List.take_add_one, hs, List.drop_eq_getElem_cons hk, List.set_cons_zero]
 simp
def grd (g : List (List Bool)) (p : Nat) : Nat -> List Bool -> List Nat -> Option (List Nat)
 | 0, _, _ => none
 | f + 1, m, out => if (bestTo g m p).2 = 0 then some out else if out.length = 64 then none else grd g p f (strike (rowAt g (bestTo g m p).1) m) (out ++ [(bestTo g m p).1])
theorem grd_step (g : List (List Bool)) (p : Nat) (m : List Bool) (out : List Nat) (h : out.length <= 64) : grd g p (65 - out.length) m out = if (bestTo g m p).2 = 0 then some out else if out.length = 64 then none else grd g p (65 - (out ++ [(bestTo g m p).1]).length) (strike (rowAt g (bestTo g m p).1) m) (out ++ [(bestTo g m p).1]) := by
 rw [show 65 - out.length = (64 - out.length) + 1 by omega, grd]
 rw [List.length_append, List.length_singleton, show 65 - (out.length + 1) = 64 - out.length by omega]
end Go.Proofs.YtdpjdifoonfcdaaGreatDoor

namespace Go.Proofs.YtdpjdifoonfcdaaGreatDoor
open Go.RowKit
theorem Tryz.infoInts : (Tryz.prog.info? 24).map (fun i => (i.zero, i.size, i.bytes)) = some (some (.slice none 0 0), 1, 24) := by kernel_rfl
def svB (n d L : Int) (xb xa : Int × Int) : Bool := (srv n d L.toNat (wav L xa.1 xa.2) (wav L xb.1 xb.2)).isSome
def svM (n d L : Int) (l xs : List (Pt L)) : List (List Bool) := xs.map fun xb => l.map fun xa => svB n d L xb.1 xa.1
def pick (ps : List (Int × Int)) (out : List Nat) : List (Int × Int) := out.map fun i => (ps[i]?).getD (0, 0)
theorem pick_snoc {ps : List (Int × Int)} (out : List Nat) {i : Nat} {t : Int × Int} (h : ps[i]? = some t) : prs (pick ps (out ++ [i])) = prs (pick ps out) ++ [.int .i64 t.1, .int .i64 t.2] := by simp [pick, prs, h]
def vlen : Value -> Nat
 | .slice _ n _ => n
 | _ => 0
theorem own_vlen {w : World} {b : Nat} {e : TypeId} {s n : Nat} {v : Value} {xs : List Value} (h : w.ownsRow b e s v n xs) : vlen v = n := by
 obtain ⟨a, c, rfl, -⟩ := own_cells h
 rfl
theorem svM_len (n d L : Int) (l : List (Pt L)) : (svM n d L l l).length = l.length := List.length_map _
theorem svM_row {n d L : Int} {l : List (Pt L)} {i : Nat} (h : i < l.length) : ∃ row, (svM n d L l l)[i]? = some row /\ row.length = l.length /\ rowAt (svM n d L l l) i = row := by
 obtain ⟨x, hx⟩ := get_of_lt h
 refine ⟨l.map fun xa => svB n d L x.1 xa.1, ?_, List.length_map _, ?_⟩
 · rw [svM, List.getElem?_map, hx]; rfl
 · unfold rowAt
   rw [svM, List.getElem?_map, hx]; rfl
def bldO (n m : Nat) (L : Int) (l : List (Pt L)) : Option (List Nat) := grd (svM n m L l l) l.length 65 (l.map fun _ => true) []
def bldL (L : Int) (l : List (Pt L)) (o : Option (List Nat)) : List (Int × Int) := match o with | some out => pick (pairsOf l) out | none => []
def bldX (o : Option (List Nat)) : Int := match o with | some _ => 0 | none => 3
def buiR (L a b c d : Int) (s : ByteArray) : List (Int × Int) := if covE L a b c d [] s = 0 then (match barS s with | some (n, m) => bldL L (ptsAll L a c (d - c + 1).toNat (b - a + 1).toNat) (bldO n m L (ptsAll L a c (d - c + 1).toNat (b - a + 1).toNat)) | none => []) else []
def buiE (L a b c d : Int) (s : ByteArray) : Int := if covE L a b c d [] s = 0 then (match barS s with | some (n, m) => bldX (bldO n m L (ptsAll L a c (d - c + 1).toNat (b - a + 1).toNat)) | none => 0) else covE L a b c d [] s
theorem bui_yes {L a b c d : Int} {s : ByteArray} {n m : Nat} (h : covE L a b c d [] s = 0) (hb : barS s = some (n, m)) : buiR L a b c d s = bldL L (ptsAll L a c (d - c + 1).toNat (b - a + 1).toNat) (bldO n m L (ptsAll L a c (d - c + 1).toNat (b - a + 1).toNat)) /\ buiE L a b c d s = bldX (bldO n m L (ptsAll L a c (d - c + 1).toNat (b - a + 1).toNat)) := by
 unfold buiR buiE
 rw [if_pos h, if_pos h, hb]
 exact ⟨rfl, rfl⟩
theorem bui_no {L a b c d : Int} {s : ByteArray} (h : covE L a b c d [] s ≠ 0) : buiR L a b c d s = [] /\ buiE L a b c d s = covE L a b c d [] s := by
 unfold buiR buiE
 rw [if_neg h, if_neg h]
 exact ⟨rfl, rfl⟩
end Go.Proofs.YtdpjdifoonfcdaaGreatDoor

namespace Go.Proofs.YtdpjdifoonfcdaaGreatDoor
open Go.RowKit
theorem svB_self {n d L : Int} (x : Pt L) (hd : n <= d) : svB n d L x.1 x.1 = true := by
 obtain ⟨h1, h2⟩ := x.2
 have hL := waveOK_true h1
 have hp := norm_pos h2
 unfold svB srv fstS
 rw [List.find?_isSome]
 refine ⟨mkS (1 - (L.toNat : Int) + ((L.toNat - 1 : Nat) : Int)), List.mem_map.2 ⟨L.toNat - 1, List.mem_range.2 (by omega), rfl⟩, ?_⟩
 have h0 : 1 - (L.toNat : Int) + ((L.toNat - 1 : Nat) : Int) = 0 := by omega
 rw [h0, mkS_val (by omega) (by omega)]
 unfold rchB
 rw [show ((L.toNat : Nat) : Int) = L by omega]
 generalize ovl (wav L x.1.1 x.1.2) (wav L x.1.1 x.1.2) L 0 = N at *
 have hN : 0 <= N * N := Int.mul_nonneg (by omega) (by omega)
 rw [Bool.and_eq_true, decide_eq_true_eq, decide_eq_true_eq]
 exact ⟨by omega, Int.mul_le_mul_of_nonneg_left hd hN⟩
theorem gainTo_mono {r m : List Bool} {k : Nat} : ∀ j, gainTo r m k <= gainTo r m (k + j) := by
 intro j
 unfold gainTo
 refine List.Sublist.countP_le ?_
 have h1 : (r.take k).zip (m.take k) = (r.zip m).take k := by rw [List.zip_eq_zipWith, List.zip_eq_zipWith, List.take_zipWith]
 have h2 : (r.take (k + j)).zip (m.take (k + j)) = (r.zip m).take (k + j) := by rw [List.zip_eq_zipWith, List.zip_eq_zipWith, List.take_zipWith]
 rw [h1, h2]
 exact (List.take_prefix_take_left (by omega)).sublist
theorem gainTo_pos {r m : List Bool} {a k : Nat} (h1 : r[a]? = some true) (h2 : m[a]? = some true) (hk : a < k) : 0 < gainTo r m k := by
 have hs := gainTo_step h1 h2
 simp only [Bool.and_self, if_true] at hs
 have := gainTo_mono (r := r) (m := m) (k := a + 1) (k - (a + 1))
 rw [show a + 1 + (k - (a + 1)) = k by omega] at this
 omega
theorem gainTo_none {r m : List Bool} (h : m.count true = 0) (k : Nat) : gainTo r m k = 0 := by
 unfold gainTo
 rw [List.countP_eq_zero]
 rintro ⟨x, y⟩ hx
 have hy := (List.of_mem_zip hx).2
 have hm : y ∈ m := List.mem_of_mem_take hy
 simp only [Bool.and_eq_true, not_and, Bool.not_eq_true]
 intro _
 cases y
 · rfl
 · have := List.count_pos_iff.2 hm; omega
theorem bestTo_ge (g : List (List Bool)) (m : List Bool) : ∀ k i, i < k -> gainTo (rowAt g i) m m.length <= (bestTo g m k).2 := by
 intro k
 induction k with
 | zero => intro i h; omega
 | succ k ih =>
   intro i hi
   unfold bestTo
   by_cases hik : i = k
   · subst hik
     split
     · exact Nat.le_refl _
     · omega
   · have := ih i (by omega)
     split
     · simp only; omega
     · exact this
theorem bestTo_none {g : List (List Bool)} {m : List Bool} (h : m.count true = 0) (k : Nat) : (bestTo g m k).2 = 0 := by
 induction k with
 | zero => rfl
 | succ k ih =>
   unfold bestTo
   rw [gainTo_none h, if_neg (by omega)]
   exact ih
theorem most_zero {g : List (List Bool)} {m : List Bool} (hself : ∀ a, a < m.length -> (rowAt g a)[a]? = some true) : (bestTo g m m.length).2 = 0 ↔ m.count true = 0 := by
 constructor
 · intro h
   refine Nat.eq_zero_of_not_pos fun hc => ?_
   obtain ⟨a, ha, hma⟩ := List.mem_iff_getElem.1 (List.count_pos_iff.1 hc)
   have h1 := gainTo_pos (hself a ha) (show m[a]? = some true by rw [List.getElem?_eq_getElem ha, hma]) ha
   have h2 := bestTo_ge g m m.length a ha
   omega
 · exact fun h => bestTo_none h _
theorem svM_self {n d L : Int} {l : List (Pt L)} (hd : n <= d) {a : Nat} (ha : a < l.length) : (rowAt (svM n d L l l) a)[a]? = some true := by
 obtain ⟨x, hx⟩ := get_of_lt ha
 unfold rowAt svM
 rw [List.getElem?_map, hx]
 simp only [Option.map_some, Option.getD_some]
 rw [List.getElem?_map, hx]
 simp only [Option.map_some]
 rw [svB_self x hd]
end Go.Proofs.YtdpjdifoonfcdaaGreatDoor

namespace Go.Proofs.YtdpjdifoonfcdaaGreatDoor
open Go.RowKit Go.Maps Go.ChangeMaps Go.MapKept
def MIs (D : DataW Unit) (m : List Bool) : Prop := Maps.Tidy D /\ (∀ (i : Nat) (b : Bool), m[i]? = some b -> Maps.has D (.int .i64 i) = b /\ D.atKey (.int .i64 i) (.lit (.bool false)) = .lit (.bool b)) /\ Maps.size D = m.count true
theorem key_int (i : Nat) : WideAt.IsKeyLit (.int .i64 i) := by
 first | exact .int _ _ | trivial | (unfold WideAt.IsKeyLit; trivial) | decide
theorem MIs.nil (n : Nat) : MIs (.map []) (List.replicate n false) := by
 refine ⟨Maps.tidy_empty, fun i b h => ?_, ?_⟩
 · rw [List.getElem?_replicate] at h
   split at h
   · cases h; exact ⟨rfl, rfl⟩
   · cases h
 · simp [Maps.size, List.count_replicate]
theorem MIs.put {D : DataW Unit} {m : List Bool} {k : Nat} (h : MIs D m) (hk : m[k]? = some false) : MIs (D.put (.int .i64 k) (.lit (.bool true))) (m.set k true) := by
 obtain ⟨h0, h1, h2⟩ := h
 have hl := (List.getElem?_eq_some_iff.1 hk)
 obtain ⟨hl, he⟩ := hl
 refine ⟨h0.put (key_int k) _, fun i b hi => ?_, ?_⟩
 · by_cases hik : i = k
   · subst hik
     rw [List.getElem?_set_self hl] at hi
     cases hi
     exact ⟨Maps.has_put_same h0.isMap (key_int _) _, Maps.atKey_put_same h0.isMap (key_int _) _ _⟩
   · rw [List.getElem?_set_ne (fun e => hik e.symm)] at hi
     have hne : (Lit.int .i64 i) ≠ .int .i64 k := fun e => hik (by injection e with _ e; omega)
     obtain ⟨a1, a2⟩ := h1 i b hi
     exact ⟨(Maps.has_put_other hne _).trans a1, (Maps.atKey_put_other hne _ _).trans a2⟩
 · rw [Maps.size_put h0, (h1 k false hk).1, if_neg (by decide), h2, List.count_set hl, he]
   simp
theorem MIs.del {D : DataW Unit} {m : List Bool} {k : Nat} (h : MIs D m) (hl : k < m.length) : MIs (D.del (.int .i64 k)) (m.set k false) := by
 obtain ⟨h0, h1, h2⟩ := h
 refine ⟨h0.del _, fun i b hi => ?_, ?_⟩
 · by_cases hik : i = k
   · subst hik
     rw [List.getElem?_set_self hl] at hi
     cases hi
     exact ⟨Maps.has_del_same, Maps.atKey_del_same _⟩
   · rw [List.getElem?_set_ne (fun e => hik e.symm)] at hi
     have hne : (Lit.int .i64 i) ≠ .int .i64 k := fun e => hik (by injection e with _ e; omega)
     obtain ⟨a1, a2⟩ := h1 i b hi
     exact ⟨(Maps.has_del_other hne).trans a1, (Maps.atKey_del_other hne _).trans a2⟩
 · have hs := Maps.size_del (k := .int .i64 k) h0
   have hb := (h1 k (m[k]) (List.getElem?_eq_getElem hl)).1
   rw [hb, h2] at hs
   rw [List.count_set hl]
   have hc : m[k] = true -> 0 < m.count true := fun e => List.count_pos_iff.2 (by rw [<- e]; exact List.getElem_mem hl)
   generalize m[k] = q at *
   cases q
   · simp at hs ⊢; omega
   · have := hc rfl; simp at hs ⊢; omega
theorem plainElem_bool_inv {P : Program} {e : TypeId} (he : P.underlying e = some .bool) {v : Value} {z : DataW Unit × List MemPlace} (h : plainElem P e v = some z) : ∃ x, v = .bool x /\ z = (.lit (.bool x), []) := by
 unfold plainElem at h
 rw [he] at h
 cases v <;> simp at h
 exact ⟨_, rfl, h.symm⟩
theorem wpList_lookup_bool {P : Program} (w : World) {ops : Array Oper} {rest : List Oper} {o : Oper} {a : Act} {Q : Exit -> Act -> World -> Prop}
 (hg : o.guard = none) (m x : Operand) (t : TypeId) (hop : o.op = Op.lookup t m x false)
 (k e : TypeId) (K : Maps.Keyed P k) (ht : P.underlying t = some (.map k e)) (he : P.underlying e = some .bool) (hz : (zeroValue e).run P w = .ok (.bool false) w) (b n : Nat) (D : DataW Unit)
 (hm : a.eval m = .map (some b)) (hown : w.ownsMap P k (plainElem P e) b n D) (key : Value) (kl : Lit) (hx : a.eval x = key) (hkey : keyOf P k key = some kl) (c : Bool) (hat : D.atKey kl (.lit (.bool false)) = .lit (.bool c))
 (hK : wpList P ops Q rest (a.put o.dst (.bool c)) w) :
 wpList P ops Q (o :: rest) a w := by
 refine wpList_plain hg fun K' hK' => ?_
 obtain ⟨v, ps, hrun, hv⟩ := hown.lookup K ht hz (plainElem_bool he false) hkey
 obtain ⟨c', rfl, hc⟩ := plainElem_bool_inv he hv
 simp only [Prod.mk.injEq] at hc
 rw [hat] at hc
 have hcc : c = c' := by have := hc.1; injection this with h; injection h
 subst hcc
 unfold Oper.wp
 simp [execOp, hop, hm, hx, hrun, Result.andThen]
 exact hK' _ _ hK
end Go.Proofs.YtdpjdifoonfcdaaGreatDoor

namespace Go.Proofs.YtdpjdifoonfcdaaGreatDoor
open Go.RowKit
def ixT (row : List Bool) (k : Nat) : List Nat := (List.range k).filter fun a => row[a]? == some true
theorem ixT_zero (row : List Bool) : ixT row 0 = [] := rfl
theorem ixT_step {row : List Bool} {k : Nat} {p : Bool} (h : row[k]? = some p) : ixT row (k + 1) = ixT row k ++ if p = true then [k] else [] := by
 unfold ixT
 rw [List.range_succ, List.filter_append]
 congr 1
 cases p <;> simp [h]
theorem ixT_lt {row : List Bool} {k a : Nat} (h : a ∈ ixT row k) : a < k := by
 unfold ixT at h
 exact List.mem_range.1 (List.mem_filter.1 h).1
theorem ixT_len (row : List Bool) (k : Nat) : (ixT row k).length <= k := by
 unfold ixT
 refine Nat.le_trans (List.length_filter_le _ _) ?_
 rw [List.length_range]; exact Nat.le_refl _
def cntT (m : List Bool) (ks : List Nat) : Nat := ks.countP fun a => m[a]? == some true
theorem cntT_snoc {m : List Bool} {ks : List Nat} {j a : Nat} {q : Bool} (hj : ks[j]? = some a) (hq : m[a]? = some q) : cntT m (ks.take (j + 1)) = cntT m (ks.take j) + if q = true then 1 else 0 := by
 unfold cntT
 rw [List.take_add_one, hj, List.countP_append]
 congr 1
 cases q <;> simp [hq]
theorem cntT_le (m : List Bool) (ks : List Nat) : cntT m ks <= ks.length := List.countP_le_length
theorem cntT_gain {row m : List Bool} (h : row.length = m.length) : ∀ k, k <= m.length -> cntT m (ixT row k) = gainTo row m k := by
 intro k
 induction k with
 | zero => intro _; rfl
 | succ k ih =>
   intro hk
   obtain ⟨p, hp⟩ := get_of_lt (xs := row) (show k < row.length by omega)
   obtain ⟨q, hq⟩ := get_of_lt (xs := m) (show k < m.length by omega)
   rw [ixT_step hp, gainTo_step hp hq, <- ih (by omega)]
   unfold cntT
   rw [List.countP_append]
   congr 1
   cases p <;> cases q <;> simp [hq]
def delT (m : List Bool) (ks : List Nat) : List Bool := ks.foldl (fun m a => m.set a false) m
theorem delT_snoc {m : List Bool} {ks : List Nat} {j a : Nat} (hj : ks[j]? = some a) : delT m (ks.take (j + 1)) = (delT m (ks.take j)).set a false := by
 unfold delT
 rw [List.take_add_one, hj, List.foldl_append]
 rfl
theorem delT_len (m : List Bool) (ks : List Nat) : (delT m ks).length = m.length := by
 unfold delT
 induction ks generalizing m with
 | nil => rfl
 | cons a ks ih => rw [List.foldl_cons, ih, List.length_set]
theorem delT_mid {row m : List Bool} (h : row.length = m.length) : ∀ k, k <= m.length -> delT m (ixT row k) = midTo row m k := by
 intro k
 induction k with
 | zero => intro _; rw [ixT_zero, midTo_zero]; rfl
 | succ k ih =>
   intro hk
   obtain ⟨p, hp⟩ := get_of_lt (xs := row) (show k < row.length by omega)
   obtain ⟨q, hq⟩ := get_of_lt (xs := m) (show k < m.length by omega)
   rw [ixT_step hp, <- midTo_set h hq hp, <- ih (by omega)]
   cases p
   · have hg : (delT m (ixT row k))[k]? = some q := by rw [ih (by omega), midTo_get h (by omega), hq]
     simp only [Bool.not_false, Bool.and_true, Bool.false_eq_true, if_false, List.append_nil]
     obtain ⟨hl, he⟩ := List.getElem?_eq_some_iff.1 hg
     rw [<- he, List.set_getElem_self]
   · unfold delT
     simp [List.foldl_append]
def atV (p : Nat × Nat) : Int := if p.2 = 0 then -1 else p.1
def nvs (l : List Nat) : List Int := l.map fun a : Nat => (a : Int)
theorem nvs_get {l : List Nat} {j a : Nat} (h : l[j]? = some a) : ((nvs l).map (Value.int .i64))[j]? = some (.int .i64 a) := by
 unfold nvs
 rw [List.getElem?_map, List.getElem?_map, h]; rfl
theorem nvs_len (l : List Nat) : ((nvs l).map (Value.int .i64)).length = l.length := by
 unfold nvs
 rw [List.length_map, List.length_map]
theorem nvs_snoc (l : List Nat) (a : Nat) : (nvs (l ++ [a])).map (Value.int .i64) = (nvs l).map (Value.int .i64) ++ [.int .i64 a] := by simp [nvs]
theorem nvs_ne {l : List Nat} (h : 0 < l.length) : (nvs l).map (Value.int .i64) ≠ [] := by
 intro h2
 have := nvs_len l
 rw [h2] at this
 simp at this; omega
def ixC (g : List (List Bool)) (n : Nat) : List (List Value) := g.map fun r => (nvs (ixT r n)).map (Value.int .i64)
theorem ixC_get {g : List (List Bool)} {n i : Nat} {r : List Bool} (h : g[i]? = some r) : (ixC g n)[i]? = some ((nvs (ixT r n)).map (Value.int .i64)) := by
 unfold ixC
 rw [List.getElem?_map, h]; rfl
end Go.Proofs.YtdpjdifoonfcdaaGreatDoor

namespace Go.Proofs.YtdpjdifoonfcdaaGreatDoor
open Go.RowKit
def htOK (h : Int × Int × Int) : Prop := (0 <= h.1 /\ h.1 <= 1000) /\ (0 <= h.2.1 /\ h.2.1 <= 63) /\ 0 <= h.2.2 /\ h.2.2 <= 268435456
instance (h : Int × Int × Int) : Decidable (htOK h) := by unfold htOK; exact inferInstance
abbrev Ht := {h : Int × Int × Int // htOK h}
instance : Inhabited Ht := ⟨⟨(0, 0, 0), by decide⟩⟩
def encH (x : Ht) : List Value := [.int .i64 x.1.1, .int .i64 x.1.2.1, .int .i64 x.1.2.2]
def hts (l : List Ht) : List Value := l.flatMap encH
theorem hts_len (l : List Ht) : (hts l).length = l.length * 3 := by
 induction l with
 | nil => rfl
 | cons x r ih => rw [show hts (x :: r) = encH x ++ hts r from rfl, List.length_append, ih, List.length_cons]; simp [encH]; omega
end Go.Proofs.YtdpjdifoonfcdaaGreatDoor

namespace Go.Proofs.YtdpjdifoonfcdaaGreatDoor
open Go.RowKit Go.Shelf Go.Sort
theorem encH_len (x : Ht) : (encH x).length = 3 := rfl
theorem hts_get : ∀ (l : List Ht) (t : Nat), t < l.length * 3 -> (hts l)[t]? = some ((encH l.toArray[t / 3]!)[t % 3]!)
 | [], t, h => by simp at h
 | x :: r, t, h => by
   rw [show hts (x :: r) = encH x ++ hts r from rfl]
   by_cases h3 : t < 3
   · rw [List.getElem?_append_left (by rw [encH_len]; exact h3), show t / 3 = 0 by omega, show t % 3 = t by omega]
     have : (x :: r).toArray[0]! = x := rfl
     rw [this, List.getElem?_eq_getElem (by rw [encH_len]; exact h3), getElem!_pos _ _ (by rw [encH_len]; exact h3)]
   · rw [List.getElem?_append_right (by rw [encH_len]; omega), encH_len, hts_get r (t - 3) (by simp at h; omega), show (t - 3) / 3 = t / 3 - 1 by omega, show (t - 3) % 3 = t % 3 by omega]
     have : (x :: r).toArray[t / 3]! = r.toArray[t / 3 - 1]! := by
      obtain ⟨k, hk⟩ : ∃ k, t / 3 = k + 1 := ⟨t / 3 - 1, by omega⟩
      rw [hk]; simp
     rw [this]
def RowH (w : World) (b off : Nat) (l : List Ht) : Prop := HoldsK encH 3 w b off l.toArray
theorem RowH.cells {w : World} {b off : Nat} {l : List Ht} (h : RowH w b off l) : Cells w (some ⟨b, off, none⟩) (hts l) := by
 refine .inr ⟨b, off, rfl, fun j u hu => ?_⟩
 have hj : j < l.length * 3 := by rw [<- hts_len]; exact (List.getElem?_eq_some_iff.1 hu).1
 have h1 := (h j (by simpa using hj)).1
 rw [hts_get l j hj] at hu
 rw [h1, get_flatK encH 3 l.toArray j (by simpa using hj)]
 simpa using hu
theorem RowH.below {w w' : World} {b off B : Nat} {l : List Ht} (h : RowH w b off l) (hb : Below B w w') (hB : b < B) : RowH w' b off l := fun j hj => by
 obtain ⟨h1, h2⟩ := h j hj
 exact ⟨(hb.cell (p := ⟨b, off + j, none⟩) hB).trans h1, (hb.frozen (p := ⟨b, off + j, none⟩) hB).trans h2⟩
end Go.Proofs.YtdpjdifoonfcdaaGreatDoor

namespace Go.Proofs.YtdpjdifoonfcdaaGreatDoor
open Go.RowKit Go.Shelf
theorem own_ne_blk {w : World} {B b : Nat} {e t : TypeId} {k n : Nat} {v : Value} {xs : List Value} {cs : Array Value} (h : w.ownsRow B e k v n xs) (h' : Blk w b t cs) (hne : e ≠ t) : some b ≠ v.ownBlock := by
 intro he
 rcases h.2 with ⟨rfl, _⟩ | ⟨g, cap, cur, rfl, _, hg, _⟩
 · cases he
 · simp only [Value.ownBlock, Option.some.injEq] at he
   subst he
   rw [show w.heap[b]? = _ from h'] at hg
   cases hg
   exact hne rfl
def HitRow (B : Nat) (w : World) (v : Value) (l : List Ht) : Prop := (v = .slice none 0 0 /\ l = []) ∨ ∃ b c, v = .slice (some ⟨b, 0, none⟩) l.length c /\ B <= b /\ b < w.heap.size /\ RowH w b 0 l
theorem HitRow.cells {B : Nat} {w : World} {v : Value} {l : List Ht} (h : HitRow B w v l) : ∃ a c, v = .slice a l.length c /\ Cells w a (hts l) := by
 rcases h with ⟨rfl, rfl⟩ | ⟨b, c, rfl, _, _, h⟩
 · exact ⟨none, 0, rfl, Cells.nil _ _⟩
 · exact ⟨_, c, rfl, h.cells⟩
end Go.Proofs.YtdpjdifoonfcdaaGreatDoor

namespace Go.Proofs.YtdpjdifoonfcdaaGreatDoor
open Go.RowKit Go.Shelf
noncomputable def buildLoop (k : Nat) : Code := (loopsIn (Tryz.f19.body.getD .skip)).getD k .skip
def wvP (L : Int) (l : List (Pt L)) : List (List Int) := l.map fun x => wav L x.1.1 x.1.2
theorem cells_two {w : World} {b off : Nat} {u v : Value} (h1 : w.cell? ⟨b, off, none⟩ = some u) (h2 : w.cell? ⟨b, off + 1, none⟩ = some v) : ∀ j x, (#[u, v] : Array Value)[j]? = some x -> w.cell? ((⟨b, off, none⟩ : Addr).add j) = some x := by
 intro j x hj
 rw [Addr.add_lit]
 match j, hj with
 | 0, hj => simp at hj; subst hj; exact h1
 | 1, hj => simp at hj; subst hj; exact h2
theorem RowsOf.lt {w : World} {base : Nat} {e : TypeId} {vs : List Value} {xss : List (List Value)} (h : RowsOf w base e vs xss) : ∀ v ∈ vs, ∀ j, v.ownBlock = some j -> j < w.heap.size := by
 intro v hv j hj
 obtain ⟨i, hi, rfl⟩ := List.mem_iff_getElem.1 hv
 obtain ⟨xs, hxs⟩ := get_of_lt (xs := xss) (show i < xss.length by have := h.1; omega)
 exact ((h.2 i _ xs (List.getElem?_eq_getElem hi) hxs).lt j hj).2
theorem RowsOf.keptN {w w' : World} {base : Nat} {e : TypeId} {vs : List Value} {xss : List (List Value)} {row : Option Nat} (h : RowsOf w base e vs xss) (hg : w.grownBy w' row) (hn : ∀ v ∈ vs, v.ownBlock = none ∨ v.ownBlock ≠ row) : RowsOf w' base e vs xss :=
 ⟨h.1, fun j v xs h1 h2 => (h.2 j v xs h1 h2).kept hg (hn v (List.mem_of_getElem? h1))⟩
theorem RowsOf.setB {w : World} {base B : Nat} {e T : TypeId} {cs : Array Value} {vs : List Value} {xss : List (List Value)} (h : RowsOf w base e vs xss) (hb : Blk w B T cs) (hT : e ≠ T) (i : Nat) (u : Value) : RowsOf (w.setCell ⟨B, i, none⟩ u) base e vs xss :=
 ⟨h.1, fun j v xs h1 h2 => own_set3 (p := ⟨B, i, none⟩) (h.2 j v xs h1 h2) (fun hh => own_ne_blk (h.2 j v xs h1 h2) hb hT hh.symm)⟩
theorem set_midL {α : Type} (vs : List α) (c u : α) (r : List α) {b : Nat} (h : vs.length = b) : (vs ++ c :: r).set b u = vs ++ u :: r := by
 subst h
 rw [List.set_append_right _ _ (Nat.le_refl _), Nat.sub_self, List.set_cons_zero]
theorem get_midL {α : Type} (vs : List α) (c : α) (r : List α) {b : Nat} (h : vs.length = b) : (vs ++ c :: r)[b]? = some c := by
 subst h
 rw [List.getElem?_append_right (Nat.le_refl _), Nat.sub_self]; rfl
set_option maxRecDepth 1000000 in
def Loop1X {L : Int} (l : List (Pt L)) (g : List (List Bool)) (B4 B9 C : Nat) (a9 : Option Addr) (e9 : Nat) (W : World) (df : List Deferred) (s0 s1 s2 s3 s4 s5 s7 s8 s10 s11 s19 s20 s21 s22 s23 s24 s25 s26 s27 s28 s29 s30 s31 s32 s33 s34 s35 s36 s37 s38 s39 s40 s41 s42 s43 s44 s45 s46 s47 s48 s49 s50 s51 s52 s53 s91 s92 s93 s94 s95 s96 s97 s98 s99 s100 s101 s102 s103 s104 s105 s106 s107 s108 s109 s110 s111 s112 s113 s114 s115 s116 s117 s118 s119 s120 s121 s122 s123 s124 s125 s126 s127 s128 s129 s130 s131 s132 s133 s134 s135 s136 s137 s138 s139 s140 s141 s142 s143 s144 s145 s146 s147 s148 s149 s150 s151 : Value) (a : Act) (w' : World) : Prop :=
 (∃ vs, Blk w' B4 24 vs.toArray /\ vs.length = l.length /\ RowsOf w' B4 3 vs (ixC g l.length)) /\ Below B4 W w' /\ ∃ v13 v14 v15 v16 v17 v18 v56 v57 v58 v59 v60 v61 v62 v63 v64 v65 v66 v67 v68 v69 v70 v71 v72 v73 v74 v75 v76 v77 v78 v79 v80 v81 v82 v83 v84 v85 v86 v87 v88 v89 v90 : Value, a = ⟨#[s0, s1, s2, s3, s4, s5, .pointer (some ⟨C, 0, none⟩), s7, s8, .pointer (some ⟨B9, 0, none⟩), s10, s11, .slice (some ⟨B4, 0, none⟩) l.length l.length, v13, v14, v15, v16, v17, v18, s19, s20, s21, s22, s23, s24, s25, s26, s27, s28, s29, s30, s31, s32, s33, s34, s35, s36, s37, s38, s39, s40, s41, s42, s43, s44, s45, s46, s47, s48, s49, s50, s51, s52, s53, .slice a9 l.length e9, .int .i64 l.length, v56, v57, v58, v59, v60, v61, v62, v63, v64, v65, v66, v67, v68, v69, v70, v71, v72, v73, v74, v75, v76, v77, v78, v79, v80, v81, v82, v83, v84, v85, v86, v87, v88, v89, v90, s91, s92, s93, s94, s95, s96, s97, s98, s99, s100, s101, s102, s103, s104, s105, s106, s107, s108, s109, s110, s111, s112, s113, s114, s115, s116, s117, s118, s119, s120, s121, s122, s123, s124, s125, s126, s127, s128, s129, s130, s131, s132, s133, s134, s135, s136, s137, s138, s139, s140, s141, s142, s143, s144, s145, s146, s147, s148, s149, s150, s151], df⟩
set_option maxRecDepth 1000000 in
set_option maxHeartbeats 8000000 in
theorem build_loop1 (n m : Nat) (L : Int) (l : List (Pt L)) (g : List (List Bool)) (B4 B9 C : Nat) (a9 : Option Addr) (e9 : Nat) (W : World) (Q0 : Exit -> Act -> World -> Prop) (df : List Deferred) (s0 s1 s2 s3 s4 s5 s7 s8 s10 s11 s13 s14 s15 s16 s17 s18 s19 s20 s21 s22 s23 s24 s25 s26 s27 s28 s29 s30 s31 s32 s33 s34 s35 s36 s37 s38 s39 s40 s41 s42 s43 s44 s45 s46 s47 s48 s49 s50 s51 s52 s53 s57 s58 s59 s60 s61 s62 s63 s64 s65 s66 s67 s68 s69 s70 s71 s72 s73 s74 s75 s76 s77 s78 s79 s80 s81 s82 s83 s84 s85 s86 s87 s88 s89 s90 s91 s92 s93 s94 s95 s96 s97 s98 s99 s100 s101 s102 s103 s104 s105 s106 s107 s108 s109 s110 s111 s112 s113 s114 s115 s116 s117 s118 s119 s120 s121 s122 s123 s124 s125 s126 s127 s128 s129 s130 s131 s132 s133 s134 s135 s136 s137 s138 s139 s140 s141 s142 s143 s144 s145 s146 s147 s148 s149 s150 s151 : Value)
 (hgd : g = svM n m L l l) (hL1 : 1 <= L) (hL : L <= 64) (hn6 : n <= 999999) (hm6 : m <= 999999) (h400 : l.length <= 400) (hW : B4 < W.heap.size)
 (HK : Hid (∀ ws, Below B4 W ws -> ws.cell? ⟨B9, 0, none⟩ = some (.slice a9 l.length e9) /\ Cells ws a9 (shpL L (wvP L l)) /\ ws.cell? ⟨C, 6, none⟩ = some (.int .i64 n) /\ ws.cell? ⟨C, 7, none⟩ = some (.int .i64 m)))
 (H0 : Hid (Blk W B4 24 (List.replicate l.length (Value.slice none 0 0)).toArray))
 (hexit : ∀ a' w', Loop1X l g B4 B9 C a9 e9 W df s0 s1 s2 s3 s4 s5 s7 s8 s10 s11 s19 s20 s21 s22 s23 s24 s25 s26 s27 s28 s29 s30 s31 s32 s33 s34 s35 s36 s37 s38 s39 s40 s41 s42 s43 s44 s45 s46 s47 s48 s49 s50 s51 s52 s53 s91 s92 s93 s94 s95 s96 s97 s98 s99 s100 s101 s102 s103 s104 s105 s106 s107 s108 s109 s110 s111 s112 s113 s114 s115 s116 s117 s118 s119 s120 s121 s122 s123 s124 s125 s126 s127 s128 s129 s130 s131 s132 s133 s134 s135 s136 s137 s138 s139 s140 s141 s142 s143 s144 s145 s146 s147 s148 s149 s150 s151 a' w' -> Q0 (.exit 2) a' w') :
 Code.wp Tryz.prog (Code.loop (buildLoop 0)) Q0 ⟨#[s0, s1, s2, s3, s4, s5, .pointer (some ⟨C, 0, none⟩), s7, s8, .pointer (some ⟨B9, 0, none⟩), s10, s11, .slice (some ⟨B4, 0, none⟩) l.length l.length, s13, s14, s15, s16, s17, s18, s19, s20, s21, s22, s23, s24, s25, s26, s27, s28, s29, s30, s31, s32, s33, s34, s35, s36, s37, s38, s39, s40, s41, s42, s43, s44, s45, s46, s47, s48, s49, s50, s51, s52, s53, .slice a9 l.length e9, .int .i64 l.length, .int .i64 0, s57, s58, s59, s60, s61, s62, s63, s64, s65, s66, s67, s68, s69, s70, s71, s72, s73, s74, s75, s76, s77, s78, s79, s80, s81, s82, s83, s84, s85, s86, s87, s88, s89, s90, s91, s92, s93, s94, s95, s96, s97, s98, s99, s100, s101, s102, s103, s104, s105, s106, s107, s108, s109, s110, s111, s112, s113, s114, s115, s116, s117, s118, s119, s120, s121, s122, s123, s124, s125, s126, s127, s128, s129, s130, s131, s132, s133, s134, s135, s136, s137, s138, s139, s140, s141, s142, s143, s144, s145, s146, s147, s148, s149, s150, s151], df⟩ W := by
 obtain ⟨Q1, hq1, hpan, hexit⟩ : ∃ Q1 : Exit -> Act -> World -> Prop, (∀ e a w, Q1 e a w -> Q0 e a w) /\ (∀ c (a : Act) (d : Option Tmp) (v : Value) w, Q1 (.panic c) (a.put d v) w -> Q1 (.panic c) a w) /\ (∀ a' w', Loop1X l g B4 B9 C a9 e9 W df s0 s1 s2 s3 s4 s5 s7 s8 s10 s11 s19 s20 s21 s22 s23 s24 s25 s26 s27 s28 s29 s30 s31 s32 s33 s34 s35 s36 s37 s38 s39 s40 s41 s42 s43 s44 s45 s46 s47 s48 s49 s50 s51 s52 s53 s91 s92 s93 s94 s95 s96 s97 s98 s99 s100 s101 s102 s103 s104 s105 s106 s107 s108 s109 s110 s111 s112 s113 s114 s115 s116 s117 s118 s119 s120 s121 s122 s123 s124 s125 s126 s127 s128 s129 s130 s131 s132 s133 s134 s135 s136 s137 s138 s139 s140 s141 s142 s143 s144 s145 s146 s147 s148 s149 s150 s151 a' w' -> Q1 (.exit 2) a' w') :=
  ⟨fun e a w => (∀ c, e ≠ .panic c) /\ Q0 e a w, fun _ _ _ h => h.2, fun c _ _ _ _ h => absurd rfl (h.1 c), fun a' w' h => ⟨(fun c h => by cases h), hexit a' w' h⟩⟩
 refine wp_mono (Q := Q1) ?_ hq1
 clear hq1
 have HEX := Lib.hid hexit
 clear hexit
 have hsh : ∀ (xa xb : Pt L) (wx : World), Calls Tryz.prog 75 #[.agg #[.int .i64 n, .int .i64 m], .agg (shp L (wav L xa.1.1 xa.1.2)), .agg (shp L (wav L xb.1.1 xb.1.2))] wx fun e w' => (∃ v, e = .returned (.tuple #[.int .i64 v, .bool (svB n m L xb.1 xa.1)])) /\ Below wx.heap.size wx w' := by
  intro xa xb wx
  have h := shift_any (n : Int) (m : Int) L.toNat (wav L xa.1.1 xa.1.2) (wav L xb.1.1 xb.1.2) wx (wav_length _ _ _) (wav_length _ _ _) (by omega) (by omega) (wav_bd _ _ _) (wav_bd _ _ _) (by omega) (by omega) (by omega) (by omega)
  have e1 : ∀ xs, shp ((L.toNat : Nat) : Int) xs = shp L xs := fun xs => by rw [show ((L.toNat : Nat) : Int) = L by omega]
  rw [e1, e1] at h
  exact h.mono fun e w' ⟨h1, h2⟩ => ⟨⟨_, h1⟩, h2⟩
 have hg : ∀ (b : Nat) (xb : Pt L), l[b]? = some xb -> ∃ row, g[b]? = some row /\ row.length = l.length /\ ∀ (a : Nat) (xa : Pt L), l[a]? = some xa -> row[a]? = some (svB n m L xb.1 xa.1) := fun b xb h => ⟨l.map fun xa => svB n m L xb.1 xa.1, by rw [hgd, svM, List.getElem?_map, h]; rfl, List.length_map _, fun a xa ha => by rw [List.getElem?_map, ha]; rfl⟩
 have hcl : ∀ (ws : World) (b9 o9 b : Nat) (xb : Pt L), l[b]? = some xb -> Cells ws (some ⟨b9, o9, none⟩) (shpL L (wvP L l)) -> ∀ j v, (shp L (wav L xb.1.1 xb.1.2))[j]? = some v -> ws.cell? ((⟨b9, o9 + b * 65, none⟩ : Addr).add j) = some v := by
  intro ws b9 o9 b xb hx hc j v hv
  rw [Addr.add_lit, Nat.add_assoc]
  exact hc.at (shpL_get (L := L) (fun z hz => by simp only [wvP, List.mem_map] at hz; obtain ⟨c, _, rfl⟩ := hz; exact wav_length _ _ _) (by rw [wvP, List.getElem?_map, hx]; rfl) hv)
 have hne : 0 < l.length -> shpL L (wvP L l) ≠ [] := by
  intro h h2
  have h3 := shpL_length L (wvP L l) (fun z hz => by simp only [wvP, List.mem_map] at hz; obtain ⟨c, _, rfl⟩ := hz; exact wav_length _ _ _)
  rw [h2] at h3
  simp only [wvP, List.length_map, List.length_nil] at h3
  omega
 have hglen : g.length = l.length := by rw [hgd]; exact svM_len n m L l
 obtain ⟨Z, hZ⟩ : ∃ Z, Z = shp 0 (smp 0 0 0) := ⟨_, rfl⟩
 have z : Tryz.zeroCells129 = Z := by rw [hZ]; exact zero101
 have hZs : Z.size = 65 := by rw [hZ, shp_size, smp_length]
 have hst : ∀ x : Pt L, ∀ wx : World, (storeCells ⟨wx.heap.size, 0, none⟩ (shp L (wav L x.1.1 x.1.2)).toList 0).run Tryz.prog (wx.alloc (.cells Z 129)) = .ok () (wx.alloc (.cells (shp L (wav L x.1.1 x.1.2)) 129)) := fun x => store_shape (shp L (wav L x.1.1 x.1.2)) Z (by rw [shp_size, wav_length]) hZs shp_mem
 have hVsz : ∀ x : Pt L, (shp L (wav L x.1.1 x.1.2)).size = 65 := fun x => by rw [shp_size, wav_length]
 obtain ⟨i0, hi, hz0, hz1, hz2⟩ := info_parts Tryz.infoInt
 have HSH := Lib.hid hsh; have HG := Lib.hid hg; have HCL := Lib.hid hcl; have HNE := Lib.hid hne; have HST := Lib.hid hst; have HVS := Lib.hid hVsz; have HGL := Lib.hid hglen; have HI := Lib.hid hi
 clear hsh hg hcl hne hst hVsz hglen hgd hZ hi
 dsimp only
 have hwl : buildLoop 0 = buildLoop 0 := rfl
 conv at hwl => rhs; whnf
 rw [hwl]
 clear hwl
 go_loopw [56] (fun iv ws => ∃ (b : Nat) (vs : List Value), b <= l.length /\ iv = .int .i64 b /\ Blk ws B4 24 (vs ++ List.replicate (l.length - b) (Value.slice none 0 0)).toArray /\ vs.length = b /\ RowsOf ws B4 3 vs (ixC (g.take b) l.length) /\ Below B4 W ws) (fun iv _ => l.length - (intOf iv).toNat)
 case atStart => exact ⟨0, [], Nat.zero_le _, rfl, by simpa using H0.out, rfl, by rw [List.take_zero]; exact RowsOf.nil _ _ _, Below.refl _ _⟩
 case round =>
  obtain ⟨b, vs, hb, rfl, hblk, hvl, hrows, hbe⟩ := hrel
  obtain ⟨wo, hwo⟩ : ∃ wo, wo = wr := ⟨_, rfl⟩
  subst hwo
  obtain ⟨z9, hcells, z6, z7⟩ := HK.out wo hbe
  have hsr := hbe.size
  by_cases hlt : b < l.length
  · obtain ⟨xb, hxb⟩ := get_of_lt hlt
    obtain ⟨row, hrow, hrl, hrg⟩ := HG.out b xb hxb
    obtain ⟨bb, ob, rfl⟩ := hcells.addr (HNE.out (by omega))
    have hce := HCL.out wo bb ob b xb hxb hcells
    have hst := HST.out xb
    have hsh := fun xa wx => HSH.out xa xb wx
    have hVs := HVS.out xb
    have hrep : List.replicate (l.length - b) (Value.slice none 0 0) = Value.slice none 0 0 :: List.replicate (l.length - b - 1) (Value.slice none 0 0) := by
     rw [show l.length - b = (l.length - b - 1) + 1 by omega, List.replicate_succ]; simp
    rw [hrep] at hblk
    generalize shp L (wav L xb.1.1 xb.1.2) = V1 at *
    have hne1 : ¬ V1 = #[] := by intro h; rw [h] at hVs; simp at hVs
    have hinf : (Tryz.prog.info? 129).map (·.size) = some V1.size := by rw [hVs]; kernel_rfl
    have i1 : (b : Int) < (l.length : Int) := by omega
    have i2 : (0 : Int) <= (b : Int) := by omega
    have hal := hbe.alloc (by omega) (.cells V1 129)
    obtain ⟨y9, -, -, -⟩ := HK.out _ hal
    have hV1 := Blk.new wo 129 V1
    have hblk1 := hblk.alloc (.cells V1 129)
    have hrows1 := hrows.below ((Below.refl _ wo).alloc (Nat.le_refl _) (.cells V1 129)) (Nat.le_refl _)
    have hlts := hrows.lt
    have HCE := Lib.hid hce; have HI1 := Lib.hid hinf; have HS1 := Lib.hid hsh; have HV1 := Lib.hid hV1; have HBK1 := Lib.hid hblk1; have HRW1 := Lib.hid hrows1; have HLT := Lib.hid hlts; have HAL := Lib.hid hal; have HROW := Lib.hid hrow; have HRL := Lib.hid hrl; have HRG := Lib.hid hrg; have HVL := Lib.hid hvl
    have hsz1 : (wo.alloc (.cells V1 129)).heap.size = wo.heap.size + 1 := by simp
    have HSZ1 := Lib.hid hsz1
    clear hce hinf hsh hV1 hblk1 hrows1 hlts hal hrow hrl hrg hvl hblk hrows hbe hcells hxb hrep hsz1 z6 z7
    go_wp2_with (refine wpList_load_arr (by rfl) 129 _ (by rfl) ⟨bb, ob + b * 65, none⟩ (by rfl) V1 _ HCE.out Tryz.underlying129 (by rfl) HI1.out ?_)
    generalize wo.alloc (.cells V1 129) = W1 at *
    clear y9 z9 hst
    go_loopw [63] (fun av ws => ∃ (a : Nat) (cur : Value), a <= l.length /\ av = .int .i64 a /\ Blk ws B4 24 (vs ++ cur :: List.replicate (l.length - b - 1) (Value.slice none 0 0)).toArray /\ RowsOf ws B4 3 vs (ixC (g.take b) l.length) /\ ws.ownsRow W1.heap.size 3 1 cur (ixT row a).length ((nvs (ixT row a)).map (Value.int .i64)) /\ Blk ws wo.heap.size 129 V1 /\ Below B4 W ws /\ W1.heap.size <= ws.heap.size) (fun av _ => l.length - (intOf av).toNat)
    case atStart => exact ⟨0, .slice none 0 0, Nat.zero_le _, rfl, HBK1.out, HRW1.out, World.ownsRow_nil _ _ _ _, HV1.out, HAL.out, Nat.le_refl _⟩
    case round =>
     obtain ⟨a, cur, ha, rfl, hblk2, hrows2, hcur, hV2, hbe2, hsz2⟩ := hrel
     obtain ⟨-, hcells2, -, -⟩ := HK.out wr hbe2
     have hsW1 := HSZ1.out
     by_cases hlt2 : a < l.length
     · obtain ⟨xa, hxa⟩ := get_of_lt hlt2
       have hstep := ixT_step (HRG.out a xa hxa)
       have hce2 := HCL.out wr bb ob a xa hxa hcells2
       have hst2 := HST.out xa
       have hsh2 := fun wx => HS1.out xa wx
       have hVs2 := HVS.out xa
       have hil := ixT_len row a
       generalize svB n m L xb.1 xa.1 = p at *
       generalize shp L (wav L xa.1.1 xa.1.2) = V2 at *
       have hne2 : ¬ V2 = #[] := by intro h; rw [h] at hVs2; simp at hVs2
       have hinf2 : (Tryz.prog.info? 129).map (·.size) = some V2.size := by rw [hVs2]; kernel_rfl
       have j1 : (a : Int) < (l.length : Int) := by omega
       have j2 : (0 : Int) <= (a : Int) := by omega
       have hal2 := hbe2.alloc (by omega) (.cells V2 129)
       obtain ⟨-, -, y6, y7⟩ := HK.out _ hal2
       have hVa := hV2.alloc (.cells V2 129)
       have hVb := Blk.new wr 129 V2
       have hblk3 := hblk2.alloc (.cells V2 129)
       have hrows3 := hrows2.below ((Below.refl _ wr).alloc (Nat.le_refl _) (.cells V2 129)) (Nat.le_refl _)
       have hcur3 := hcur.alloc (.cells V2 129)
       have hsz3 : (wr.alloc (.cells V2 129)).heap.size = wr.heap.size + 1 := by simp
       have HCE2 := Lib.hid hce2; have HI2 := Lib.hid hinf2; have HS2 := Lib.hid hsh2; have HBK3 := Lib.hid hblk3; have HRW3 := Lib.hid hrows3; have HCUR3 := Lib.hid hcur3; have HAL2 := Lib.hid hal2; have HVA := Lib.hid hVa; have HVB := Lib.hid hVb; have HSZ3 := Lib.hid hsz3; have HSTP := Lib.hid hstep
       clear hce2 hinf2 hsh2 hblk3 hrows3 hcur3 hal2 hVa hVb hsz3 hblk2 hrows2 hcur hV2 hbe2 hcells2 hxa hstep
       go_wp2_with (refine wpList_load_arr (by rfl) 129 _ (by rfl) ⟨bb, ob + a * 65, none⟩ (by rfl) V2 _ HCE2.out Tryz.underlying129 (by rfl) HI2.out ?_)
       generalize wr.alloc (.cells V2 129) = W2 at *
       clear hst2
       refine wp_region_held_drew (S := fun w' => w'.cell? ⟨C, 6, none⟩ = some (.int .i64 n) /\ w'.cell? ⟨C, 7, none⟩ = some (.int .i64 m) /\ w'.heap[wr.heap.size]? = some (.cells V2 129 (0, 0)) /\ w'.heap[wo.heap.size]? = some (.cells V1 129 (0, 0))) (by kernel_rfl) ⟨y6, y7, HVB.out, HVA.out⟩ (fun h9 => ?_)
       refine tkV 0 (.pointer (some ⟨C, 0, none⟩)) h9 ?_ (hQ := fun _ _ _ h => hpan _ _ _ _ _ h)
       refine tkV 1 (.pointer (some ⟨C, 0, none⟩)) h9 ?_ (hQ := fun _ _ _ h => hpan _ _ _ _ _ h)
       refine tkV 2 (.pointer (some ⟨C, 6, none⟩)) h9 ?_ (hQ := fun _ _ _ h => hpan _ _ _ _ _ h)
       refine tkV 3 (.agg #[.int .i64 n, .int .i64 m]) h9 ?_ (hQ := fun _ _ _ h => hpan _ _ _ _ _ h) (hy := by intro w9 h; exact exec_load_arr 157 _ rfl ⟨C, 6, none⟩ rfl #[.int .i64 n, .int .i64 m] _ (cells_two h.1 h.2.1) Tryz.underlying157 (by rfl) (by kernel_rfl))
       refine tkV 4 (.agg V2) h9 ?_ (hQ := fun _ _ _ h => hpan _ _ _ _ _ h) (hy := by intro w9 h; exact exec_load_row 129 _ rfl wr.heap.size rfl 129 V2 (0, 0) _ h.2.2.1 Tryz.underlying129 (by rfl) HI2.out)
       refine tkV 5 (.agg V1) h9 ?_ (hQ := fun _ _ _ h => hpan _ _ _ _ _ h) (hy := by intro w9 h; exact exec_load_row 129 _ rfl wo.heap.size rfl 129 V1 (0, 0) _ h.2.2.2 Tryz.underlying129 (by rfl) HI1.out)
       refine tkC 6 (fun K hK => ?_)
       go_simp
       refine (HS2.out _).mono ?_
       rintro e w3 ⟨⟨vv, rfl⟩, hb3⟩
       have hb23 : Below W2.heap.size W2 w3 := ((Below.refl W2.heap.size W2).drew).trans hb3
       have hbe3 := HAL2.out.trans (hb23.mono (by have := HAL2.out.size; omega))
       obtain ⟨-, -, x6, x7⟩ := HK.out w3 hbe3
       have hVa3 := HVA.out.below hb23 HVA.out.lt
       have hVb3 := HVB.out.below hb23 HVB.out.lt
       have hblk4 := HBK3.out.below hb23 HBK3.out.lt
       have hrows4 := HRW3.out.below hb23 (Nat.le_refl _)
       have hcur4 := own_belowK HCUR3.out hb23 (Nat.le_refl _)
       have hsz4 : W1.heap.size <= w3.heap.size := by have := hb23.size; have := HSZ3.out; omega
       refine hK.out _ _ ⟨x6, x7, hVb3, hVa3⟩ (fun hA => ?_)
       have HBE3 := Lib.hid hbe3; have HVA3 := Lib.hid hVa3; have HBK4 := Lib.hid hblk4; have HRW4 := Lib.hid hrows4; have HC4 := Lib.hid hcur4
       clear hK K hb23 hbe3 hVa3 hVb3 hblk4 hrows4 hcur4 hb3 x6 x7
       try simp only [Act.put, List.setIfInBounds_toArray, List.set_cons_zero, List.set_cons_succ]
       refine tkV 7 (.tuple #[.int .i64 vv, .bool p]) hA ?_ (hQ := fun _ _ _ h => hpan _ _ _ _ _ h)
       refine tkV 8 (.int .i64 vv) hA ?_ (hQ := fun _ _ _ h => hpan _ _ _ _ _ h)
       refine tkV 9 (.bool p) hA ?_ (hQ := fun _ _ _ h => hpan _ _ _ _ _ h)
       refine tkV 10 (.int .i64 vv) hA ?_ (hQ := fun _ _ _ h => hpan _ _ _ _ _ h)
       refine tkV 11 (.bool p) hA ?_ (hQ := fun _ _ _ h => hpan _ _ _ _ _ h)
       refine wpAnyH_done (by kernel_rfl) ?_ _
       clear hA h9 y6 y7 HVA HVB HBK3 HRW3 HCUR3 HAL2
       cases p with
       | false =>
         have hstep2 : ixT row (a + 1) = ixT row a := by rw [HSTP.out]; simp
         have HST2 := Lib.hid hstep2
         clear hstep2
         go_wp2_with fail
         go_roundw
         case rel => exact ⟨a + 1, cur, by omega, by go_num, HBK4.out, HRW4.out, by rw [HST2.out]; exact HC4.out, HVA3.out, HBE3.out, hsz4⟩
         case measure => simp [intOf]; omega
       | true =>
         have hstep2 : ixT row (a + 1) = ixT row a ++ [a] := by rw [HSTP.out]; simp
         have HST2 := Lib.hid hstep2
         clear hstep2
         have HGT := Lib.hid (get_midL vs cur (List.replicate (l.length - b - 1) (Value.slice none 0 0)) HVL.out)
         have c0 : w3.cell? ⟨B4, b, none⟩ = some cur := by rw [Blk.cell HBK4.out, List.getElem?_toArray]; exact HGT.out
         have hbsz := HBE3.out.size
         go_wp2_with (at_builtin; refine wpList_append_own _ rfl _ _ 24 rfl W1.heap.size 3 i0 (.int .i64 0) 1 8 Tryz.underlying24 HI.out hz0 hz1 hz2 rfl (by decide) _ _ _ rfl (HC4.out.alloc _) ⟨w3.heap.size, 0, none⟩ 1 1 [.int .i64 a] rfl rfl (World.news_of_block (cs := #[.int .i64 a]) (t := 3) (fr := (0, 0)) (heap_alloc_new w3 _)) (by simp [Value.oneCell']) (by unfold maxLen; omega) (by omega) (by simp; omega) ?_; intro v1 wz hown1 hgrow _; obtain ⟨gg, cc, rfl⟩ := own_succ hown1; have hbz := (HBK4.out.alloc (.cells #[.int .i64 a] 3)).kept hgrow (own_ne_blk (HC4.out.alloc (.cells #[.int .i64 a] 3)) (HBK4.out.alloc (.cells #[.int .i64 a] 3)) (by decide)); have x0 : wz.cell? ⟨B4, b, none⟩ = some cur := (by rw [Blk.cell hbz, List.getElem?_toArray]; exact HGT.out); have x1 := hbz.free b; have HBZ := Lib.hid hbz; have HOWN := Lib.hid hown1; have HGR := Lib.hid hgrow; clear hbz hown1 hgrow c0)
         have hszz := HGR.out.size
         have hszy : (w3.alloc (.cells #[.int .i64 a] 3)).heap.size = w3.heap.size + 1 := by simp
         have hset := HBZ.out.setAt b (.slice (some ⟨gg, 0, none⟩) ((ixT row a).length + 1) cc)
         rw [List.setIfInBounds_toArray, set_midL vs cur (.slice (some ⟨gg, 0, none⟩) ((ixT row a).length + 1) cc) _ HVL.out] at hset
         have hge : ∀ j, cur.ownBlock = some j -> W1.heap.size <= j := fun j e => (HC4.out.lt j e).1
         have hrz := (((HRW4.out.below ((Below.refl _ w3).alloc (Nat.le_refl _) (.cells #[.int .i64 a] 3)) (Nat.le_refl _)).keptN HGR.out (fun v hv => by
          cases hvo : v.ownBlock with
          | none => exact .inl rfl
          | some j =>
            refine .inr fun e => ?_
            have h1 := HLT.out v hv j hvo
            have h2 := hge j e.symm
            omega)).setB HBZ.out (by decide) b (.slice (some ⟨gg, 0, none⟩) ((ixT row a).length + 1) cc))
         have hoz := own_set3 (p := ⟨B4, b, none⟩) (u := (.slice (some ⟨gg, 0, none⟩) ((ixT row a).length + 1) cc)) HOWN.out (fun h => own_ne_blk HOWN.out HBZ.out (by decide) h.symm)
         have hvz := ((HVA3.out.alloc (.cells #[.int .i64 a] 3)).kept HGR.out (fun e => by have := hge _ e.symm; omega)).other (B' := B4) (by omega) b (.slice (some ⟨gg, 0, none⟩) ((ixT row a).length + 1) cc)
         have hbez := ((HBE3.out.alloc (by omega) (.cells #[.int .i64 a] 3)).grown HGR.out (by simp; omega) (fun j e => by have := hge j e; omega)).setCell (p := ⟨B4, b, none⟩) (Nat.le_refl _) (.slice (some ⟨gg, 0, none⟩) ((ixT row a).length + 1) cc)
         have HSET := Lib.hid hset; have HRZ := Lib.hid hrz; have HOZ := Lib.hid hoz; have HVZ := Lib.hid hvz; have HBEZ := Lib.hid hbez
         clear hset hrz hoz hvz hbez hge
         go_wp2_with fail
         go_roundw
         case rel => exact ⟨a + 1, (.slice (some ⟨gg, 0, none⟩) ((ixT row a).length + 1) cc), by omega, by go_num, HSET.out, HRZ.out, by rw [HST2.out, nvs_snoc, List.length_append]; exact HOZ.out, HVZ.out, HBEZ.out, by simp; omega⟩
         case measure => simp [intOf]; omega
     · obtain rfl : a = l.length := by omega
       have hrz := hrows2.snoc (v := cur) (xs := (nvs (ixT row l.length)).map (Value.int .i64)) (by rw [nvs_len]; exact own_baseL hcur (by omega))
       have hix : ixC (g.take (b + 1)) l.length = ixC (g.take b) l.length ++ [(nvs (ixT row l.length)).map (Value.int .i64)] := by
        rw [List.take_add_one, HROW.out]; simp [ixC]
       rw [<- hix] at hrz
       have hap : vs ++ cur :: List.replicate (l.length - b - 1) (Value.slice none 0 0) = (vs ++ [cur]) ++ List.replicate (l.length - (b + 1)) (Value.slice none 0 0) := by
        rw [List.append_assoc, List.singleton_append, show l.length - b - 1 = l.length - (b + 1) by omega]
       rw [hap] at hblk2
       have hvl2 : (vs ++ [cur]).length = b + 1 := by rw [List.length_append, HVL.out]; rfl
       have HB2 := Lib.hid hblk2; have HR2 := Lib.hid hrz; have HV2 := Lib.hid hvl2; have HE2 := Lib.hid hbe2
       clear hblk2 hrows2 hcur hV2 hbe2 hcells2 hrz hix hap hvl2
       go_wp2_with fail
       go_roundw
       case rel => exact ⟨b + 1, vs ++ [cur], by omega, by go_num, HB2.out, HV2.out, HR2.out, HE2.out⟩
       case measure => simp [intOf]; omega
  · obtain rfl : b = l.length := by omega
    rw [Nat.sub_self, List.replicate_zero, List.append_nil] at hblk
    rw [<- HGL.out, List.take_length, HGL.out] at hrows
    have HB2 := Lib.hid hblk; have HR2 := Lib.hid hrows; have HV2 := Lib.hid hvl; have HE2 := Lib.hid hbe
    clear hblk hrows hvl hbe hcells z9 z6 z7
    go_wp2_with fail
    refine HEX.out _ _ ⟨⟨vs, HB2.out, HV2.out, HR2.out⟩, HE2.out, ?_⟩
    repeat apply Exists.intro
    rfl
end Go.Proofs.YtdpjdifoonfcdaaGreatDoor

namespace Go.Proofs.YtdpjdifoonfcdaaGreatDoor
open Go.RowKit Go.Maps
theorem Tryz.keyInt : Keyed Tryz.prog 3 := int_keyed Tryz.underlying3
theorem Tryz.zeroBool (w : World) : (zeroValue 4).run Tryz.prog w = .ok (.bool false) w := by kernel_rfl
theorem key_wf {k : Nat} (h : k <= 100000) : (Lit.int .i64 (k : Int)).wf = true := WalkArith.wf_i64 (by omega)
set_option maxRecDepth 1000000 in
def Loop3X (N B6 : Nat) (W : World) (df : List Deferred) (s0 s1 s2 s3 s4 s5 s6 s7 s8 s9 s10 s11 s12 s13 s14 s15 s16 s17 s18 s21 s22 s23 s24 s25 s26 s27 s28 s29 s30 s31 s32 s33 s34 s35 s36 s37 s38 s39 s40 s41 s42 s43 s44 s45 s46 s47 s48 s49 s50 s51 s52 s53 s54 s55 s56 s57 s58 s59 s60 s61 s62 s63 s64 s65 s66 s67 s68 s69 s70 s71 s72 s73 s74 s75 s76 s77 s78 s79 s80 s81 s82 s83 s84 s85 s86 s87 s88 s89 s90 s91 s92 s100 s101 s102 s103 s104 s105 s106 s107 s108 s109 s110 s111 s112 s113 s114 s115 s116 s117 s118 s119 s120 s121 s122 s123 s124 s125 s126 s127 s128 s129 s130 s131 s132 s133 s134 s135 s136 s137 s138 s139 s140 s141 s142 s143 s144 s145 s146 s147 s148 s149 s150 s151 : Value) (a : Act) (w' : World) : Prop :=
 (∃ D : DataW Unit, w'.ownsMap Tryz.prog 3 (plainElem Tryz.prog 4) B6 N D /\ MIs D (List.replicate N true)) /\ Below B6 W w' /\ ∃ v20 v94 v95 v96 v97 v98 v99 : Value, a = ⟨#[s0, s1, s2, s3, s4, s5, s6, s7, s8, s9, s10, s11, s12, s13, s14, s15, s16, s17, s18, .map (some B6), v20, s21, s22, s23, s24, s25, s26, s27, s28, s29, s30, s31, s32, s33, s34, s35, s36, s37, s38, s39, s40, s41, s42, s43, s44, s45, s46, s47, s48, s49, s50, s51, s52, s53, s54, s55, s56, s57, s58, s59, s60, s61, s62, s63, s64, s65, s66, s67, s68, s69, s70, s71, s72, s73, s74, s75, s76, s77, s78, s79, s80, s81, s82, s83, s84, s85, s86, s87, s88, s89, s90, s91, s92, .int .i64 N, v94, v95, v96, v97, v98, v99, s100, s101, s102, s103, s104, s105, s106, s107, s108, s109, s110, s111, s112, s113, s114, s115, s116, s117, s118, s119, s120, s121, s122, s123, s124, s125, s126, s127, s128, s129, s130, s131, s132, s133, s134, s135, s136, s137, s138, s139, s140, s141, s142, s143, s144, s145, s146, s147, s148, s149, s150, s151], df⟩
def firstT (N k : Nat) : List Bool := List.replicate k true ++ List.replicate (N - k) false
theorem firstT_get {N k : Nat} (h : k < N) : (firstT N k)[k]? = some false := by
 unfold firstT
 rw [List.getElem?_append_right (by simp), List.length_replicate, Nat.sub_self, List.getElem?_replicate, if_pos (by omega)]
theorem firstT_set {N k : Nat} (h : k < N) : (firstT N k).set k true = firstT N (k + 1) := by
 unfold firstT
 rw [List.set_append_right _ _ (by simp), List.length_replicate, Nat.sub_self, show N - k = (N - (k + 1)) + 1 by omega, List.replicate_succ, List.set_cons_zero, List.replicate_succ' (n := k), List.append_assoc, List.singleton_append]
set_option maxRecDepth 1000000 in
set_option maxHeartbeats 4000000 in
theorem build_loop3 (N B6 : Nat) (W : World) (Q0 : Exit -> Act -> World -> Prop) (df : List Deferred) (s0 s1 s2 s3 s4 s5 s6 s7 s8 s9 s10 s11 s12 s13 s14 s15 s16 s17 s18 s20 s21 s22 s23 s24 s25 s26 s27 s28 s29 s30 s31 s32 s33 s34 s35 s36 s37 s38 s39 s40 s41 s42 s43 s44 s45 s46 s47 s48 s49 s50 s51 s52 s53 s54 s55 s56 s57 s58 s59 s60 s61 s62 s63 s64 s65 s66 s67 s68 s69 s70 s71 s72 s73 s74 s75 s76 s77 s78 s79 s80 s81 s82 s83 s84 s85 s86 s87 s88 s89 s90 s91 s92 s95 s96 s97 s98 s99 s100 s101 s102 s103 s104 s105 s106 s107 s108 s109 s110 s111 s112 s113 s114 s115 s116 s117 s118 s119 s120 s121 s122 s123 s124 s125 s126 s127 s128 s129 s130 s131 s132 s133 s134 s135 s136 s137 s138 s139 s140 s141 s142 s143 s144 s145 s146 s147 s148 s149 s150 s151 : Value)
 (h400 : N <= 400) (H0 : Hid (W.ownsMap Tryz.prog 3 (plainElem (H := Unit) Tryz.prog 4) B6 0 (.map [])))
 (hexit : ∀ a' w', Loop3X N B6 W df s0 s1 s2 s3 s4 s5 s6 s7 s8 s9 s10 s11 s12 s13 s14 s15 s16 s17 s18 s21 s22 s23 s24 s25 s26 s27 s28 s29 s30 s31 s32 s33 s34 s35 s36 s37 s38 s39 s40 s41 s42 s43 s44 s45 s46 s47 s48 s49 s50 s51 s52 s53 s54 s55 s56 s57 s58 s59 s60 s61 s62 s63 s64 s65 s66 s67 s68 s69 s70 s71 s72 s73 s74 s75 s76 s77 s78 s79 s80 s81 s82 s83 s84 s85 s86 s87 s88 s89 s90 s91 s92 s100 s101 s102 s103 s104 s105 s106 s107 s108 s109 s110 s111 s112 s113 s114 s115 s116 s117 s118 s119 s120 s121 s122 s123 s124 s125 s126 s127 s128 s129 s130 s131 s132 s133 s134 s135 s136 s137 s138 s139 s140 s141 s142 s143 s144 s145 s146 s147 s148 s149 s150 s151 a' w' -> Q0 (.exit 6) a' w') :
 Code.wp Tryz.prog (Code.loop (buildLoop 2)) Q0 ⟨#[s0, s1, s2, s3, s4, s5, s6, s7, s8, s9, s10, s11, s12, s13, s14, s15, s16, s17, s18, .map (some B6), s20, s21, s22, s23, s24, s25, s26, s27, s28, s29, s30, s31, s32, s33, s34, s35, s36, s37, s38, s39, s40, s41, s42, s43, s44, s45, s46, s47, s48, s49, s50, s51, s52, s53, s54, s55, s56, s57, s58, s59, s60, s61, s62, s63, s64, s65, s66, s67, s68, s69, s70, s71, s72, s73, s74, s75, s76, s77, s78, s79, s80, s81, s82, s83, s84, s85, s86, s87, s88, s89, s90, s91, s92, .int .i64 N, .int .i64 0, s95, s96, s97, s98, s99, s100, s101, s102, s103, s104, s105, s106, s107, s108, s109, s110, s111, s112, s113, s114, s115, s116, s117, s118, s119, s120, s121, s122, s123, s124, s125, s126, s127, s128, s129, s130, s131, s132, s133, s134, s135, s136, s137, s138, s139, s140, s141, s142, s143, s144, s145, s146, s147, s148, s149, s150, s151], df⟩ W := by
 have HEX := Lib.hid hexit
 clear hexit
 dsimp only
 have hwl : buildLoop 2 = buildLoop 2 := rfl
 conv at hwl => rhs; whnf
 rw [hwl]
 clear hwl
 go_loopw [94] (fun kv ws => ∃ (k : Nat) (D : DataW Unit), k <= N /\ kv = .int .i64 k /\ ws.ownsMap Tryz.prog 3 (plainElem Tryz.prog 4) B6 k D /\ MIs D (firstT N k) /\ Below B6 W ws) (fun kv _ => N - (intOf kv).toNat)
 case atStart => exact ⟨0, .map [], Nat.zero_le _, rfl, H0.out, MIs.nil N, Below.refl _ _⟩
 case round =>
  obtain ⟨k, D, hk, rfl, hown, hmi, hbe⟩ := hrel
  have hsz := hbe.size
  have hlt0 := H0.out.lt
  by_cases hlt : k < N
  · have i1 : (k : Int) < (N : Int) := by omega
    have hkey := keyOf_int_mk Tryz.underlying3 (key_wf (k := k) (by omega))
    have hput := hmi.put (firstT_get hlt)
    rw [firstT_set hlt] at hput
    have HO := Lib.hid hown; have HP := Lib.hid hput; have HBE := Lib.hid hbe; have HKEY := Lib.hid hkey
    clear hown hput hbe hkey hmi
    go_wp2_with (at_mapUpdate; refine wpList_mapUpdate_own _ rfl _ _ _ 161 rfl 3 4 Tryz.keyInt Tryz.underlying161 _ B6 k D rfl HO.out (by unfold maxLen; omega) _ _ _ rfl rfl HKEY.out _ [] (plainElem_bool Tryz.underlying4 true) ?_; intro w1 hown1 hgrow1; have HO1 := Lib.hid hown1; have HG1 := Lib.hid hgrow1; clear hown1 hgrow1)
    have hb1 := HBE.out.grown HG1.out (by omega) (fun j e => by cases e; exact Nat.le_refl _)
    go_wp2_with fail
    go_roundw
    case rel => exact ⟨k + 1, _, by omega, by go_num, HO1.out, HP.out, hb1⟩
    case measure => simp [intOf]; omega
  · obtain rfl : k = N := by omega
    have hft : firstT k k = List.replicate k true := by simp [firstT]
    rw [hft] at hmi
    have HO := Lib.hid hown; have HP := Lib.hid hmi; have HBE := Lib.hid hbe
    clear hown hmi hbe hft
    go_wp2_with fail
    refine HEX.out _ _ ⟨⟨D, HO.out, HP.out⟩, HBE.out, ?_⟩
    repeat apply Exists.intro
    rfl
end Go.Proofs.YtdpjdifoonfcdaaGreatDoor
