/- Parts of a proof, in build order: Mn, Mf, Mg, Mh, E0, E1, E2, E3. -/
import Derived.Test.YtmafjfhnejeogaaGreatDoorKi6
import Derived.Test.YtmafjfhnejeogaaGreatDoorShelf
import Derived.Deep.RegionWith

/- append to a row of one's own no cell of which is a number: numbers that lie elsewhere stay. -/
namespace Go.Proofs.YtmafjfhnejeogaaGreatDoor
open Go.RowKit

/-- no cell of a slice's own block is a whole number -/
def NIB (w : World) (v : Value) : Prop := ∀ g, v.ownBlock = some g → ∀ cs T fr, w.heap[g]? = some (.cells cs T fr) → ∀ u ∈ cs.toList, NoNum u
theorem NIB.none (w : World) : NIB w (.slice none 0 0) := fun g h => by simp [Value.ownBlock] at h
theorem NIB.below {w w' : World} {B : Nat} {v : Value} (h : NIB w v) (hb : Below B w w') (hv : ∀ g, v.ownBlock = some g → g < B) : NIB w' v := fun g hg cs T fr hc => by
  rw [hb.block g (hv g hg)] at hc
  exact h g hg cs T fr hc
theorem cells_grown_nib {w w' : World} {ao : Option Addr} {l : List Nat} {ov : Value} (h : Cells w ao (dgs l)) (hn : NIB w ov) (hg : w.grownBy w' ov.ownBlock) : Cells w' ao (dgs l) := by
  refine h.grown hg ?_
  rintro b off rfl hne hb
  obtain ⟨c, cs, hcs⟩ := List.exists_cons_of_ne_nil hne
  have h1 := h.at (j := 0) (u := c) (by rw [hcs]; rfl)
  have hlt := World.block_lt_of_cell? w _ h1
  have hint : ∃ d : Nat, c = .int .u64 d := by
    have : c ∈ dgs l := by rw [hcs]; simp
    obtain ⟨d, _, rfl⟩ := List.mem_map.1 this
    exact ⟨d, rfl⟩
  obtain ⟨d, rfl⟩ := hint
  unfold World.cell? at h1
  cases hh : w.heap[b]? with
  | none => simp [hh] at h1
  | some o =>
    cases o with
    | cells arr T fr =>
      simp only [hh] at h1
      have h2 : arr[off + 0]? = some (.int .u64 d) := by simpa using h1
      have := hn b hb.symm arr T fr hh (.int .u64 d) (by
        have := Array.mem_of_getElem? h2
        simpa using this)
      exact this
    | _ => simp [hh] at h1
theorem NatV.grown_nib {w w' : World} {v : Value} {n : Nat} {ov : Value} (h : NatV w v n) (hn : NIB w ov) (hg : w.grownBy w' ov.ownBlock) : NatV w' v n := by
  obtain ⟨a, c, h1, h2, h3⟩ := h
  exact ⟨a, c, h1, cells_grown_nib h2 hn hg, h3⟩
theorem zero_mem {z : Array Value} {n : Nat} {u : Value} (h : u ∈ (Builtin.zeroCells z n).toList) : u ∈ z.toList := by
  unfold Builtin.zeroCells at h
  simp at h
  obtain ⟨k, hk, rfl⟩ := h
  have hz : 0 < z.size := by
    rcases Nat.eq_zero_or_pos z.size with h0 | h0
    · rw [h0] at hk; simp at hk
    · exact h0
  have hm : k % z.size < z.size := Nat.mod_lt _ hz
  rw [getElem!_pos z (k % z.size) hm]
  simp

section
variable {P : Program} (w : World)
theorem run_append_nib (base : Nat) (t ty e : TypeId) (i : TypeInfo) (z : Value) (size bytes : Nat) (ht : P.underlying t = some (.slice e)) (hi : P.info? e = some i) (hz : i.zero = some z)
    (hsize : i.size = size) (hby : i.bytes = bytes) (hzs : z.cells.size = size) (hsz : 0 < size)
    (v : Value) (n : Nat) (xs : List Value) (hown : w.ownsRow base e size v n xs)
    (a : Addr) (m c : Nat) (news : List Value) (hl : news.length = m * size) (hnews : ∀ j u, news[j]? = some u → w.cell? (a.add j) = some u) (h1 : ∀ u ∈ news, u.oneCell' = true)
    (h63 : n + m ≤ maxLen) (hbytes : (n + m) * bytes ≤ 140737488355328) (hbase : base ≤ w.heap.size)
    (hn : NIB w v) (hzn : ∀ u ∈ z.cells.toList, NoNum u) (hnn : ∀ u ∈ news, NoNum u) :
    ∃ v' w', (Builtin.append_ #[t, t] ty #[v, .slice (some a) m c]).run P w = .ok v' w' ∧ w'.ownsRow base e size v' (n + m) (xs ++ news) ∧ w.grownBy w' v.ownBlock ∧ NIB w' v' := by
  obtain ⟨v', w', hr, h2, h3, _⟩ := run_append_own (P := P) w base t ty e i z size bytes ht hi hz hsize hby hzs hsz v n xs hown a m c news hl hnews h1 h63 hbytes hbase
  refine ⟨v', w', hr, h2, h3, ?_⟩
  subst hsize
  subst hby
  have hsmall : n + m ≤ 9223372036854775807 := by simp only [maxLen] at h63; omega
  have hxs : ∀ u ∈ xs, NoNum u := by
    rcases hown.2 with ⟨rfl, rfl⟩ | ⟨g, cap, cur, rfl, hbg, hg, hnc, hcm, hcs, htake⟩
    · intro u hu
      have hx : xs = [] := List.eq_nil_of_length_eq_zero (by simpa using hown.1)
      rw [hx] at hu; cases hu
    · intro u hu
      rw [← htake] at hu
      exact hn g rfl cur e (0, 0) hg u (List.mem_of_mem_take hu)
  have hnew : ∀ (ys : List Value) (k : Nat), (∀ u ∈ ys, NoNum u) → ∀ (W : World) (p q : Nat), NIB (W.alloc (.cells (ys.toArray ++ Builtin.zeroCells z.cells k) e)) (.slice (some ⟨W.heap.size, 0, none⟩) p q) := by
    intro ys k hys W p q g hg cs T fr hc u hu
    simp only [Value.ownBlock, Option.some.injEq] at hg
    subst hg
    rw [heap_alloc_new] at hc
    simp only [Option.some.injEq, Obj.cells.injEq] at hc
    obtain ⟨rfl, _⟩ := hc
    simp only [Array.toList_append, List.mem_append] at hu
    rcases hu with hu | hu
    · exact hys u hu
    · exact hzn u (zero_mem hu)
  rcases hown.2 with ⟨rfl, rfl⟩ | ⟨g, cap, cur, rfl, hbg, hg, hnc, hcm, hcs, htake⟩
  · by_cases hm : m = 0
    · subst hm
      have hr2 : (Builtin.append_ #[t, t] ty #[.slice none 0 0, .slice (some a) 0 c]).run P w = .ok (.slice none 0 0) w := by
        have hnl : news = [] := List.eq_nil_of_length_eq_zero (by simpa using hl)
        subst hnl
        simp [Builtin.append_, run_underlying ht, sizeOf, typeInfo, hi, Builtin.lenOf, Builtin.firstCells, loadCells, loadCellsFrom]
      rw [hr2] at hr
      cases hr
      exact NIB.none w
    · have hr2 := run_append_nil (P := P) w t ty e i z ht hi hz a m c news hl hnews (by omega) (by omega) (by have hb := hbytes; simp only [Nat.zero_add] at hb; omega)
      rw [hr2] at hr
      cases hr
      exact hnew news _ hnn w.drew _ _
  · by_cases hroom : n + m ≤ cap
    · have hfit : n * i.size + news.length ≤ cur.size := by rw [hl, hcs, ← Nat.add_mul]; exact Nat.mul_le_mul_right _ hroom
      have hr2 := run_append_room (P := P) w t ty e i ht hi g n cap cur hg a m c news hl hnews h1 hroom hfit
      rw [hr2] at hr
      cases hr
      intro g' hg' cs T fr hc u hu
      simp only [Value.ownBlock, Option.some.injEq] at hg'
      subst hg'
      rw [setRow_heap w g cur _ e _ hg] at hc
      simp only [Option.some.injEq, Obj.cells.injEq] at hc
      obtain ⟨rfl, _⟩ := hc
      simp only [List.mem_append] at hu
      have hcur := hn g rfl cur e (0, 0) hg
      rcases hu with (hu | hu) | hu
      · exact hcur u (List.mem_of_mem_take hu)
      · exact hnn u hu
      · exact hcur u (List.mem_of_mem_drop hu)
    · have holds : ∀ j u, xs[j]? = some u → w.cell? ((⟨g, 0, none⟩ : Addr).add j) = some u := hown.cells (g := g) rfl
      have hr2 := run_append_grow (P := P) w t ty e i z ht hi hz ⟨g, 0, none⟩ n cap xs hown.1 holds a m c news hl hnews (by omega) (by omega) (growslice_fits (by omega) hbytes)
      rw [hr2] at hr
      cases hr
      have := hnew (xs ++ news) (grownCap w (n + m) cap e - (n + m)) (fun u hu => by rcases List.mem_append.1 hu with h | h; exact hxs u h; exact hnn u h) w.drew (n + m) (grownCap w (n + m) cap e)
      simpa using this

/-- the law of the walk -/
theorem wpList_append_nib {ops : Array Oper} {rest : List Oper} {o : Oper} {a : Act} {Q : Exit → Act → World → Prop} (hgd : o.guard = none) (s x : Operand) (t : TypeId)
    (ho : o.op = .call { callee := .builtin .append, args := #[s, x], argTypes := #[t, t] })
    (base : Nat) (e : TypeId) (i : TypeInfo) (z : Value) (size bytes : Nat) (ht : P.underlying t = some (.slice e)) (hi : P.info? e = some i) (hz : i.zero = some z)
    (hsize : i.size = size) (hby : i.bytes = bytes) (hzs : z.cells.size = size) (hsz : 0 < size)
    (v : Value) (n : Nat) (xs : List Value) (hs : a.eval s = v) (hown : w.ownsRow base e size v n xs)
    (ad : Addr) (m c : Nat) (news : List Value) (hx : a.eval x = .slice (some ad) m c) (hl : news.length = m * size) (hnews : ∀ j u, news[j]? = some u → w.cell? (ad.add j) = some u) (h1 : ∀ u ∈ news, u.oneCell' = true)
    (h63 : n + m ≤ maxLen) (hbytes : (n + m) * bytes ≤ 140737488355328) (hbase : base ≤ w.heap.size)
    (hn : NIB w v) (hzn : ∀ u ∈ z.cells.toList, NoNum u) (hnn : ∀ u ∈ news, NoNum u)
    (h : ∀ v' w', w'.ownsRow base e size v' (n + m) (xs ++ news) → w.grownBy w' v.ownBlock → NIB w' v' → wpList P ops Q rest (a.put o.dst v') w') : wpList P ops Q (o :: rest) a w := by
  refine wpList_plain hgd fun K hK => ?_
  obtain ⟨v', w', hr, h2, h3, h4⟩ := run_append_nib (P := P) w base t o.type e i z size bytes ht hi hz hsize hby hzs hsz v n xs hown ad m c news hl hnews h1 h63 hbytes hbase hn hzn hnn
  unfold Oper.wp execOp
  simp only [ho, resolve, invoke, builtin, Sem.run_bind, Sem.run_pure, Result.andThen_ok, List.map_toArray, List.map_cons, List.map_nil, hs, hx, hr]
  exact hK _ _ (h v' w' h2 h3 h4)
end
end Go.Proofs.YtmafjfhnejeogaaGreatDoor

/- all of package num over get: the numbers of texts. -/
namespace Go.Proofs.YtmafjfhnejeogaaGreatDoor
open Go.RowKit

/-- the numbers that texts say -/
def getL : List ByteArray → Option (List (Bool × Nat × Nat))
  | [] => some []
  | s :: r => match getR s with | none => none | some t => match getL r with | none => none | some l => some (t :: l)
theorem getL_none {ss : List ByteArray} {k : Nat} {s : ByteArray} (h : ss[k]? = some s) (hn : getR s = none) : getL ss = none := by
  induction ss generalizing k with
  | nil => simp at h
  | cons x r ih =>
    cases k with
    | zero =>
      simp at h; subst h
      simp [getL, hn]
    | succ k =>
      have := ih (by simpa using h)
      simp only [getL, this]
      split <;> rfl
theorem getL_snoc {xs : List ByteArray} {s : ByteArray} {l : List (Bool × Nat × Nat)} {t : Bool × Nat × Nat} (h : getL xs = some l) (hs : getR s = some t) : getL (xs ++ [s]) = some (l ++ [t]) := by
  induction xs generalizing l with
  | nil => simp only [getL, Option.some.injEq] at h; subst h; simp [getL, hs]
  | cons x r ih =>
    simp only [getL] at h
    cases hx : getR x with
    | none => rw [hx] at h; cases h
    | some u =>
      rw [hx] at h
      cases hr : getL r with
      | none => rw [hr] at h; cases h
      | some m =>
        rw [hr] at h
        simp only [Option.some.injEq] at h
        subst h
        simp [getL, hx, ih hr]
theorem getL_len {xs : List ByteArray} {l : List (Bool × Nat × Nat)} (h : getL xs = some l) : l.length = xs.length := by
  induction xs generalizing l with
  | nil => simp only [getL, Option.some.injEq] at h; subst h; rfl
  | cons x r ih =>
    simp only [getL] at h
    cases hx : getR x with
    | none => rw [hx] at h; cases h
    | some u =>
      rw [hx] at h
      cases hr : getL r with
      | none => rw [hr] at h; cases h
      | some m =>
        rw [hr] at h
        simp only [Option.some.injEq] at h
        subst h
        simp [ih hr]
/-- the cells of a real number -/
def NCell (w : World) (c : List Value) (t : Bool × Nat × Nat) : Prop := ∃ a1 c1 a2 c2 a3 c3 a4 c4, c = [.bool t.1, .slice a1 (dig t.2.1).length c1, .slice a2 (dig t.2.2).length c2, .bool false, .slice a3 (dig 0).length c3, .slice a4 (dig 1).length c4] ∧ NatV w (.slice a1 (dig t.2.1).length c1) t.2.1 ∧ NatV w (.slice a2 (dig t.2.2).length c2) t.2.2 ∧ NatV w (.slice a3 (dig 0).length c3) 0 ∧ NatV w (.slice a4 (dig 1).length c4) 1
theorem NCell.below {w w' : World} {B : Nat} {c : List Value} {t : Bool × Nat × Nat} (h : NCell w c t) (hb : Below B w w') (hB : w.heap.size ≤ B) : NCell w' c t := by
  obtain ⟨a1, c1, a2, c2, a3, c3, a4, c4, rfl, h1, h2, h3, h4⟩ := h
  exact ⟨a1, c1, a2, c2, a3, c3, a4, c4, rfl, h1.below hb hB, h2.below hb hB, h3.below hb hB, h4.below hb hB⟩
theorem NCell.six {w : World} {c : List Value} {t : Bool × Nat × Nat} (h : NCell w c t) : c.length = 6 := by
  obtain ⟨a1, c1, a2, c2, a3, c3, a4, c4, rfl, _⟩ := h; rfl
def NRow (w : World) (cs : List (List Value)) (l : List (Bool × Nat × Nat)) : Prop := cs.length = l.length ∧ ∀ (i : Nat) c t, cs[i]? = some c → l[i]? = some t → NCell w c t
theorem NRow.below {w w' : World} {B : Nat} {cs : List (List Value)} {l : List (Bool × Nat × Nat)} (h : NRow w cs l) (hb : Below B w w') (hB : w.heap.size ≤ B) : NRow w' cs l := ⟨h.1, fun i c t h1 h2 => (h.2 i c t h1 h2).below hb hB⟩
theorem NRow.snoc {w : World} {cs : List (List Value)} {l : List (Bool × Nat × Nat)} {c : List Value} {t : Bool × Nat × Nat} (h : NRow w cs l) (hc : NCell w c t) : NRow w (cs ++ [c]) (l ++ [t]) := by
  refine ⟨by simp [h.1], fun i d u h1 h2 => ?_⟩
  rcases Nat.lt_trichotomy i cs.length with hi | hi | hi
  · rw [List.getElem?_append_left hi] at h1
    rw [List.getElem?_append_left (by rw [← h.1]; exact hi)] at h2
    exact h.2 i d u h1 h2
  · rw [List.getElem?_append_right (by omega), hi, Nat.sub_self] at h1
    rw [List.getElem?_append_right (by rw [← h.1]; omega), ← h.1, hi, Nat.sub_self] at h2
    simp at h1 h2
    subst h1; subst h2; exact hc
  · rw [List.getElem?_eq_none (by simp; omega)] at h1; cases h1
theorem NRow.flat_len {w : World} {cs : List (List Value)} {l : List (Bool × Nat × Nat)} (h : NRow w cs l) : cs.flatten.length = l.length * 6 := by
  rw [← h.1]
  have : ∀ c ∈ cs, c.length = 6 := fun c hc => by
    obtain ⟨i, hi⟩ := List.getElem?_of_mem hc
    obtain ⟨t, ht⟩ := get_of_lt (show i < l.length by rw [← h.1]; exact (List.getElem?_eq_some_iff.1 hi).1)
    exact (h.2 i c t hi ht).six
  clear h
  induction cs with
  | nil => rfl
  | cons c r ih =>
    rw [List.flatten_cons, List.length_append, this c (by simp), ih (fun d hd => this d (by simp [hd])), List.length_cons]; omega
theorem NCell.grown_nib {w w' : World} {c : List Value} {t : Bool × Nat × Nat} {ov : Value} (h : NCell w c t) (hn : NIB w ov) (hg : w.grownBy w' ov.ownBlock) : NCell w' c t := by
  obtain ⟨a1, c1, a2, c2, a3, c3, a4, c4, rfl, h1, h2, h3, h4⟩ := h
  exact ⟨a1, c1, a2, c2, a3, c3, a4, c4, rfl, h1.grown_nib hn hg, h2.grown_nib hn hg, h3.grown_nib hn hg, h4.grown_nib hn hg⟩
theorem NRow.grown_nib {w w' : World} {cs : List (List Value)} {l : List (Bool × Nat × Nat)} {ov : Value} (h : NRow w cs l) (hn : NIB w ov) (hg : w.grownBy w' ov.ownBlock) : NRow w' cs l := ⟨h.1, fun i c t h1 h2 => (h.2 i c t h1 h2).grown_nib hn hg⟩
theorem own_succ {W : World} {base : Nat} {e : TypeId} {size : Nat} {v : Value} {k : Nat} {xs : List Value} (h : W.ownsRow base e size v (k + 1) xs) : ∃ g cap, v = .slice (some ⟨g, 0, none⟩) (k + 1) cap := by
  rcases h.2 with ⟨_, h0⟩ | ⟨g, cap, _, rfl, _⟩
  · omega
  · exact ⟨g, cap, rfl⟩
/-- what all over get returns -/
def AllRes (ss : List ByteArray) (w : World) (e : Ending) (w' : World) : Prop :=
  (match getL ss with
    | none => e = .returned (.tuple #[.slice none 0 0, .bool false])
    | some l => ∃ a c cs, e = .returned (.tuple #[.slice a l.length c, .bool true]) ∧ Cells w' a cs.flatten ∧ NRow w' cs l) ∧ Below w.heap.size w w'
theorem allRes_none {ss : List ByteArray} {w w' : World} (h : getL ss = none) (hb : Below w.heap.size w w') : AllRes ss w (.returned (.tuple #[.slice none 0 0, .bool false])) w' := ⟨by rw [h], hb⟩
theorem allRes_some {ss : List ByteArray} {w w' : World} {l : List (Bool × Nat × Nat)} {a : Option Addr} {c n : Nat} {cs : List (List Value)} (h : getL ss = some l) (hn : n = l.length) (hc : Cells w' a cs.flatten) (hr : NRow w' cs l) (hb : Below w.heap.size w w') : AllRes ss w (.returned (.tuple #[.slice a n c, .bool true])) w' := ⟨by rw [h]; exact ⟨a, c, cs, by rw [hn], hc, hr⟩, hb⟩

theorem Tryz.infoVal : (Tryz.prog.info? 145).map (fun i => (i.zero, i.size, i.bytes)) = some (some (.agg #[.bool false, .slice none 0 0, .slice none 0 0, .bool false, .slice none 0 0, .slice none 0 0]), 6, 112) := by kernel_rfl

set_option maxRecDepth 100000 in
set_option maxHeartbeats 2000000 in
theorem all_get (ao : Option Addr) (ss : List ByteArray) (cap : Nat) (w : World) (ht : Tab w) (hc : Cells w ao (ss.map Value.string)) (hl : ss.length ≤ 1000000) (hs : ∀ s ∈ ss, s.size ≤ 1099511627776 ∧ Lib.hasSuffix s.data.toList [105] = false) :
    Calls Tryz.prog 131 #[.slice ao ss.length cap, .func (.func 132) #[] #[]] w (AllRes ss w) := by
  obtain ⟨i0, hi, hz0, hz1, hz2⟩ := info_parts Tryz.infoVal
  have HC := Lib.hid hc; have HT := Lib.hid ht; have HS := Lib.hid hs
  clear hc ht hs
  go_enter Tryz.func131, Tryz.ntmps131
  go_wp2_with fail
  go_loopw [6, 13] (fun ov iv wr => ∃ (k : Nat) (l : List (Bool × Nat × Nat)) (cs : List (List Value)), k ≤ ss.length ∧ iv = .int .i64 k ∧ getL (ss.take k) = some l ∧ NRow wr cs l ∧ wr.ownsRow w.heap.size 145 6 ov k cs.flatten ∧ NIB wr ov ∧ Below w.heap.size w wr) (fun _ iv _ => ss.length - (intOf iv).toNat)
  case atStart => exact ⟨0, [], [], Nat.zero_le _, rfl, rfl, ⟨rfl, fun i c t h => by simp at h⟩, World.ownsRow_nil _ _ _ _, NIB.none _, Below.refl _ _⟩
  case round =>
    obtain ⟨k, l, cs, hk, rfl, hgl, hnr, hown, hnib, hb⟩ := hrel
    have hlk := getL_len hgl
    rw [List.length_take, Nat.min_eq_left hk] at hlk
    have HGL := Lib.hid hgl; have HNR := Lib.hid hnr; have HLK := Lib.hid hlk
    clear hgl hnr hlk
    have hsz := hb.size
    by_cases hlt : k < ss.length
    · obtain ⟨s, hs⟩ := get_of_lt hlt
      obtain ⟨b, off, rfl⟩ := HC.out.addr (by simpa using List.ne_nil_of_length_pos (by omega))
      have c0 := cell_keep (HC.out.at (j := k) (u := .string s) (by simp [hs])) hb (Nat.le_refl _)
      have hsm := HS.out s (List.mem_of_getElem? hs)
      have hg := get_noI s wr (HT.out.below hb (Nat.le_refl _)) hsm.1 hsm.2
      have htk := take_get hs
      have HG := Lib.hid hg; have HTK := Lib.hid htk; have HHS := Lib.hid hs
      have j0 : (k : Int) < ss.length := by omega
      clear hsm hg htk hs
      go_wp2_with fail
      refine HG.out.mono ?_
      rintro e w1 ⟨hm, hb1⟩
      rcases hgr : getR s with _ | ⟨sb, n, d⟩
      · rw [hgr] at hm
        have HN := Lib.hid (getL_none HHS.out hgr)
        subst hm
        clear hgr
        go_wp2
        go_ret2
        exact allRes_none HN.out ((hb.trans (hb1.mono hsz)).alloc (Nat.le_trans hsz hb1.size) _)
      · rw [hgr] at hm
        obtain ⟨v, rfl, hv⟩ := hm
        have hgs := getL_snoc HGL.out hgr
        rw [← HTK.out] at hgs
        have HGS := Lib.hid hgs
        obtain ⟨a1, c1, a2, c2, a3, c3, a4, c4, rfl, k1, k2, k3, k4⟩ := hv.slices
        have hnc : NCell w1 [.bool sb, .slice a1 (dig n).length c1, .slice a2 (dig d).length c2, .bool false, .slice a3 (dig 0).length c3, .slice a4 (dig 1).length c4] (sb, n, d) := ⟨a1, c1, a2, c2, a3, c3, a4, c4, rfl, k1, k2, k3, k4⟩
        have hns := (HNR.out.below hb1 (Nat.le_refl _)).snoc hnc
        have HNS := Lib.hid hns
        have hown1 := own_belowK hown hb1 (Nat.le_refl _)
        have hnib1 := hnib.below hb1 (fun g hg => (hown.lt g hg).2)
        have hbw1 := hb.trans (hb1.mono hsz)
        have hsz1 := hbw1.size
        have HOB : Hid (∀ j, u6.ownBlock = some j → w.heap.size ≤ j) := fun j e => (hown.lt j e).1
        clear hgr hgs hv k1 k2 k3 k4 hnc hns hb1
        have hnn : ∀ u ∈ ([.bool sb, .slice a1 (dig n).length c1, .slice a2 (dig d).length c2, .bool false, .slice a3 (dig 0).length c3, .slice a4 (dig 1).length c4] : List Value), NoNum u := by
          intro u hu
          simp only [List.mem_cons, List.not_mem_nil, or_false] at hu
          rcases hu with rfl | rfl | rfl | rfl | rfl | rfl <;> trivial
        have hzz : ∀ u ∈ ((Value.agg #[.bool false, .slice none 0 0, .slice none 0 0, .bool false, .slice none 0 0, .slice none 0 0]).cells).toList, NoNum u := by
          intro u hu
          change u ∈ [Value.bool false, .slice none 0 0, .slice none 0 0, .bool false, .slice none 0 0, .slice none 0 0] at hu
          simp only [List.mem_cons, List.not_mem_nil, or_false] at hu
          rcases hu with rfl | rfl | rfl | rfl | rfl | rfl <;> trivial
        have hbb : Below w1.heap.size w1 ((w1.alloc (.cells #[Value.bool sb, .slice a1 (dig n).length c1, .slice a2 (dig d).length c2, .bool false, .slice a3 (dig 0).length c3, .slice a4 (dig 1).length c4] 145)).alloc (.cells #[Value.bool sb, .slice a1 (dig n).length c1, .slice a2 (dig d).length c2, .bool false, .slice a3 (dig 0).length c3, .slice a4 (dig 1).length c4] 145)) := ((Below.refl _ _).alloc (Nat.le_refl _) _).alloc (by simp) _
        have hnib2 := hnib1.below hbb (fun g hg => by have := (hown1.lt g hg).2; omega)
        have HNIB := Lib.hid hnib2; have HNN := Lib.hid hnn; have HZZ := Lib.hid hzz; have HBB := Lib.hid hbb
        clear hnib hnib1 hnib2 hnn hzz hbb
        go_wp2_with (at_builtin; refine wpList_append_nib _ rfl _ _ 183 rfl w.heap.size 145 i0 (.agg #[.bool false, .slice none 0 0, .slice none 0 0, .bool false, .slice none 0 0, .slice none 0 0]) 6 112 Tryz.underlying183 hi hz0 hz1 hz2 rfl (by decide) _ _ _ rfl ((hown1.alloc _).alloc _) ⟨w1.heap.size + 1, 0, none⟩ 1 1 [.bool sb, .slice a1 (dig n).length c1, .slice a2 (dig d).length c2, .bool false, .slice a3 (dig 0).length c3, .slice a4 (dig 1).length c4] rfl rfl (World.news_of_block (cs := #[Value.bool sb, .slice a1 (dig n).length c1, .slice a2 (dig d).length c2, .bool false, .slice a3 (dig 0).length c3, .slice a4 (dig 1).length c4]) (t := 145) (fr := (0, 0)) (by have := heap_alloc_new (w1.alloc (.cells #[Value.bool sb, .slice a1 (dig n).length c1, .slice a2 (dig d).length c2, .bool false, .slice a3 (dig 0).length c3, .slice a4 (dig 1).length c4] 145)) (.cells #[Value.bool sb, .slice a1 (dig n).length c1, .slice a2 (dig d).length c2, .bool false, .slice a3 (dig 0).length c3, .slice a4 (dig 1).length c4] 145); simpa using this)) (by simp [Value.oneCell']) (by unfold maxLen; omega) (by omega) (by simp; omega) HNIB.out HZZ.out HNN.out ?_; intro v1 wz hown2 hgrow hnib3)
        have hbz := ((hbw1.alloc hsz1 (.cells #[Value.bool sb, .slice a1 (dig n).length c1, .slice a2 (dig d).length c2, .bool false, .slice a3 (dig 0).length c3, .slice a4 (dig 1).length c4] 145)).alloc (by simp; omega) (.cells #[Value.bool sb, .slice a1 (dig n).length c1, .slice a2 (dig d).length c2, .bool false, .slice a3 (dig 0).length c3, .slice a4 (dig 1).length c4] 145)).grown hgrow (by simp; omega) HOB.out
        have hfl : cs.flatten ++ [.bool sb, .slice a1 (dig n).length c1, .slice a2 (dig d).length c2, .bool false, .slice a3 (dig 0).length c3, .slice a4 (dig 1).length c4] = (cs ++ [([.bool sb, .slice a1 (dig n).length c1, .slice a2 (dig d).length c2, .bool false, .slice a3 (dig 0).length c3, .slice a4 (dig 1).length c4] : List Value)]).flatten := by simp
        rw [hfl] at hown2
        have HFIN := Lib.hid hown2
        have hnz : NRow wz (cs ++ [([.bool sb, .slice a1 (dig n).length c1, .slice a2 (dig d).length c2, .bool false, .slice a3 (dig 0).length c3, .slice a4 (dig 1).length c4] : List Value)]) (l ++ [(sb, n, d)]) := (HNS.out.below HBB.out (Nat.le_refl _)).grown_nib HNIB.out hgrow
        have HNZ := Lib.hid hnz; have HN3 := Lib.hid hnib3
        clear hown2 hgrow hown hown1 hfl hnz hnib3
        obtain ⟨gg, cp, rfl⟩ := own_succ HFIN.out
        go_wp2
        go_roundw
        case rel => exact ⟨k + 1, _, _, by omega, by go_num, HGS.out, HNZ.out, by simpa using HFIN.out, HN3.out, hbz⟩
        case measure => simp [intOf]; omega
    · obtain rfl : k = ss.length := by omega
      have hg2 := HGL.out
      rw [List.take_length] at hg2
      have HG2 := Lib.hid hg2
      obtain ⟨g, c, rfl, hcs⟩ := own_cells hown
      have HCS := Lib.hid hcs
      clear hg2 hcs hown hnib
      go_wp2
      go_ret2
      exact allRes_some HG2.out HLK.out.symm HCS.out HNR.out hb
end Go.Proofs.YtmafjfhnejeogaaGreatDoor

/- Sum of package num. -/
namespace Go.Proofs.YtmafjfhnejeogaaGreatDoor
open Go.RowKit

theorem Blk.setAt {W : World} {B : Nat} {t : TypeId} {cs : Array Value} (h : Blk W B t cs) (i : Nat) (u : Value) : Blk (W.setCell ⟨B, i, none⟩ u) B t (cs.setIfInBounds i u) := by
  have := heap_setCell_same W B i cs t u h
  exact this
theorem Blk.cell {W : World} {B : Nat} {t : TypeId} {cs : Array Value} (h : Blk W B t cs) (i : Nat) : W.cell? ⟨B, i, none⟩ = cs[i]? := by simp [World.cell?, show W.heap[B]? = _ from h]
theorem flat_get {cs : List (List Value)} (h : ∀ c ∈ cs, c.length = 6) {k j : Nat} {c : List Value} {u : Value} (hk : cs[k]? = some c) (hj : c[j]? = some u) : cs.flatten[k * 6 + j]? = some u := by
  induction cs generalizing k with
  | nil => simp at hk
  | cons d r ih =>
    have hd := h d (by simp)
    cases k with
    | zero =>
      simp at hk; subst hk
      rw [Nat.zero_mul, Nat.zero_add, List.flatten_cons, List.getElem?_append_left (List.getElem?_eq_some_iff.1 hj).1]
      exact hj
    | succ k =>
      rw [List.flatten_cons, List.getElem?_append_right (by rw [hd]; omega), hd, show (k + 1) * 6 + j - 6 = k * 6 + j by omega]
      exact ih (fun x hx => h x (by simp [hx])) (by simpa using hk)
theorem NRow.six {w : World} {cs : List (List Value)} {l : List (Bool × Nat × Nat)} (h : NRow w cs l) : ∀ c ∈ cs, c.length = 6 := fun c hc => by
  obtain ⟨i, hi⟩ := List.getElem?_of_mem hc
  obtain ⟨t, ht⟩ := get_of_lt (show i < l.length by rw [← h.1]; exact (List.getElem?_eq_some_iff.1 hi).1)
  exact (h.2 i c t hi ht).six

/-- the sum of rational numbers, one after the other -/
def sumStep (a t : Bool × Nat × Nat) : Bool × Nat × Nat := (rpS a.1 a.2.1 a.2.2 t.1 t.2.1 t.2.2, rpN a.1 a.2.1 a.2.2 t.1 t.2.1 t.2.2, rpD a.1 a.2.1 a.2.2 t.1 t.2.1 t.2.2)
def sumQ (l : List (Bool × Nat × Nat)) : Bool × Nat × Nat := l.foldl sumStep (false, 0, 1)
theorem sumQ_snoc (l : List (Bool × Nat × Nat)) (t : Bool × Nat × Nat) : sumQ (l ++ [t]) = sumStep (sumQ l) t := by simp [sumQ, List.foldl_append]
/-- a number of at most 300 digits to the base above and below -/
def Short (t : Bool × Nat × Nat) : Prop := (dig t.2.1).length ≤ 300 ∧ (dig t.2.2).length ≤ 300 ∧ t.2.2 ≠ 0
theorem rp_bd {s1 : Bool} {n1 d1 : Nat} {s2 : Bool} {n2 d2 k : Nat} (h1 : (dig n1).length ≤ k) (h2 : (dig d1).length ≤ k) (h3 : (dig n2).length ≤ 300) (h4 : (dig d2).length ≤ 300) (hd1 : d1 ≠ 0) (hd2 : d2 ≠ 0) :
    (dig (rpN s1 n1 d1 s2 n2 d2)).length ≤ k + 301 ∧ (dig (rpD s1 n1 d1 s2 n2 d2)).length ≤ k + 301 ∧ rpD s1 n1 d1 s2 n2 d2 ≠ 0 := by
  have m1 := dig_mul_len n1 d2
  have m2 := dig_mul_len n2 d1
  have m3 := dig_mul_len d1 d2
  have m4 := dig_len_mono (adN_le s1 (n1 * d2) s2 (n2 * d1))
  have m5 := dig_add_len (a := n1 * d2) (b := n2 * d1) (k := k + 300) (by omega) (by omega)
  have e1 : rpN s1 n1 d1 s2 n2 d2 ≤ rpU s1 n1 d1 s2 n2 d2 := Nat.div_le_self _ _
  have e2 : rpD s1 n1 d1 s2 n2 d2 ≤ d1 * d2 := Nat.div_le_self _ _
  have e3 := dig_len_mono e1
  have e4 := dig_len_mono e2
  have hd0 : d1 * d2 ≠ 0 := Nat.mul_ne_zero hd1 hd2
  refine ⟨by unfold rpU at e3; omega, by omega, ?_⟩
  have h5 : 0 < Nat.gcd (rpU s1 n1 d1 s2 n2 d2) (d1 * d2) := Nat.gcd_pos_of_pos_right _ (by omega)
  have := Nat.div_pos (Nat.le_of_dvd (by omega) (Nat.gcd_dvd_right (rpU s1 n1 d1 s2 n2 d2) (d1 * d2))) h5
  unfold rpD; omega
theorem sumQ_bd (l : List (Bool × Nat × Nat)) (h : ∀ t ∈ l, Short t) : ∀ k, k ≤ l.length → (dig (sumQ (l.take k)).2.1).length ≤ 301 * k + 1 ∧ (dig (sumQ (l.take k)).2.2).length ≤ 301 * k + 1 ∧ (sumQ (l.take k)).2.2 ≠ 0 := by
  intro k
  induction k with
  | zero => intro _; exact ⟨by simp [sumQ, dig_zero], by simp [sumQ, dig_1], by simp [sumQ]⟩
  | succ k ih =>
    intro hk
    obtain ⟨i1, i2, i3⟩ := ih (by omega)
    obtain ⟨t, ht⟩ := get_of_lt (show k < l.length by omega)
    obtain ⟨t1, t2, t3⟩ := h t (List.mem_of_getElem? ht)
    rw [take_get ht, sumQ_snoc]
    have := rp_bd (s1 := (sumQ (l.take k)).1) (s2 := t.1) i1 i2 t1 t2 i3 t3
    exact ⟨by simp only [sumStep]; omega, by simp only [sumStep]; omega, this.2.2⟩
theorem bigQ_short {s : Bool} {n d : Nat} (h : bigQ n d = false) (hd : d ≠ 0) : Short (s, n, d) := by
  unfold bigQ at h
  rw [Bool.or_eq_false_iff, decide_eq_false_iff_not, decide_eq_false_iff_not] at h
  have h1 : ∀ m : Nat, Lib.nDigits m ≤ 2000 → (dig m).length ≤ 300 := by
    intro m hm
    by_cases h0 : m = 0
    · subst h0; rw [dig_zero]; simp
    · have hp : 0 < (dig m).length := by have := mt dig_len_pos.1 h0; omega
      obtain ⟨t, ht⟩ := get_of_lt (show (dig m).length - 1 < (dig m).length by omega)
      have := size_dig_eq ht
      omega
  exact ⟨h1 n (by omega), h1 d (by omega), hd⟩
theorem getR_short {s : ByteArray} {t : Bool × Nat × Nat} (h : getR s = some t) : Short t := by
  unfold getR at h
  split at h
  · cases h
  · unfold ownD at h
    rcases hp : parseR s.data.toList with _ | ⟨m, n, d⟩
    · rw [hp] at h; cases h
    · rw [hp] at h
      simp only at h
      split at h
      · rename_i hc
        rw [← Option.some.inj h]
        obtain ⟨_, _, hd0⟩ := parseR_bd hp
        refine bigQ_short hc.2 ?_
        have h3 : 0 < Nat.gcd n d := Nat.gcd_pos_of_pos_right _ (by omega)
        have := Nat.div_pos (Nat.le_of_dvd (by omega) (Nat.gcd_dvd_right n d)) h3
        omega
      · cases h
theorem getL_short {ss : List ByteArray} {l : List (Bool × Nat × Nat)} (h : getL ss = some l) : ∀ t ∈ l, Short t := by
  induction ss generalizing l with
  | nil => simp only [getL, Option.some.injEq] at h; subst h; simp
  | cons x r ih =>
    simp only [getL] at h
    cases hx : getR x with
    | none => rw [hx] at h; cases h
    | some u =>
      rw [hx] at h
      cases hr : getL r with
      | none => rw [hr] at h; cases h
      | some m =>
        rw [hr] at h
        simp only [Option.some.injEq] at h
        subst h
        intro t ht
        rcases List.mem_cons.1 ht with rfl | ht
        · exact getR_short hx
        · exact ih hr t ht
def SumRes (ss : List ByteArray) (w : World) (e : Ending) (w' : World) : Prop :=
  (match getL ss with
    | none => e = .returned (.tuple #[.string ⟨#[]⟩, .int .i64 10])
    | some l => e = .returned (.tuple #[.string (putT (sumQ l).1 (sumQ l).2.1 (sumQ l).2.2), .int .i64 (putE (sumQ l).2.1 (sumQ l).2.2)])) ∧ Below w.heap.size w w'
theorem sumRes_none {ss : List ByteArray} {w w' : World} (h : getL ss = none) (hb : Below w.heap.size w w') : SumRes ss w (.returned (.tuple #[.string ⟨#[]⟩, .int .i64 10])) w' := ⟨by rw [h], hb⟩
theorem sumRes_some {ss : List ByteArray} {w w' : World} {l : List (Bool × Nat × Nat)} {q : Bool × Nat × Nat} (h : getL ss = some l) (hq : sumQ l = q) (hb : Below w.heap.size w w') : SumRes ss w (.returned (.tuple #[.string (putT q.1 q.2.1 q.2.2), .int .i64 (putE q.2.1 q.2.2)])) w' := ⟨by subst hq; rw [h], hb⟩

set_option maxRecDepth 100000 in
set_option maxHeartbeats 2000000 in
theorem sum_any (ao : Option Addr) (ss : List ByteArray) (cap : Nat) (w : World) (ht : Tab w) (hc : Cells w ao (ss.map Value.string)) (hl : ss.length ≤ 4096) (hs : ∀ s ∈ ss, s.size ≤ 1099511627776 ∧ Lib.hasSuffix s.data.toList [105] = false) :
    Calls Tryz.prog 81 #[.slice ao ss.length cap] w (SumRes ss w) := by
  have hall := all_get ao ss cap w ht hc (by omega) hs
  have HALL := Lib.hid hall; have HT := Lib.hid ht
  clear hall ht hc hs
  go_enter Tryz.func81, Tryz.ntmps81
  go_wp2_with fail
  refine HALL.out.mono ?_
  rintro e w1 ⟨hm, hb1⟩
  rcases hgl : getL ss with _ | l
  · rw [hgl] at hm
    subst hm
    have HGL := Lib.hid hgl
    clear hgl
    go_wp2
    go_ret2
    exact sumRes_none HGL.out hb1
  · rw [hgl] at hm
    obtain ⟨a, c, cs, rfl, hcc, hnr⟩ := hm
    have hlen := getL_len hgl
    have hbd := sumQ_bd l (getL_short hgl)
    have hsh := getL_short hgl
    have h6 := hnr.six
    have HGL := Lib.hid hgl; have HCC := Lib.hid hcc; have HNR := Lib.hid hnr; have HBD := Lib.hid hbd; have HSH := Lib.hid hsh; have H6 := Lib.hid h6
    have hl2 : l.length ≤ 4096 := by omega
    clear hgl hcc hnr hbd hsh h6 hlen
    have hwh := fun W => whole_any 0 W (by omega) (by omega)
    have HWH : Hid (∀ W, Calls Tryz.prog 90 #[.int .i64 0] W fun e w' => (∃ v, e = .returned v ∧ RatV w' v false 0 1) ∧ Below W.heap.size W w') := hwh
    clear hwh
    go_wp2_with fail
    refine (HWH.out _).mono ?_
    rintro e w2 ⟨⟨v2, rfl, hv2⟩, hb2⟩
    obtain ⟨z1, y1, z2, y2, rfl, k1, k2⟩ := hv2.slices
    go_wp2_with fail
    refine (plain_any false 0 1 _ _ hv2).mono ?_
    rintro e w3 ⟨⟨v3, rfl, hv3⟩, hb3⟩
    clear hv2 k1 k2
    obtain ⟨b1, d1, b2, d2, b3, d3, b4, d4, rfl, j1, j2, j3, j4⟩ := hv3.slices
    have hb13 : Below w1.heap.size w1 w3 := hb2.trans (hb3.mono hb2.size)
    have hbk0 := Blk.new w3 145 #[Value.bool false, .slice b1 (dig 0).length d1, .slice b2 (dig 1).length d2, .bool false, .slice b3 (dig 0).length d3, .slice b4 (dig 1).length d4]
    have hal3 := (Below.refl w3.heap.size w3).alloc (Nat.le_refl _) (.cells #[Value.bool false, .slice b1 (dig 0).length d1, .slice b2 (dig 1).length d2, .bool false, .slice b3 (dig 0).length d3, .slice b4 (dig 1).length d4] 145)
    have hnc0 : NCell (w3.alloc (.cells #[Value.bool false, .slice b1 (dig 0).length d1, .slice b2 (dig 1).length d2, .bool false, .slice b3 (dig 0).length d3, .slice b4 (dig 1).length d4] 145)) [.bool false, .slice b1 (dig 0).length d1, .slice b2 (dig 1).length d2, .bool false, .slice b3 (dig 0).length d3, .slice b4 (dig 1).length d4] (sumQ (l.take 0)) := ⟨b1, d1, b2, d2, b3, d3, b4, d4, rfl, j1.below hal3 (Nat.le_refl _), j2.below hal3 (Nat.le_refl _), j3.below hal3 (Nat.le_refl _), j4.below hal3 (Nat.le_refl _)⟩
    have hb14 := hb13.alloc hb13.size (.cells #[Value.bool false, .slice b1 (dig 0).length d1, .slice b2 (dig 1).length d2, .bool false, .slice b3 (dig 0).length d3, .slice b4 (dig 1).length d4] 145)
    have HBK0 := Lib.hid hbk0; have HNC0 := Lib.hid hnc0; have HB14 := Lib.hid hb14
    have hsz3 := hb13.size
    clear hv3 j1 j2 j3 j4 hbk0 hnc0 hb14 hal3 hb13 hb2 hb3
    go_wp2_with fail
    go_loopw [23] (fun iv wr => ∃ (k : Nat) (cc : List Value), k ≤ l.length ∧ iv = .int .i64 k ∧ NCell wr cc (sumQ (l.take k)) ∧ Blk wr w3.heap.size 145 cc.toArray ∧ Below w1.heap.size w1 wr) (fun iv _ => l.length - (intOf iv).toNat)
    case atStart => exact ⟨0, _, Nat.zero_le _, rfl, HNC0.out, HBK0.out, HB14.out⟩
    case round =>
      clear HBK0 HNC0 HB14
      obtain ⟨k, cq, hk, rfl, hnc, hbk, hbw⟩ := hrel
      obtain ⟨i1, i2, i3⟩ := HBD.out k hk
      have hblt := hbk.lt
      obtain ⟨q, hq⟩ : ∃ q, sumQ (l.take k) = q := ⟨_, rfl⟩
      rw [hq] at hnc i1 i2 i3
      obtain ⟨sq, nq, dq⟩ := q
      have HQ := Lib.hid hq
      have hqv : ValV wr (.agg cq.toArray) sq nq dq false 0 1 := by
        obtain ⟨b1, d1, b2, d2, b3, d3, b4, d4, rfl, j1, j2, j3, j4⟩ := hnc
        exact ⟨_, _, _, _, rfl, j1, j2, j3, j4⟩
      obtain ⟨b1, d1, b2, d2, b3, d3, b4, d4, rfl, j1, j2, j3, j4⟩ := hnc
      simp only at hqv i1 i2 i3
      have HQV := Lib.hid hqv; have HBK := Lib.hid hbk
      have y0 : wr.cell? ⟨w3.heap.size, 0, none⟩ = some (.bool sq) := hbk.cell 0
      have y1 : wr.cell? ⟨w3.heap.size, 1, none⟩ = some (.slice b1 (dig nq).length d1) := hbk.cell 1
      have y2 : wr.cell? ⟨w3.heap.size, 2, none⟩ = some (.slice b2 (dig dq).length d2) := hbk.cell 2
      have y3 : wr.cell? ⟨w3.heap.size, 3, none⟩ = some (.bool false) := hbk.cell 3
      have y4 : wr.cell? ⟨w3.heap.size, 4, none⟩ = some (.slice b3 (dig 0).length d3) := hbk.cell 4
      have y5 : wr.cell? ⟨w3.heap.size, 5, none⟩ = some (.slice b4 (dig 1).length d4) := hbk.cell 5
      clear j1 j2 j3 j4 hqv hbk hq
      by_cases hlt : k < l.length
      · obtain ⟨t, ht⟩ := get_of_lt hlt
        obtain ⟨te, htc⟩ := get_of_lt (show k < cs.length by rw [HNR.out.1]; exact hlt)
        have hnce := (HNR.out.2 k te t htc ht).below hbw (Nat.le_refl _)
        obtain ⟨t1, t2, t3⟩ := HSH.out t (List.mem_of_getElem? ht)
        have htk := take_get ht
        obtain ⟨se, ne, de⟩ := t
        have hev : ValV wr (.agg te.toArray) se ne de false 0 1 := by
          obtain ⟨b1, d1, b2, d2, b3, d3, b4, d4, rfl, j1, j2, j3, j4⟩ := hnce
          exact ⟨_, _, _, _, rfl, j1, j2, j3, j4⟩
        obtain ⟨a1, c1, a2, c2, a3, c3, a4, c4, rfl, j1, j2, j3, j4⟩ := hnce
        simp only at hev t1 t2 t3
        have hfl := HNR.out.flat_len
        obtain ⟨ba, offa, rfl⟩ := HCC.out.addr (by intro h; rw [h] at hfl; simp at hfl; omega)
        have x0 : wr.cell? ⟨ba, offa + k * 6, none⟩ = some (.bool se) := by have := HCC.out.at (flat_get H6.out htc (j := 0) rfl); have := cell_keep this hbw (Nat.le_refl _); rwa [← Nat.add_assoc] at this
        have x1 : wr.cell? ⟨ba, offa + k * 6 + 1, none⟩ = some (.slice a1 (dig ne).length c1) := by have := HCC.out.at (flat_get H6.out htc (j := 1) rfl); have := cell_keep this hbw (Nat.le_refl _); rwa [← Nat.add_assoc] at this
        have x2 : wr.cell? ⟨ba, offa + k * 6 + 2, none⟩ = some (.slice a2 (dig de).length c2) := by have := HCC.out.at (flat_get H6.out htc (j := 2) rfl); have := cell_keep this hbw (Nat.le_refl _); rwa [← Nat.add_assoc] at this
        have x3 : wr.cell? ⟨ba, offa + k * 6 + 3, none⟩ = some (.bool false) := by have := HCC.out.at (flat_get H6.out htc (j := 3) rfl); have := cell_keep this hbw (Nat.le_refl _); rwa [← Nat.add_assoc] at this
        have x4 : wr.cell? ⟨ba, offa + k * 6 + 4, none⟩ = some (.slice a3 (dig 0).length c3) := by have := HCC.out.at (flat_get H6.out htc (j := 4) rfl); have := cell_keep this hbw (Nat.le_refl _); rwa [← Nat.add_assoc] at this
        have x5 : wr.cell? ⟨ba, offa + k * 6 + 5, none⟩ = some (.slice a4 (dig 1).length c4) := by have := HCC.out.at (flat_get H6.out htc (j := 5) rfl); have := cell_keep this hbw (Nat.le_refl _); rwa [← Nat.add_assoc] at this
        have hsn : sumQ (l.take (k + 1)) = (rpS sq nq dq se ne de, rpN sq nq dq se ne de, rpD sq nq dq se ne de) := by rw [htk, sumQ_snoc, HQ.out]; rfl
        have HSN := Lib.hid hsn; have HEV := Lib.hid hev
        have i0 : (k : Int) < l.length := by omega
        clear htk htc ht hev j1 j2 j3 j4 hfl hsn
        obtain ⟨ps, hps⟩ : ∃ ps, ps = rpS sq nq dq se ne de := ⟨_, rfl⟩
        obtain ⟨pn, hpn⟩ : ∃ pn, pn = rpN sq nq dq se ne de := ⟨_, rfl⟩
        obtain ⟨pd, hpd⟩ : ∃ pd, pd = rpD sq nq dq se ne de := ⟨_, rfl⟩
        have HPL : Hid (∀ W, Below wr.heap.size wr W → Calls Tryz.prog 96 #[.agg #[.bool sq, .slice b1 (dig nq).length d1, .slice b2 (dig dq).length d2, .bool false, .slice b3 (dig 0).length d3, .slice b4 (dig 1).length d4], .agg #[.bool se, .slice a1 (dig ne).length c1, .slice a2 (dig de).length c2, .bool false, .slice a3 (dig 0).length c3, .slice a4 (dig 1).length c4]] W (ValRes ps pn pd W)) := fun W hb => by
          rw [hps, hpn, hpd]
          exact valPlus_any _ _ sq nq dq se ne de W (HQV.out.below hb (Nat.le_refl _)) (HEV.out.below hb (Nat.le_refl _)) i3 t3 (by omega) (by omega) (by omega) (by omega)
        rw [← hps, ← hpn, ← hpd] at HSN
        clear hps hpn hpd
        have n1 : ¬ w3.heap.size = wr.heap.size := by omega
        go_wp2_with fail
        refine (HPL.out _ ((Below.refl _ _).alloc (Nat.le_refl _) _)).mono ?_
        rintro e w5 ⟨⟨v5, rfl, hv5⟩, hb5⟩
        have hbx : Below wr.heap.size wr w5 := ((Below.refl _ _).alloc (Nat.le_refl _) _).trans (hb5.mono (by simp))
        obtain ⟨g1, i1, g2, i2, g3, i3, g4, i4, rfl, m1, m2, m3, m4⟩ := hv5.slices
        have hbk5 := HBK.out.below hbx hblt
        have z0 : w5.cell? ⟨w3.heap.size, 0, none⟩ = some (.bool sq) := hbk5.cell 0
        have z1 : w5.cell? ⟨w3.heap.size, 1, none⟩ = some (.slice b1 (dig nq).length d1) := hbk5.cell 1
        have z2 : w5.cell? ⟨w3.heap.size, 2, none⟩ = some (.slice b2 (dig dq).length d2) := hbk5.cell 2
        have z3 : w5.cell? ⟨w3.heap.size, 3, none⟩ = some (.bool false) := hbk5.cell 3
        have z4 : w5.cell? ⟨w3.heap.size, 4, none⟩ = some (.slice b3 (dig 0).length d3) := hbk5.cell 4
        have z5 : w5.cell? ⟨w3.heap.size, 5, none⟩ = some (.slice b4 (dig 1).length d4) := hbk5.cell 5
        have f0 : w5.frozen? ⟨w3.heap.size, 0, none⟩ = false := hbk5.free 0
        have f1 : w5.frozen? ⟨w3.heap.size, 1, none⟩ = false := hbk5.free 1
        have f2 : w5.frozen? ⟨w3.heap.size, 2, none⟩ = false := hbk5.free 2
        have f3 : w5.frozen? ⟨w3.heap.size, 3, none⟩ = false := hbk5.free 3
        have f4 : w5.frozen? ⟨w3.heap.size, 4, none⟩ = false := hbk5.free 4
        have f5 : w5.frozen? ⟨w3.heap.size, 5, none⟩ = false := hbk5.free 5
        have hbf := (((((hbk5.setAt 0 (.bool ps)).setAt 1 (.slice g1 (dig pn).length i1)).setAt 2 (.slice g2 (dig pd).length i2)).setAt 3 (.bool false)).setAt 4 (.slice g3 (dig 0).length i3)).setAt 5 (.slice g4 (dig 1).length i4)
        have M1 := m1.box6 (u0 := .bool ps) (u1 := .slice g1 (dig pn).length i1) (u2 := .slice g2 (dig pd).length i2) (u3 := .bool false) (u4 := .slice g3 (dig 0).length i3) (u5 := .slice g4 (dig 1).length i4) z0 z1 z2 z3 z4 z5 trivial trivial trivial trivial trivial trivial
        have M2 := m2.box6 (u0 := .bool ps) (u1 := .slice g1 (dig pn).length i1) (u2 := .slice g2 (dig pd).length i2) (u3 := .bool false) (u4 := .slice g3 (dig 0).length i3) (u5 := .slice g4 (dig 1).length i4) z0 z1 z2 z3 z4 z5 trivial trivial trivial trivial trivial trivial
        have M3 := m3.box6 (u0 := .bool ps) (u1 := .slice g1 (dig pn).length i1) (u2 := .slice g2 (dig pd).length i2) (u3 := .bool false) (u4 := .slice g3 (dig 0).length i3) (u5 := .slice g4 (dig 1).length i4) z0 z1 z2 z3 z4 z5 trivial trivial trivial trivial trivial trivial
        have M4 := m4.box6 (u0 := .bool ps) (u1 := .slice g1 (dig pn).length i1) (u2 := .slice g2 (dig pd).length i2) (u3 := .bool false) (u4 := .slice g3 (dig 0).length i3) (u5 := .slice g4 (dig 1).length i4) z0 z1 z2 z3 z4 z5 trivial trivial trivial trivial trivial trivial
        have hbz := ((((((hbw.trans (hbx.mono hbw.size)).setCell (p := ⟨w3.heap.size, 0, none⟩) hsz3 (.bool ps)).setCell (p := ⟨w3.heap.size, 1, none⟩) hsz3 (.slice g1 (dig pn).length i1)).setCell (p := ⟨w3.heap.size, 2, none⟩) hsz3 (.slice g2 (dig pd).length i2)).setCell (p := ⟨w3.heap.size, 3, none⟩) hsz3 (.bool false)).setCell (p := ⟨w3.heap.size, 4, none⟩) hsz3 (.slice g3 (dig 0).length i3)).setCell (p := ⟨w3.heap.size, 5, none⟩) hsz3 (.slice g4 (dig 1).length i4)
        have HBF := Lib.hid hbf; have HM1 := Lib.hid M1; have HM2 := Lib.hid M2; have HM3 := Lib.hid M3; have HM4 := Lib.hid M4; have HBZ := Lib.hid hbz
        clear hbf M1 M2 M3 M4 hbz m1 m2 m3 m4 hv5 hb5 hbk5 hbx y0 y1 y2 y3 y4 y5 x0 x1 x2 x3 x4 x5 n1
        go_wp2_with fail
        go_roundw
        case rel => exact ⟨k + 1, _, by omega, by go_num, by rw [HSN.out]; exact ⟨g1, i1, g2, i2, g3, i3, g4, i4, rfl, HM1.out, HM2.out, HM3.out, HM4.out⟩, HBF.out, HBZ.out⟩
        case measure => simp [intOf]; omega
      · obtain rfl : k = l.length := by omega
        have hq2 : sumQ l = (sq, nq, dq) := by have := HQ.out; rwa [List.take_length] at this
        have HQ2 := Lib.hid hq2
        have hput := fun W h1 h2 => put_any (.agg #[.bool sq, .slice b1 (dig nq).length d1, .slice b2 (dig dq).length d2, .bool false, .slice b3 (dig 0).length d3, .slice b4 (dig 1).length d4]) sq nq dq false W h1 h2 (by omega) (by omega) i3
        have HPUT := Lib.hid hput
        have HTT := Lib.hid (HT.out.below (hb1.trans (hbw.mono hb1.size)) (Nat.le_refl _))
        have i0 : ¬ (l.length : Int) < l.length := by omega
        clear hq2 hput
        go_wp2_with fail
        refine (HPUT.out _ HQV.out HTT.out).mono ?_
        rintro e w5 ⟨rfl, hb5⟩
        have hbf := hb1.trans ((hbw.trans (hb5.mono hbw.size)).mono hb1.size)
        clear y0 y1 y2 y3 y4 y5
        go_wp2_with fail
        go_ret2
        exact sumRes_some HGL.out HQ2.out hbf
end Go.Proofs.YtmafjfhnejeogaaGreatDoor

/- Add of package num. -/
namespace Go.Proofs.YtmafjfhnejeogaaGreatDoor
open Go.RowKit

def plusV : Value := .func (.func 96) #[] #[]

theorem sure_any (w : World) :
    Calls Tryz.prog 95 #[plusV] w fun e w' => e = .returned (.func (.func 150) #[] #[.pointer (some ⟨w.heap.size, 0, none⟩)]) ∧ Blk w' w.heap.size 151 #[plusV] ∧ Below w.heap.size w w' := by
  have hbk := Blk.new w 151 #[plusV]
  have HBK := Lib.hid hbk
  clear hbk
  unfold plusV at *
  go_enter Tryz.func95, Tryz.ntmps95
  go_wp2
  go_ret
  exact ⟨rfl, HBK.out, (Below.refl _ _).alloc (Nat.le_refl _) _⟩

def PairRes (s : Bool) (n d : Nat) (w : World) (e : Ending) (w' : World) : Prop := (∃ v, e = .returned (.tuple #[v, .int .i64 0]) ∧ ValV w' v s n d false 0 1) ∧ Below w.heap.size w w'

set_option maxRecDepth 100000 in
set_option maxHeartbeats 1000000 in
theorem sure1_any (v1 v2 : Value) (s1 : Bool) (n1 d1 : Nat) (s2 : Bool) (n2 d2 : Nat) (B : Nat) (w : World) (hB : Blk w B 151 #[plusV]) (h1 : ValV w v1 s1 n1 d1 false 0 1) (h2 : ValV w v2 s2 n2 d2 false 0 1) (hd1 : d1 ≠ 0) (hd2 : d2 ≠ 0)
    (l1 : (dig n1).length ≤ 1000000000) (l2 : (dig d1).length ≤ 1000000000) (l3 : (dig n2).length ≤ 1000000000) (l4 : (dig d2).length ≤ 1000000000) :
    Calls Tryz.prog 150 #[v1, v2, .pointer (some ⟨B, 0, none⟩)] w (PairRes (rpS s1 n1 d1 s2 n2 d2) (rpN s1 n1 d1 s2 n2 d2) (rpD s1 n1 d1 s2 n2 d2) w) := by
  have H1 := Lib.hid h1; have H2 := Lib.hid h2
  obtain ⟨a1, c1, a2, c2, a3, c3, a4, c4, rfl, _, _, _, _⟩ := h1.slices
  obtain ⟨b1, e1, b2, e2, b3, e3, b4, e4, rfl, _, _, _, _⟩ := h2.slices
  have HPL : Hid (∀ W, Below w.heap.size w W → Calls Tryz.prog 96 #[.agg #[.bool s1, .slice a1 (dig n1).length c1, .slice a2 (dig d1).length c2, .bool false, .slice a3 (dig 0).length c3, .slice a4 (dig 1).length c4], .agg #[.bool s2, .slice b1 (dig n2).length e1, .slice b2 (dig d2).length e2, .bool false, .slice b3 (dig 0).length e3, .slice b4 (dig 1).length e4]] W (ValRes (rpS s1 n1 d1 s2 n2 d2) (rpN s1 n1 d1 s2 n2 d2) (rpD s1 n1 d1 s2 n2 d2) W)) := fun W hb => valPlus_any _ _ s1 n1 d1 s2 n2 d2 W (H1.out.below hb (Nat.le_refl _)) (H2.out.below hb (Nat.le_refl _)) hd1 hd2 l1 l2 l3 l4
  generalize rpS s1 n1 d1 s2 n2 d2 = ps at *
  generalize rpN s1 n1 d1 s2 n2 d2 = pn at *
  generalize rpD s1 n1 d1 s2 n2 d2 = pd at *
  have hlt := hB.lt
  have c0 : w.cell? ⟨B, 0, none⟩ = some plusV := hB.cell 0
  unfold plusV at c0
  have n1' : ¬ B = w.heap.size := by omega
  have n2' : ¬ B = w.heap.size + 1 := by omega
  have n3' : ¬ B = w.heap.size + 1 + 1 := by omega
  have h3 : Below w.heap.size w (((w.alloc (.cells #[.bool s1, .slice a1 (dig n1).length c1, .slice a2 (dig d1).length c2, .bool false, .slice a3 (dig 0).length c3, .slice a4 (dig 1).length c4] 145)).alloc (.cells #[.bool s2, .slice b1 (dig n2).length e1, .slice b2 (dig d2).length e2, .bool false, .slice b3 (dig 0).length e3, .slice b4 (dig 1).length e4] 145)).alloc (.cells #[.bool false, .slice none 0 0, .slice none 0 0, .bool false, .slice none 0 0, .slice none 0 0] 145)) := (((Below.refl w.heap.size w).alloc (Nat.le_refl _) _).alloc (by simp) _).alloc (by simp; omega) _
  have cz : (((w.alloc (.cells #[.bool s1, .slice a1 (dig n1).length c1, .slice a2 (dig d1).length c2, .bool false, .slice a3 (dig 0).length c3, .slice a4 (dig 1).length c4] 145)).alloc (.cells #[.bool s2, .slice b1 (dig n2).length e1, .slice b2 (dig d2).length e2, .bool false, .slice b3 (dig 0).length e3, .slice b4 (dig 1).length e4] 145)).alloc (.cells #[.bool false, .slice none 0 0, .slice none 0 0, .bool false, .slice none 0 0, .slice none 0 0] 145)).cell? ⟨B, 0, none⟩ = some (.func (.func 96) #[] #[]) := cell_keep c0 h3 (Nat.le_refl _)
  clear h1 h2 hB
  go_enter Tryz.func150, Tryz.ntmps150
  go_wp2_with fail
  refine (HPL.out _ h3).mono ?_
  rintro e w5 ⟨⟨v5, rfl, hv5⟩, hb5⟩
  have hbx := h3.trans (hb5.mono h3.size)
  obtain ⟨-, -, q, f⟩ := boxes3 hb5 (by simp)
  have z0 := q 0
  have z1 := q 1
  have z2 := q 2
  have z3 := q 3
  have z4 := q 4
  have z5 := q 5
  simp only [List.getElem?_toArray, List.getElem?_cons_succ, List.getElem?_cons_zero] at z0 z1 z2 z3 z4 z5
  have f0 := f 0
  have f1 := f 1
  have f2 := f 2
  have f3 := f 3
  have f4 := f 4
  have f5 := f 5
  obtain ⟨g1, i1, g2, i2, g3, i3, g4, i4, rfl, m1, m2, m3, m4⟩ := hv5.slices
  have HM1 := Lib.hid m1; have HM2 := Lib.hid m2; have HM3 := Lib.hid m3; have HM4 := Lib.hid m4
  clear m1 m2 m3 m4 hv5 hb5 q f h3 c0 cz n1' n2' n3'
  have hle : w.heap.size ≤ w.heap.size + 1 + 1 := by omega
  go_wp2_with fail
  refine bodyPost_ret (v := .tuple #[.agg #[.bool ps, .slice g1 (dig pn).length i1, .slice g2 (dig pd).length i2, .bool false, .slice g3 (dig 0).length i3, .slice g4 (dig 1).length i4], .int .i64 0]) (by simp [results, Tryz.results150, go_sem, z0, z1, z2, z3, z4, z5]) rfl ?_
  exact ⟨⟨_, rfl, _, _, _, _, rfl, HM1.out.box6 z0 z1 z2 z3 z4 z5 trivial trivial trivial trivial trivial trivial, HM2.out.box6 z0 z1 z2 z3 z4 z5 trivial trivial trivial trivial trivial trivial, HM3.out.box6 z0 z1 z2 z3 z4 z5 trivial trivial trivial trivial trivial trivial, HM4.out.box6 z0 z1 z2 z3 z4 z5 trivial trivial trivial trivial trivial trivial⟩, (((((hbx.setCell hle _).setCell hle _).setCell hle _).setCell hle _).setCell hle _).setCell hle _⟩

set_option maxRecDepth 100000 in
set_option maxHeartbeats 1000000 in
theorem add_own (a b : ByteArray) (s1 : Bool) (n1 d1 : Nat) (s2 : Bool) (n2 d2 : Nat) (w : World) (ht : Tab w) (h1 : getR a = some (s1, n1, d1)) (h2 : getR b = some (s2, n2, d2)) (ha : a.size ≤ 1099511627776) (hb : b.size ≤ 1099511627776) (hia : Lib.hasSuffix a.data.toList [105] = false) (hib : Lib.hasSuffix b.data.toList [105] = false) :
    Calls Tryz.prog 41 #[.string a, .string b] w fun e w' => e = .returned (.tuple #[.string (putT (rpS s1 n1 d1 s2 n2 d2) (rpN s1 n1 d1 s2 n2 d2) (rpD s1 n1 d1 s2 n2 d2)), .int .i64 (putE (rpN s1 n1 d1 s2 n2 d2) (rpD s1 n1 d1 s2 n2 d2))]) ∧ Below w.heap.size w w' := by
  obtain ⟨x1, x2, x3⟩ := getR_short h1
  obtain ⟨y1, y2, y3⟩ := getR_short h2
  simp only at x1 x2 x3 y1 y2 y3
  have hga := fun W (h : Tab W) => get_noI a W h ha hia
  have hgb := fun W (h : Tab W) => get_noI b W h hb hib
  rw [h1] at hga
  rw [h2] at hgb
  have hbd := rp_bd (s1 := s1) (s2 := s2) x1 x2 y1 y2 x3 y3
  obtain ⟨z1, z2, z3⟩ := hbd
  have hs1 := fun v1 v2 B W hB h1 h2 => sure1_any v1 v2 s1 n1 d1 s2 n2 d2 B W hB h1 h2 x3 y3 (by omega) (by omega) (by omega) (by omega)
  generalize rpS s1 n1 d1 s2 n2 d2 = ps at *
  generalize rpN s1 n1 d1 s2 n2 d2 = pn at *
  generalize rpD s1 n1 d1 s2 n2 d2 = pd at *
  have hboth : ∀ (B : Nat) (W : World), Tab W → Blk W B 151 #[plusV] → Calls Tryz.prog 94 #[.string a, .string b, .func (.func 150) #[] #[.pointer (some ⟨B, 0, none⟩)]] W fun e w' => e = .returned (.tuple #[.string (putT ps pn pd), .int .i64 (putE pn pd)]) ∧ Below W.heap.size W w' := by
    intro B W hT hB
    have hput := fun v W h1 h2 => put_any v ps pn pd false W h1 h2 (by omega) (by omega) z3
    have HGA := Lib.hid hga; have HGB := Lib.hid hgb; have HS1 := Lib.hid hs1; have HT := Lib.hid hT; have HBK := Lib.hid hB; have HPUT := Lib.hid hput
    have hlt := hB.lt
    clear hga hgb hs1 hT hB hput ht h1 h2
    go_enter Tryz.func94, Tryz.ntmps94
    go_wp2_with fail
    refine (HGA.out W HT.out).mono ?_
    rintro e w1 ⟨hm1, hb1⟩
    obtain ⟨v1, rfl, hv1⟩ := hm1
    have HV1 := Lib.hid hv1
    obtain ⟨a1, c1, a2, c2, a3, c3, a4, c4, rfl, _, _, _, _⟩ := hv1.slices
    have hal1 := (Below.refl w1.heap.size w1).alloc (Nat.le_refl _) (.cells #[.bool s1, .slice a1 (dig n1).length c1, .slice a2 (dig d1).length c2, .bool false, .slice a3 (dig 0).length c3, .slice a4 (dig 1).length c4] 145)
    clear hv1
    go_wp2_with fail
    refine (HGB.out _ (HT.out.below (hb1.trans (hal1.mono hb1.size)) (Nat.le_refl _))).mono ?_
    rintro e w2 ⟨hm2, hb2⟩
    obtain ⟨v2, rfl, hv2⟩ := hm2
    have HV2 := Lib.hid hv2
    obtain ⟨b1, e1, b2, e2, b3, e3, b4, e4, rfl, _, _, _, _⟩ := hv2.slices
    have h12 : Below w1.heap.size w1 w2 := hal1.trans (hb2.mono hal1.size)
    have hbx := hb1.trans (h12.mono hb1.size)
    have p0 : w2.cell? ⟨w1.heap.size, 0, none⟩ = some (.bool s1) := box_keep hb2 (by simp) 0
    have p1 : w2.cell? ⟨w1.heap.size, 1, none⟩ = some (.slice a1 (dig n1).length c1) := box_keep hb2 (by simp) 1
    have p2 : w2.cell? ⟨w1.heap.size, 2, none⟩ = some (.slice a2 (dig d1).length c2) := box_keep hb2 (by simp) 2
    have p3 : w2.cell? ⟨w1.heap.size, 3, none⟩ = some (.bool false) := box_keep hb2 (by simp) 3
    have p4 : w2.cell? ⟨w1.heap.size, 4, none⟩ = some (.slice a3 (dig 0).length c3) := box_keep hb2 (by simp) 4
    have p5 : w2.cell? ⟨w1.heap.size, 5, none⟩ = some (.slice a4 (dig 1).length c4) := box_keep hb2 (by simp) 5
    have hl1 : w1.heap.size < w2.heap.size := by have := hb2.size; simp at this; omega
    have n1' : ¬ w1.heap.size = w2.heap.size := by omega
    have hal2 := (Below.refl w2.heap.size w2).alloc (Nat.le_refl _) (.cells #[.bool s2, .slice b1 (dig n2).length e1, .slice b2 (dig d2).length e2, .bool false, .slice b3 (dig 0).length e3, .slice b4 (dig 1).length e4] 145)
    have hbk3 := HBK.out.below (hbx.trans (hal2.mono hbx.size)) hlt
    have HA2 := Lib.hid hal2; have HBX := Lib.hid hbx; have HB3 := Lib.hid hbk3; have H12 := Lib.hid h12
    clear hv2 hb1 hb2 hal1 hal2 hbx hbk3 h12
    go_wp2_with fail
    clear p0 p1 p2 p3 p4 p5 n1'
    refine (HS1.out _ _ B _ HB3.out ((HV1.out.below H12.out (Nat.le_refl _)).below HA2.out (Nat.le_refl _)) (HV2.out.below HA2.out (Nat.le_refl _))).mono ?_
    rintro e w3 ⟨⟨v3, rfl, hv3⟩, hb3⟩
    have h23 : Below w2.heap.size w2 w3 := HA2.out.trans (hb3.mono HA2.out.size)
    have HB23 := Lib.hid (HBX.out.trans (h23.mono HBX.out.size))
    have HV3 := Lib.hid hv3
    obtain ⟨g1, i1, g2, i2, g3, i3, g4, i4, rfl, _, _, _, _⟩ := hv3.slices
    clear hv3 hb3 h23
    have hsz3 := HB23.out.size
    go_wp2_with fail
    refine (HPUT.out _ _ (HV3.out.below ((Below.refl _ _).alloc (Nat.le_refl _) _) (Nat.le_refl _)) (HT.out.below (HB23.out.alloc hsz3 _) (Nat.le_refl _))).mono ?_
    rintro e w4 ⟨rfl, hb4⟩
    have hbf := (HB23.out.alloc hsz3 _).trans (hb4.mono (by simp; omega))
    clear hb4
    go_wp2_with fail
    go_ret2
    exact ⟨rfl, hbf⟩
  have HBO := Lib.hid hboth; have HT := Lib.hid ht
  clear hboth ht h1 h2 hga hgb hs1
  have hsu := sure_any w
  have HSU := Lib.hid hsu
  unfold plusV at HSU
  clear hsu
  go_enter Tryz.func41, Tryz.ntmps41
  go_wp2_with fail
  refine HSU.out.mono ?_
  rintro e w1 ⟨rfl, hbk, hb1⟩
  have HBK := Lib.hid hbk
  clear hbk
  go_wp2_with fail
  refine (HBO.out _ _ (HT.out.below hb1 (Nat.le_refl _)) HBK.out).mono ?_
  rintro e w2 ⟨rfl, hb2⟩
  go_wp2_with fail
  go_ret2
  exact ⟨rfl, hb1.trans (hb2.mono hb1.size)⟩
end Go.Proofs.YtmafjfhnejeogaaGreatDoor

/- Codes: check, folded, residues. -/
namespace Go.Proofs.YtmafjfhnejeogaaGreatDoor
open Go.RowKit

/-- bytes, cell by cell -/
def bys (l : List Nat) : List Value := l.map fun d => Value.int .u8 (d : Nat)
theorem bys_length (l : List Nat) : (bys l).length = l.length := by simp [bys]
theorem bys_append (a b : List Nat) : bys (a ++ b) = bys a ++ bys b := by simp [bys]
theorem bys_get {l : List Nat} {i d : Nat} (h : l[i]? = some d) : (bys l)[i]? = some (.int .u8 (d : Nat)) := by simp [bys, h]
theorem bys_ne {l : List Nat} (h : 0 < l.length) : bys l ≠ [] := by
  intro e; have := bys_length l; rw [e] at this; simp at this; omega

def chkL (l : List Nat) : Nat := l.foldl (fun n b => (n * 257 + b + 1) % 16777213) 0
theorem chkL_snoc (l : List Nat) (b : Nat) : chkL (l ++ [b]) = (chkL l * 257 + b + 1) % 16777213 := by simp [chkL]
theorem chkL_lt (l : List Nat) : chkL l < 16777213 := by
  rcases List.eq_nil_or_concat l with rfl | ⟨l', b, rfl⟩
  · decide
  · rw [List.concat_eq_append, chkL_snoc]; exact Nat.mod_lt _ (by decide)

theorem check_any (ao : Option Addr) (l : List Nat) (cap : Nat) (w : World) (hc : Cells w ao (bys l)) (hb : ∀ d ∈ l, d < 256) (hl : l.length ≤ 9223372036854775807) :
    Calls Tryz.prog 180 #[.slice ao l.length cap] w fun e w' => e = .returned (.int .i64 (chkL l : Nat)) ∧ w = w' := by
  have HC := Lib.hid hc; have HB := Lib.hid hb; clear hc hb
  go_enter Tryz.func180, Tryz.ntmps180
  go_wp2
  go_loop [3, 8] (fun n i => ∃ k : Nat, k ≤ l.length ∧ i = .int .i64 k ∧ n = .int .i64 (chkL (l.take k) : Nat)) (fun _ i => l.length - (intOf i).toNat)
  case atStart => exact ⟨0, Nat.zero_le _, rfl, rfl⟩
  case round =>
    obtain ⟨k, hk, rfl, rfl⟩ := hrel
    have hlt1 := chkL_lt (l.take k)
    by_cases hlt : k < l.length
    · obtain ⟨x, hx⟩ := get_of_lt hlt
      obtain ⟨b, off, rfl⟩ := HC.out.addr (bys_ne (by omega))
      have hcell := HC.out.at (bys_get hx)
      have hx2 := HB.out x (List.mem_of_getElem? hx)
      have hs : chkL (l.take (k + 1)) = (chkL (l.take k) * 257 + x + 1) % 16777213 := by rw [take_get hx, chkL_snoc]
      have HS := Lib.hid hs; clear hs hx
      generalize chkL (l.take k) = n at *
      go_wp2
      go_round
      case rel => exact ⟨k + 1, by omega, by go_num, by rw [HS.out]; simp⟩
      case measure => simp [intOf]; omega
    · obtain rfl : k = l.length := by omega
      go_wp2
      go_ret
      exact ⟨ret_int (by simp), rfl⟩

def foldU (r : Int) : Int := if r < 0 then -2 * r - 1 else 2 * r
theorem folded_any (r : Int) (w : World) (h1 : -1099511627776 ≤ r) (h2 : r ≤ 1099511627776) :
    Calls Tryz.prog 218 #[.int .i64 r] w fun e w' => e = .returned (.int .i64 (foldU r)) ∧ w = w' := by
  by_cases h : r < 0
  · go_enter Tryz.func218, Tryz.ntmps218
    go_wp2
    go_ret
    exact ⟨ret_int (by rw [foldU, if_pos h]), rfl⟩
  · go_enter Tryz.func218, Tryz.ntmps218
    go_wp2
    go_ret
    exact ⟨ret_int (by rw [foldU, if_neg (by omega)]), rfl⟩

/-- the differences of neighbours -/
def diffs (xs : List Int) : List Int := (List.range xs.length).map fun i => if i = 0 then xs.getD 0 0 else xs.getD i 0 - xs.getD (i - 1) 0
def resid (xs : List Int) : Nat → List Int
  | 0 => xs
  | o + 1 => diffs (resid xs o)
theorem diffs_length (xs : List Int) : (diffs xs).length = xs.length := by simp [diffs]
theorem resid_length (xs : List Int) (o : Nat) : (resid xs o).length = xs.length := by
  induction o with
  | zero => rfl
  | succ o ih => simp [resid, diffs_length, ih]
theorem diffs_get {xs : List Int} {i : Nat} (h : i < xs.length) : (diffs xs)[i]? = some (if i = 0 then xs.getD 0 0 else xs.getD i 0 - xs.getD (i - 1) 0) := by
  simp [diffs, h]

/-- a round of the differences, from the end -/
theorem diff_step {xs : List Int} {k : Nat} (h0 : 0 < k) (hk : k < xs.length) :
    (xs.take (k + 1) ++ (diffs xs).drop (k + 1)).set k (xs.getD k 0 - xs.getD (k - 1) 0) = xs.take k ++ (diffs xs).drop k := by
  rw [List.take_add_one, List.getElem?_eq_getElem hk, Option.toList_some, List.append_assoc, List.set_append_right _ _ (by rw [List.length_take]; omega)]
  have hl : (xs.take k).length = k := by rw [List.length_take]; omega
  rw [hl, Nat.sub_self]
  have hd : k < (diffs xs).length := by rw [diffs_length]; exact hk
  have := diffs_get hk
  rw [if_neg (by omega)] at this
  rw [List.drop_eq_getElem_cons hd, (List.getElem?_eq_some_iff.1 this).2]
  simp
theorem diff_end {xs : List Int} (h : 0 < xs.length) : xs.take 1 ++ (diffs xs).drop 1 = diffs xs := by
  have hd : 0 < (diffs xs).length := by rw [diffs_length]; exact h
  have := diffs_get h
  rw [if_pos rfl] at this
  have e : (diffs xs) = (diffs xs)[0] :: (diffs xs).drop 1 := by
    have := List.drop_eq_getElem_cons hd
    rwa [List.drop_zero] at this
  have e2 : (diffs xs)[0] = xs.getD 0 0 := (List.getElem?_eq_some_iff.1 this).2
  rw [e2] at e
  conv => rhs; rw [e]
  rw [show xs.take 1 = [xs.getD 0 0] from by
    match xs, h with
    | x :: t, _ => simp]
  rfl

theorem diffs_bd {xs : List Int} {M : Int} (hM : 0 ≤ M) (h : ∀ x ∈ xs, -M ≤ x ∧ x ≤ M) : ∀ x ∈ diffs xs, -(2 * M) ≤ x ∧ x ≤ 2 * M := by
  have hg : ∀ i, -M ≤ xs.getD i 0 ∧ xs.getD i 0 ≤ M := by
    intro i
    rw [List.getD_eq_getElem?_getD]
    cases hx : xs[i]? with
    | none => simp; omega
    | some x => exact h x (List.mem_of_getElem? hx)
  intro x hx
  simp only [diffs, List.mem_map, List.mem_range] at hx
  obtain ⟨i, _, rfl⟩ := hx
  have h1 := hg 0; have h2 := hg i; have h3 := hg (i - 1)
  split <;> omega
theorem resid_bd {xs : List Int} (h : ∀ x ∈ xs, -8388608 ≤ x ∧ x ≤ 8388608) (o : Nat) (ho : o ≤ 3) : ∀ x ∈ resid xs o, -67108864 ≤ x ∧ x ≤ 67108864 := by
  match o, ho with
  | 0, _ => intro x hx; have := h x hx; omega
  | 1, _ => intro x hx; have := diffs_bd (M := 8388608) (by omega) h x hx; omega
  | 2, _ => intro x hx; have := diffs_bd (M := 16777216) (by omega) (diffs_bd (M := 8388608) (by omega) h) x hx; omega
  | 3, _ => intro x hx; have := diffs_bd (M := 33554432) (by omega) (diffs_bd (M := 16777216) (by omega) (diffs_bd (M := 8388608) (by omega) h)) x hx; omega

theorem clone_any (ao : Option Addr) (xs : List Int) (cap : Nat) (w : World) (hc : Cells w ao (xs.map (Value.int .i64))) (hl : xs.length * 8 ≤ 140737488355328) :
    Calls Tryz.prog 126 #[.slice ao xs.length cap] w fun e w' => (∃ v, e = .returned v ∧ w'.ownsRow w.heap.size 3 1 v xs.length (xs.map (Value.int .i64))) ∧ Below w.heap.size w w' := by
  by_cases h0 : xs = []
  · subst h0
    cases ao with
    | none =>
      refine (Tryz.slices_Clone_int_nil 0 cap w).mono ?_
      rintro e w' ⟨rfl, rfl⟩
      exact ⟨⟨_, rfl, World.ownsRow_nil _ _ _ _⟩, Below.refl _ _⟩
    | some a =>
      refine (Tryz.slices_Clone_int_zero a cap w).mono ?_
      rintro e w' ⟨v, rfl, ho, _, hb⟩
      exact ⟨⟨_, rfl, ho⟩, hb⟩
  · obtain ⟨b, off, rfl⟩ := hc.addr (by simpa using h0)
    refine (Tryz.slices_Clone_int b off xs.length cap xs w (Nat.le_refl _) hl (fun j hj => ?_)).mono ?_
    · obtain ⟨x, hx⟩ := get_of_lt hj
      rw [List.getD_eq_getElem?_getD, hx]
      exact hc.int hx
    · rintro e w' ⟨v, rfl, ho, _, hb⟩
      rw [List.take_length] at ho
      exact ⟨⟨_, rfl, ho⟩, hb⟩
end Go.Proofs.YtmafjfhnejeogaaGreatDoor

/- Codes: residues. -/
namespace Go.Proofs.YtmafjfhnejeogaaGreatDoor
open Go.RowKit

set_option maxRecDepth 100000 in
set_option maxHeartbeats 1000000 in
theorem residues_any (ao : Option Addr) (xs : List Int) (cap : Nat) (o : Nat) (w : World) (hc : Cells w ao (xs.map (Value.int .i64))) (hl : xs.length ≤ 4096) (ho : o ≤ 3) (hx : ∀ x ∈ xs, -8388608 ≤ x ∧ x ≤ 8388608) :
    Calls Tryz.prog 179 #[.slice ao xs.length cap, .int .i64 (o : Nat)] w fun e w' => (∃ a c, e = .returned (.slice a (resid xs o).length c) ∧ Cells w' a ((resid xs o).map (Value.int .i64)) ∧ ∀ b off, a = some ⟨b, off, none⟩ → w.heap.size ≤ b) ∧ Below w.heap.size w w' := by
  have HC := Lib.hid hc; have HX := Lib.hid hx; clear hc hx
  go_enter Tryz.func179, Tryz.ntmps179
  go_wp2_with fail
  refine (clone_any ao xs cap w HC.out (by omega)).mono ?_
  rintro e w1 ⟨⟨v, rfl, hown⟩, hb1⟩
  obtain ⟨g, cg, hv⟩ : ∃ g cg, v = .slice g xs.length cg := by
    obtain ⟨a, c, h, _⟩ := own_cells hown; exact ⟨a, c, h⟩
  subst hv
  have HO := Lib.hid hown; clear hown
  go_wp2
  go_loopw [10] (fun i wr => ∃ k : Nat, k ≤ o ∧ i = .int .i64 k ∧ wr.ownsRow w.heap.size 3 1 (.slice g xs.length cg) xs.length ((resid xs k).map (Value.int .i64)) ∧ Below w.heap.size w wr) (fun i _ => o - (intOf i).toNat)
  case atStart => exact ⟨0, Nat.zero_le _, rfl, HO.out, hb1⟩
  case round =>
    clear hb1
    obtain ⟨k, hk, rfl, hown, hb⟩ := hrel
    obtain ⟨wo, rfl⟩ : ∃ wo : World, wo = wr := ⟨_, rfl⟩
    have HO2 := Lib.hid hown; clear hown
    by_cases hlt : k < o
    · have hrl := resid_length xs k
      have hrb := resid_bd HX.out k (by omega)
      generalize hys : resid xs k = ys at *
      have HYS : Hid (resid xs (k + 1) = diffs ys) := by rw [← hys]; rfl
      clear hys
      have HYB := Lib.hid hrb; clear hrb
      have hrl2 : xs.length = ys.length := hrl.symm
      have hyl : ys.length ≤ 4096 := by omega
      clear hl
      generalize xs.length = n at *
      subst hrl2
      clear hrl
      go_wp2
      go_loopw [6] (fun i wi => ∃ j : Nat, j ≤ ys.length ∧ (j = 0 → ys.length = 0) ∧ i = .int .i64 ((j : Int) - 1) ∧ wi.ownsRow w.heap.size 3 1 (.slice g ys.length cg) ys.length ((ys.take j ++ (diffs ys).drop j).map (Value.int .i64)) ∧ Below w.heap.size w wi) (fun i _ => (intOf i + 1).toNat)
      case atStart =>
        refine ⟨ys.length, Nat.le_refl _, fun h => h, rfl, ?_, hb⟩
        rw [List.take_length, List.drop_eq_nil_of_le (by rw [diffs_length]; omega), List.append_nil]
        exact HO2.out
      case round =>
        clear hb
        obtain ⟨j, hj, hj0, rfl, hown, hb⟩ := hrel
        by_cases h1 : 1 < j
        · obtain ⟨q, rfl⟩ : ∃ q, j = q + 2 := ⟨j - 2, by omega⟩
          have e1 : (((q + 2 : Nat) : Int) - 1) = ((q + 1 : Nat) : Int) := by omega
          rw [e1]
          obtain ⟨x, hx⟩ := get_of_lt (show q + 1 < ys.length by omega)
          obtain ⟨y, hy⟩ := get_of_lt (show q < ys.length by omega)
          have hst := diff_step (xs := ys) (k := q + 1) (by omega) (by omega)
          have hxg : ys.getD (q + 1) 0 = x := by rw [List.getD_eq_getElem?_getD, hx]; rfl
          have hyg : ys.getD (q + 1 - 1) 0 = y := by rw [Nat.add_sub_cancel, List.getD_eq_getElem?_getD, hy]; rfl
          rw [hxg, hyg] at hst
          have bx := HYB.out x (List.mem_of_getElem? hx)
          have bY := HYB.out y (List.mem_of_getElem? hy)
          obtain ⟨bx1, bx2⟩ := bx
          obtain ⟨by1, by2⟩ := bY
          obtain ⟨a, c, hv, hcs⟩ := own_cells hown
          simp only [Value.slice.injEq, true_and] at hv
          obtain ⟨rfl, rfl⟩ := hv
          obtain ⟨gb, go, rfl⟩ := hcs.addr (List.ne_nil_of_length_pos (by rw [List.length_map, List.length_append, List.length_take]; omega))
          have hg0 : go = 0 := by
            rcases hown.2 with ⟨h, _⟩ | ⟨_, _, _, h, _⟩
            · simp at h
            · simp at h; exact h.1.2
          subst hg0
          have hlx : (ys.take (q + 2)).length = q + 2 := by rw [List.length_take]; omega
          have c1 : wr.cell? ⟨gb, q + 1, none⟩ = some (.int .i64 x) := by
            rw [hown.cellAt (q + 1) (by omega), List.getElem?_map, List.getElem?_append_left (by rw [hlx]; omega), List.getElem?_take, if_pos (by omega), hx]; rfl
          have c2 : wr.cell? ⟨gb, q, none⟩ = some (.int .i64 y) := by
            rw [hown.cellAt q (by omega), List.getElem?_map, List.getElem?_append_left (by rw [hlx]; omega), List.getElem?_take, if_pos (by omega), hy]; rfl
          have f1 := hown.frozenAt (q + 1)
          have hsto := (hown.stored (q + 1) (.int .i64 (x - y))).1
          rw [← List.map_set, hst] at hsto
          have hgb : w.heap.size ≤ gb := (hown.lt gb rfl).1
          have hb2 : Below w.heap.size w (wr.setCell ⟨gb, q + 1, none⟩ (.int .i64 (x - y))) := hb.setCell hgb _
          have HST := Lib.hid hsto; have HB2 := Lib.hid hb2
          clear hsto hb2 hst hxg hyg hx hy hcs hown e1 hj0 hlx
          have i1 : (q : Int) + 1 < ys.length := by omega
          have i2 : (q : Int) < ys.length := by omega
          have i3 : (0 : Int) ≤ q := by omega
          have i4 : (0 : Int) ≤ (q : Int) + 1 := by omega
          have i5 : (q : Int) + 1 = ((q + 1 : Nat) : Int) := by omega
          have I5 := Lib.hid i5; clear i5
          have q1 : IntKind.i64.wrap (((q + 1 : Nat) : Int) - 1) = (q : Int) := by rw [IntWalk.i64_in _ (by omega)]; omega
          have q6 : IntKind.i64.wrap (q : Int) = (q : Int) := IntWalk.i64_in _ (by omega)
          have q2 : IntKind.i64.wrap (x - y) = x - y := IntWalk.i64_in _ (by omega)
          have q5 : IntKind.i64.wrap ((q : Int) + 1 - 1) = (q : Int) := by rw [IntWalk.i64_in _ (by omega)]; omega
          have q3 : (((q : Int) + 1)).toNat = q + 1 := by omega
          go_wp2
          go_still_tail 11, (by kernel_rfl)
          change wpList _ _ _ _ _ wr.drew
          have c1d : wr.drew.cell? ⟨gb, q + 1, none⟩ = some (.int .i64 x) := c1
          have f1d : wr.drew.frozen? ⟨gb, q + 1, none⟩ = false := f1
          have HSTd : Hid ((wr.drew.setCell ⟨gb, q + 1, none⟩ (.int .i64 (x - y))).ownsRow w.heap.size 3 1 (.slice (some ⟨gb, 0, none⟩) ys.length cg) ys.length ((ys.take (q + 1) ++ (diffs ys).drop (q + 1)).map (Value.int .i64))) := HST.out
          have HB2d : Hid (Below w.heap.size w (wr.drew.setCell ⟨gb, q + 1, none⟩ (.int .i64 (x - y)))) := by
            have h := HB2.out
            exact ⟨h.os, h.tape, h.output, h.size, h.block⟩
          clear HST HB2 c1 c2 f1 q1 q2 q5 q6 q3
          generalize wr.drew = wd at *
          go_wp2
          go_roundw
          case rel => exact ⟨q + 1, by omega, by omega, by go_num, HSTd.out, HB2d.out⟩
          case measure => simp [intOf]; omega
        · have hfin : wr.ownsRow w.heap.size 3 1 (.slice g ys.length cg) ys.length ((diffs ys).map (Value.int .i64)) := by
            by_cases hj1 : j = 1
            · subst hj1; rw [diff_end (by omega)] at hown; exact hown
            · obtain rfl : j = 0 := by omega
              have h0 := hj0 rfl
              have e0 : ys = [] := List.length_eq_zero_iff.1 h0
              subst e0
              simpa [diffs] using hown
          have HF := Lib.hid hfin; clear hfin hown hj0
          have hle : ((j : Int) - 1) ≤ 0 := by omega
          go_wp2
          go_roundw
          case rel => exact ⟨k + 1, by omega, by go_num, by rw [HYS.out]; exact HF.out, hb⟩
          case measure => simp [intOf]; omega
    · obtain rfl : k = o := by omega
      obtain ⟨a, c, hv, hcs⟩ := own_cells HO2.out
      simp only [Value.slice.injEq, true_and] at hv
      obtain ⟨rfl, rfl⟩ := hv
      have HCS := Lib.hid hcs; clear hcs
      have hrl := resid_length xs k
      have HRL := Lib.hid hrl; clear hrl
      go_wp2
      go_ret
      exact ⟨⟨_, _, by rw [HRL.out]; rfl, HCS.out, fun b off h => (HO2.out.lt b (by rw [h]; rfl)).1⟩, hb⟩
end Go.Proofs.YtmafjfhnejeogaaGreatDoor

/- Codes: sinks; way.write over whatever sink. -/
namespace Go.Proofs.YtmafjfhnejeogaaGreatDoor
open Go.RowKit

/-- the lowest k bits of n, the highest one first -/
def binL (n : Int) : Nat → List Nat
  | 0 => []
  | k + 1 => (n / 2 ^ k % 2).toNat :: binL n k
theorem binL_length (n : Int) (k : Nat) : (binL n k).length = k := by
  induction k with
  | zero => rfl
  | succ k ih => simp [binL, ih]

/-- blocks in S, and those below B, are as they were -/
structure KeepS (S : Nat → Prop) (B : Nat) (w w' : World) : Prop where
  below : Below B w w'
  same : ∀ k, S k → w'.heap[k]? = w.heap[k]?
theorem KeepS.refl (S : Nat → Prop) (B : Nat) (w : World) : KeepS S B w w := ⟨Below.refl _ _, fun _ _ => rfl⟩
theorem KeepS.trans {S : Nat → Prop} {B : Nat} {a b c : World} (h : KeepS S B a b) (k : KeepS S B b c) : KeepS S B a c :=
  ⟨h.below.trans k.below, fun i hi => (k.same i hi).trans (h.same i hi)⟩
theorem KeepS.drew {S : Nat → Prop} {B : Nat} {a b : World} (h : KeepS S B a b) : KeepS S B a b.drew := ⟨h.below.drew, h.same⟩
theorem KeepS.mono {S S' : Nat → Prop} {B : Nat} {a b : World} (h : KeepS S B a b) (hs : ∀ k, S' k → S k) : KeepS S' B a b := ⟨h.below, fun k hk => h.same k (hs k hk)⟩
theorem KeepS.cell {S : Nat → Prop} {B : Nat} {w w' : World} (h : KeepS S B w w') {b i : Nat} {v : Value} (hb : S b) (hc : w.cell? ⟨b, i, none⟩ = some v) : w'.cell? ⟨b, i, none⟩ = some v := by
  rw [World.cell?_of_block (w := w) (a := ⟨b, i, none⟩) (h.same b hb)]; exact hc

/-- a sink of bits, by what it holds: 'St S w bs': bs has been put; the blocks of S are none of its own -/
structure SinkOK (T : TypeId) (pv : Value) (F : FuncId) (B : Nat) (St : (Nat → Prop) → World → List Nat → Prop) : Prop where
  alloc : ∀ S w bs o, St S w bs → St (fun k => S k ∨ k = w.heap.size) (w.alloc o) bs
  drew : ∀ S w bs, St S w bs → St S w.drew bs
  mono : ∀ (S S' : Nat → Prop) w bs, (∀ k, S' k → S k) → St S w bs → St S' w bs
  size : ∀ S w bs, St S w bs → B ≤ w.heap.size
  lt : ∀ (S : Nat → Prop) w bs k, St S w bs → S k → k < w.heap.size
  put : ∀ S w bs (n : Int) (k : Nat), St S w bs → 0 ≤ n → n ≤ 4294967295 → k ≤ 32 → bs.length ≤ 1099511627776 →
    Calls Tryz.prog F #[pv, .int .i64 n, .int .i64 (k : Nat)] w fun e w' => e = .returned (.tuple #[]) ∧ St S w' (bs ++ binL n k) ∧ KeepS S B w w'
  meth : ∀ w d, (method (d + 1) T pv "ringdown/record.put").run Tryz.prog w = .ok (F, pv) w
  ahead : ∀ w d, (nilAhead (d + 1) T pv "ringdown/record.put").run Tryz.prog w = .ok (some false) w
  enter : ∀ (vs : Array Value) (w : World), Sem.run Tryz.prog (callFunc F vs) w = .ok (.enter F vs) w

/-- the bits of a folded value; of a list -/
def encU (u : Int) (sh : Nat) : List Nat := if u / 2 ^ sh < 20 then binL (2 ^ ((u / 2 ^ sh).toNat + 1) - 2) ((u / 2 ^ sh).toNat + 1) ++ binL u sh else binL 1048575 20 ++ binL u 32
def encL (o sh : Nat) (l : List Int) : List Nat := binL o 2 ++ binL sh 5 ++ l.flatMap fun r => encU (foldU r) sh

theorem pow_bd (q : Nat) (h : q < 20) : (2 : Int) ≤ 2 ^ (q + 1) ∧ (2 : Int) ^ (q + 1) ≤ 1048576 := by
  have h1 : (2 : Nat) ^ 1 ≤ 2 ^ (q + 1) := Nat.pow_le_pow_right (by decide) (by omega)
  have h2 : (2 : Nat) ^ (q + 1) ≤ 2 ^ 20 := Nat.pow_le_pow_right (by decide) (by omega)
  have h3 : ((2 ^ (q + 1) : Nat) : Int) = (2 : Int) ^ (q + 1) := by simp
  have h4 : (2 : Nat) ^ 20 = 1048576 := by decide
  omega
theorem foldU_bd {r : Int} (h1 : -67108864 ≤ r) (h2 : r ≤ 67108864) : 0 ≤ foldU r ∧ foldU r ≤ 268435456 := by
  unfold foldU; split <;> omega
theorem encU_length (u : Int) (sh : Nat) (hs : sh ≤ 30) : (encU u sh).length ≤ 52 := by
  unfold encU
  split
  · rw [List.length_append, binL_length, binL_length]; omega
  · rw [List.length_append, binL_length, binL_length]; omega
theorem flat_length (l : List Int) (sh : Nat) (hs : sh ≤ 30) : (l.flatMap fun r => encU (foldU r) sh).length ≤ 52 * l.length := by
  induction l with
  | nil => simp
  | cons r l ih =>
    have := encU_length (foldU r) sh hs
    simp only [List.flatMap_cons, List.length_append, List.length_cons]; omega

set_option maxRecDepth 100000 in
set_option maxHeartbeats 1000000 in
theorem write_any {T : TypeId} {pv : Value} {F : FuncId} {B : Nat} {St : (Nat → Prop) → World → List Nat → Prop} (hk : SinkOK T pv F B St) (S : Nat → Prop) (o sh : Nat) (ho : o ≤ 3) (hsh : sh ≤ 30) (al : Option Addr) (l : List Int) (cl : Nat) (bs : List Nat) (w : World)
    (hst : St S w bs) (hl : ∀ b off, al = some ⟨b, off, none⟩ → l ≠ [] → S b) (hc : Cells w al (l.map (Value.int .i64))) (hlen : l.length ≤ 4096) (hbs : bs.length ≤ 1000000) (hr : ∀ r ∈ l, -67108864 ≤ r ∧ r ≤ 67108864) :
    Calls Tryz.prog 178 #[.agg #[.int .i64 (o : Nat), .int .i64 (sh : Nat)], .iface T pv, .slice al l.length cl] w fun e w' => e = .returned (.tuple #[]) ∧ St S w' (bs ++ encL o sh l) ∧ KeepS S B w w' := by
  have HK := Lib.hid hk; have HST := Lib.hid hst; have HC := Lib.hid hc; have HR := Lib.hid hr
  have hmeth := hk.meth
  have hen := hk.enter
  clear hk hst hc hr
  go_enter Tryz.func178, Tryz.ntmps178
  have hs1 := HK.out.alloc S w bs (.cells #[.int .i64 (o : Nat), .int .i64 (sh : Nat)] 234) HST.out
  have hsz0 := HK.out.size S w bs HST.out
  go_wp2_with fail
  refine (HK.out.put _ _ bs o 2 hs1 (by omega) (by omega) (by omega) (by omega)).mono ?_
  rintro e w1 ⟨rfl, hs2, hk1⟩
  have hbx : w1.cell? ⟨w.heap.size, 1, none⟩ = some (.int .i64 (sh : Nat)) := hk1.cell (.inr rfl) (by simp)
  have HS2 := Lib.hid hs2; clear hs1 hs2
  go_wp2_with fail
  refine (HK.out.put _ _ _ sh 5 HS2.out (by omega) (by omega) (by omega) (by rw [List.length_append, binL_length]; omega)).mono ?_
  rintro e w2 ⟨rfl, hs3, hk2⟩
  have hk3 := hk1.trans hk2
  have HS3 := Lib.hid hs3; clear hs3 hk1 hk2 hbx HS2
  go_wp2
  go_loopw [20] (fun i wr => ∃ k : Nat, k ≤ l.length ∧ i = .int .i64 k ∧ St (fun k => S k ∨ k = w.heap.size) wr (bs ++ binL o 2 ++ binL sh 5 ++ (l.take k).flatMap fun r => encU (foldU r) sh) ∧ KeepS (fun k => S k ∨ k = w.heap.size) B (w.alloc (.cells #[.int .i64 (o : Nat), .int .i64 (sh : Nat)] 234)) wr) (fun i _ => l.length - (intOf i).toNat)
  case atStart => exact ⟨0, Nat.zero_le _, rfl, by simpa using HS3.out, hk3⟩
  case round =>
    clear hk3 HS3
    obtain ⟨k, hk, rfl, hst, hks⟩ := hrel
    have hbx : wr.cell? ⟨w.heap.size, 1, none⟩ = some (.int .i64 (sh : Nat)) := hks.cell (.inr rfl) (by simp)
    have hfl := flat_length (l.take k) sh hsh
    rw [List.length_take, Nat.min_eq_left hk] at hfl
    by_cases hlt : k < l.length
    · obtain ⟨r, hx⟩ := get_of_lt hlt
      obtain ⟨r1, r2⟩ := HR.out r (List.mem_of_getElem? hx)
      have hne : l ≠ [] := by intro h; rw [h] at hlt; simp at hlt
      obtain ⟨bl, ol, rfl⟩ := HC.out.addr (by intro h; exact hne (List.map_eq_nil_iff.1 h))
      have hSb : S bl := hl bl ol rfl hne
      clear hl hne
      have hc1 : wr.cell? ⟨bl, ol + k, none⟩ = some (.int .i64 r) := hks.cell (.inl hSb) (by
        have h0 := HC.out.int hx
        have h1 := World.block_lt_of_cell? w _ h0
        rw [World.cell?_alloc_lt _ _ _ (by simpa using h1)]; exact h0)
      obtain ⟨u1, u2⟩ := foldU_bd r1 r2
      have hq0 : 0 ≤ foldU r / 2 ^ sh := Int.ediv_nonneg u1 (Int.le_of_lt (Int.pow_pos (by decide)))
      obtain ⟨qn, hqn⟩ := Int.eq_ofNat_of_zero_le hq0
      have ht : (l.take (k + 1)).flatMap (fun r => encU (foldU r) sh) = (l.take k).flatMap (fun r => encU (foldU r) sh) ++ encU (foldU r) sh := by
        rw [take_get hx, List.flatMap_append]; simp
      have HT := Lib.hid ht; have HS := Lib.hid hst
      clear ht hst hx hq0
      have hmin : min sh 64 = sh := by omega
      by_cases hq : foldU r / 2 ^ sh < 20
      · have hqn2 : qn < 20 := by omega
        have he : encU (foldU r) sh = binL (2 ^ (qn + 1) - 2) (qn + 1) ++ binL (foldU r) sh := by
          rw [encU, if_pos hq, hqn]; rfl
        have HE := Lib.hid he; clear he hq
        go_wp2_with fail
        refine (folded_any _ _ (by omega) (by omega)).mono ?_
        rintro e w1 ⟨rfl, rfl⟩
        obtain ⟨p1, p2⟩ := pow_bd qn hqn2
        have a1 : IntKind.i64.wrap ((qn : Int) + 1) = (qn : Int) + 1 := IntWalk.i64_in _ (by omega)
        have a2 : ((qn : Int) + 1).toNat = qn + 1 := by omega
        have a3 : min (qn + 1) 64 = qn + 1 := by omega
        have a4 : IntKind.i64.wrap (2 ^ (qn + 1)) = 2 ^ (qn + 1) := IntWalk.i64_in _ (by omega)
        have a5 : IntKind.i64.wrap (2 ^ (qn + 1) - 2) = 2 ^ (qn + 1) - 2 := IntWalk.i64_in _ (by omega)
        have a6 : (0 : Int) ≤ (qn : Int) + 1 := by omega
        have hah := HK.out.ahead
        go_wp2
        go_still_tail 10, (by kernel_rfl)
        change wpList _ _ _ _ _ wr.drew
        have hksd := hks.drew
        have HSd := Lib.hid (HK.out.drew _ _ _ HS.out)
        clear hbx hks HS a1 a2 a3 a4 a5 a6
        generalize wr.drew = wd at *
        have hp := HK.out.put _ wd _ (2 ^ (qn + 1) - 2) (qn + 1) HSd.out (by omega) (by omega) (by omega) (by simp only [List.length_append, binL_length]; omega)
        rw [show (((qn + 1 : Nat) : Int)) = (qn : Int) + 1 from by omega] at hp
        have HP := Lib.hid hp; clear hp
        go_wp2_with fail
        refine HP.out.mono ?_
        rintro e w3 ⟨rfl, hs3, hk3⟩
        have hks3 := hksd.trans hk3
        have hbx3 : w3.cell? ⟨w.heap.size, 1, none⟩ = some (.int .i64 (sh : Nat)) := hks3.cell (.inr rfl) (by simp)
        have HS3 := Lib.hid hs3
        have hp := HK.out.put _ w3 _ (foldU r) sh hs3 u1 (by omega) (by omega) (by simp only [List.length_append, binL_length]; omega)
        have HP2 := Lib.hid hp
        clear hp hs3 hk3 hksd
        go_wp2_with fail
        refine HP2.out.mono ?_
        rintro e w4 ⟨rfl, hs4, hk4⟩
        have hks4 := hks3.trans hk4
        have HS4 := Lib.hid hs4
        clear hs4 hk4 hks3 hbx3
        go_wp2
        go_roundw
        case rel => exact ⟨k + 1, by omega, by go_num, by rw [HT.out, HE.out]; simpa [List.append_assoc] using HS4.out, hks4⟩
        case measure => simp [intOf]; omega
      · have he : encU (foldU r) sh = binL 1048575 20 ++ binL (foldU r) 32 := by rw [encU, if_neg hq]
        have HE := Lib.hid he; clear he
        have hqn2 : ¬ ((qn : Int) < 20) := by omega
        clear hq
        go_wp2_with fail
        refine (folded_any _ _ (by omega) (by omega)).mono ?_
        rintro e w1 ⟨rfl, rfl⟩
        have hp := HK.out.put _ wr _ 1048575 20 HS.out (by omega) (by omega) (by omega) (by simp only [List.length_append, binL_length]; omega)
        have HP := Lib.hid hp; clear hp
        go_wp2_with fail
        refine HP.out.mono ?_
        rintro e w3 ⟨rfl, hs3, hk3⟩
        have hks3 := hks.trans hk3
        have hp := HK.out.put _ w3 _ (foldU r) 32 hs3 u1 (by omega) (by omega) (by simp only [List.length_append, binL_length]; omega)
        have HP2 := Lib.hid hp
        clear hp hs3 hk3 hks
        go_wp2_with fail
        refine HP2.out.mono ?_
        rintro e w4 ⟨rfl, hs4, hk4⟩
        have hks4 := hks3.trans hk4
        have HS4 := Lib.hid hs4
        clear hs4 hk4 hks3
        go_wp2
        go_roundw
        case rel => exact ⟨k + 1, by omega, by go_num, by rw [HT.out, HE.out]; simpa [List.append_assoc] using HS4.out, hks4⟩
        case measure => simp [intOf]; omega
    · obtain rfl : k = l.length := by omega
      rw [List.take_length] at hst
      have hst2 := HK.out.mono _ S _ _ (fun k h => .inl h) hst
      have HS := Lib.hid hst2
      have HW : Hid (KeepS S B w wr) := ⟨((Below.refl B w).alloc hsz0 _).trans hks.below, fun j hj => by
        rw [hks.same j (.inl hj), Below.heap_alloc _ _ _ (HK.out.lt S w bs j HST.out hj)]⟩
      clear hst hst2 hks hbx
      go_wp2
      go_end0
      exact ⟨rfl, by simpa [encL, List.append_assoc] using HS.out, HW.out⟩
end Go.Proofs.YtmafjfhnejeogaaGreatDoor

/- Codes: the counter is a sink. -/
namespace Go.Proofs.YtmafjfhnejeogaaGreatDoor
open Go.RowKit

/-- a counter at block bc that has counted bs -/
def CtS (B bc : Nat) (S : Nat → Prop) (w : World) (bs : List Nat) : Prop :=
  B ≤ bc ∧ w.heap[bc]? = some (.cells #[.int .i64 (bs.length : Nat)] 266 (0, 0)) ∧ ∀ k, S k → k < w.heap.size ∧ k ≠ bc

theorem heap_lt {w : World} {b : Nat} {o : Obj} (h : w.heap[b]? = some o) : b < w.heap.size := (Array.getElem?_eq_some_iff.1 h).1

theorem counter_put (bc : Nat) (c : Nat) (n : Int) (k : Nat) (w : World) (h : w.heap[bc]? = some (.cells #[.int .i64 (c : Nat)] 266 (0, 0))) (hk : k ≤ 32) (hc : c ≤ 1099511627776) :
    Calls Tryz.prog 290 #[.pointer (some ⟨bc, 0, none⟩), .int .i64 n, .int .i64 (k : Nat)] w fun e w' => e = .returned (.tuple #[]) ∧ w' = w.setCell ⟨bc, 0, none⟩ (.int .i64 ((c + k : Nat) : Int)) := by
  have c0 : w.cell? ⟨bc, 0, none⟩ = some (.int .i64 (c : Nat)) := cell_of_one h
  have f0 : w.frozen? ⟨bc, 0, none⟩ = false := free_of_one h
  go_enter Tryz.func290, Tryz.ntmps290
  go_wp2
  go_end0
  exact ⟨rfl, by simp⟩

theorem counter_ok (B bc : Nat) : SinkOK 267 (.pointer (some ⟨bc, 0, none⟩)) 290 B (CtS B bc) where
  alloc := by
    rintro S w bs o ⟨h1, h2, h3⟩
    have hl := heap_lt h2
    refine ⟨h1, by rw [Below.heap_alloc _ _ _ hl]; exact h2, fun k hk => ?_⟩
    rcases hk with hk | rfl
    · have := h3 k hk; exact ⟨by simp; omega, this.2⟩
    · exact ⟨by simp, by omega⟩
  drew := fun S w bs h => h
  mono := fun S S' w bs hs h => ⟨h.1, h.2.1, fun k hk => h.2.2 k (hs k hk)⟩
  size := fun S w bs h => by have := heap_lt h.2.1; have := h.1; omega
  lt := fun S w bs k h hk => (h.2.2 k hk).1
  put := by
    rintro S w bs n k ⟨h1, h2, h3⟩ _ _ hk hl
    refine (counter_put bc bs.length n k w h2 hk hl).mono ?_
    rintro e w' ⟨rfl, rfl⟩
    refine ⟨rfl, ⟨h1, ?_, fun j hj => ?_⟩, (Below.refl _ _).setCell (p := ⟨bc, 0, none⟩) h1 _, fun j hj => Below.heap_setCell _ _ _ _ (h3 j hj).2⟩
    · rw [one_setCell h2, List.length_append, binL_length]
    · have := h3 j hj; exact ⟨by simpa using this.1, this.2⟩
  meth := fun w d => by kernel_rfl
  ahead := fun w d => by kernel_rfl
  enter := fun vs w => by kernel_rfl
end Go.Proofs.YtmafjfhnejeogaaGreatDoor
