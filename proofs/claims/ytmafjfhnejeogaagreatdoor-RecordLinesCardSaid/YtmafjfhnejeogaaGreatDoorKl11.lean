/- RecordLines holds: for every input the law answers true and leaves its arguments as they were. Conditions: those of the given row (the listed tables hold what the program's text lays in them). -/
import Derived.Test.YtmafjfhnejeogaaGreatDoorKl10
import Derived.ProofKit
import Derived.OpenShut
import Derived.ReadAgain
import Derived.Deep.Slices
import Derived.Deep.SlicePairs
import Derived.Lib.SmallJoins
import Derived.Below
import Derived.ChangeSame
import Derived.Test.YtmafjfhnejeogaaGreatDoorRows
import Derived.SizedLaws
import Derived.Lib.LaidTab
import Derived.Laws.IdiomArrays
import Derived.Test.YtmafjfhnejeogaaGreatDoorCards
import Derived.Test.YtmafjfhnejeogaaGreatDoorTie
import Derived.WalkKit
import Derived.Deep.DeepHandedRow
import Derived.LaidMore
import Derived.Stop.Joined

/- Arguments read as data, over this program: what their cells hold; and that they read the same behind a call that writes nothing old. -/
namespace Go.Proofs.YtmafjfhnejeogaaGreatDoor
open Go.RowKit Go.WideShapes Go.ChangeShapes Go.Deep Go.Joins

section
variable {H : Type} {enc : TypeId × Value → H} {P : Program}
theorem sameAt_below {W W' : World} (hb : Below W.heap.size W W') {p : MemPlace} (hp : p.block < W.heap.size) : W.sameAt W' p := by
  cases p with
  | cell b off => exact hb.cell (p := ⟨b, off, none⟩) hp
  | map b => exact hb.block b hp
theorem trodAll_carry {W W' : World} {base : Nat} {sp : Nat → Bool} {held : Bool} : ∀ {ts : List TypeId} {vs : List Value} {ds : List (DataW H)} {ps : List MemPlace}, DataW.TrodAll enc P W base sp held ts vs ds ps → (∀ p ∈ ps, W.sameAt W' p) → DataW.TrodAll enc P W' base sp held ts vs ds ps
  | [], [], [], _, h, _ => h
  | _ :: _, _ :: _, _ :: _, _, ⟨p, q, ⟨n, h1⟩, h2, e⟩, hs => ⟨p, q, ⟨n, DataW.trod_carry n _ _ _ h1 fun x hx => hs x (by rw [e]; exact List.mem_append_left _ hx)⟩, trodAll_carry h2 fun x hx => hs x (by rw [e]; exact List.mem_append_right _ hx), e⟩

/-- behind a call that leaves all old blocks alone and answers true, of a law whose data read again as they did -/
theorem law_post {f : Func} {s : ChangeSpec} {W W' : World} {args : Array Value} {ds : List (DataW H)} {before : List MemPlace} (K : Kids P (· < P.types.size))
    (full : ∀ t e, t < P.types.size → P.underlying t = some (.slice e) → 0 < P.cellsOf e) (hT : ∀ t ∈ f.params.toList, t < P.types.size) (hv : s.vars = [])
    (hW : DataW.Whole enc P f.params.toList s.vars false W args.toList ds [] before) (hA : DataW.TrodAll enc P W 0 (fun _ => true) true f.params.toList args.toList ds before)
    (hfn : s.fn H (ds ++ []) = { results := [.lit (.bool true)], args := ds }) (hr : f.resultTypes = #[4]) (hu : P.underlying 4 = some .bool) (hb : Below W.heap.size W W') :
    s.post enc P f false true false false W args (.bool true) W' := by
  have hlt : ∀ p ∈ before, p.block < W.heap.size := fun p hp => hW.lt p hp
  have hold : ∀ p ∈ before, (fun b => decide (b < W.heap.size)) p.block = true := fun p hp => by simpa using hlt p hp
  have hargs : ∀ sp : Nat → Bool, (∀ p ∈ before, sp p.block = true) → DataW.TrodAll enc P W' 0 sp true f.params.toList args.toList (s.fn H (ds ++ [])).args before := by
    intro sp hsp
    rw [hfn]
    exact trodAll_carry (DataW.TrodAll.respare K full hT hA hsp) fun p hp => sameAt_below hb (hlt p hp)
  have hres : ∀ (b : Nat) (sp : Nat → Bool) (hd : Bool), DataW.TrodAll enc P W' b sp hd f.resultTypes.toList ((Value.bool true).resultList f.resultTypes.size) (s.fn H (ds ++ [])).results [] := by
    intro b sp hd
    rw [hfn, hr]
    exact trodAll_cons_mk (shut_bool hu _) trodAll_mk0
  have hvars : ∀ sp : Nat → Bool, DataW.TrodVars enc P W' sp s.vars (s.fn H (ds ++ [])).vars [] := by
    intro sp
    rw [hfn, hv]
    rfl
  refine ⟨ds, [], before, [], before, [], hW, hres _ _ _, hargs _ hold, hvars _, World.keptBut_mono (fun p hp => ⟨hp, Or.inr (Or.inl hp)⟩) (hb.frame (· ∈ before)), fun _ => ?_⟩
  obtain ⟨_, _, _, _, _, hz, hn⟩ := hW
  refine ⟨?_, _, _, ([] ++ before) ++ [], ⟨[] ++ before, [], trodAll_append (hargs _ (fun _ _ => rfl)) (hres _ _ _), hvars _, rfl, ?_, ?_⟩, ?_⟩
  · exact ok_one hr rfl (okWide_bool_mk hu _)
  · intro b off hp
    have hin : MemPlace.cell b off ∈ before := by simpa using hp
    rw [hb.frozen (hlt _ hin)]
    exact hz b off hin
  · intro ha
    have := hn ha
    simpa using this
  · intro p hp _
    simpa using hp

/-- a slice of numbers, as read -/
theorem rd_ints {W : World} {base : Nat} {sp : Nat → Bool} {held : Bool} {t e : TypeId} {fuel : Nat} {cs : List Value} {x : DataW H × List MemPlace} (ht : P.underlying t = some (.slice e)) (he : P.underlying e = some (.int .i64)) (hc : P.cellsOf e = 1)
    (h : DataW.trod enc P W base sp held fuel t cs = some x) :
    ∃ (ao : Option Addr) (xs : List Int) (cap : Nat), cs = [.slice ao xs.length cap] ∧ Cells W ao (xs.map (Value.int .i64)) ∧ xs.length ≤ cap ∧ cap ≤ 9223372036854775807 ∧ ∀ x ∈ xs, (Lit.int .i64 x).wf = true := by
  rcases open_ints ht he hc h with ⟨rfl, _⟩ | ⟨a, len, cap, zs, rfl, _, hl, hm, hz, _, hcell, hwf⟩
  · exact ⟨none, [], 0, rfl, .inl rfl, Nat.le_refl _, by decide, by simp⟩
  · have hzl : len ≤ zs.length := by rw [hz]; split <;> omega
    have htl : (zs.take len).length = len := by simp; omega
    refine ⟨some a, zs.take len, cap, by rw [htl], ?_, by omega, by unfold maxLen at hm; omega, fun x hx => hwf x (List.mem_of_mem_take hx)⟩
    rcases Nat.eq_zero_or_pos len with h0 | h0
    · subst h0; exact .inl (by simp)
    · have hsp := World.cell?_spot (hcell 0 (by omega))
      simp only [Addr.add] at hsp
      obtain ⟨b, off, spot⟩ := a
      simp at hsp
      subst hsp
      refine .inr ⟨b, off, rfl, fun j u hu => ?_⟩
      rw [List.getElem?_map] at hu
      obtain ⟨y, hy, rfl⟩ := Option.map_eq_some_iff.1 hu
      have hj : j < len := by have := (List.getElem?_eq_some_iff.1 hy).1; omega
      have := hcell j (by omega)
      rw [Addr.add_lit] at this
      rw [this]
      have hg : zs.getD j 0 = y := by
        rw [List.getElem?_take] at hy
        rw [if_pos hj] at hy
        rw [List.getD_eq_getElem?_getD, hy]; rfl
      rw [hg]

/-- a slice of pairs of numbers, as read -/
theorem rd_pairs {W : World} {base : Nat} {sp : Nat → Bool} {held : Bool} {t e : TypeId} {f0 f1 : Field} {fuel : Nat} {cs : List Value} {x : DataW H × List MemPlace} (ht : P.underlying t = some (.slice e)) (he : P.underlying e = some (.struct #[f0, f1]))
    (ce : P.cellsOf e = 2) (o0 : f0.offset = 0) (o1 : f1.offset = 1) (c0 : P.cellsOf f0.type = 1) (c1 : P.cellsOf f1.type = 1) (k0 : P.underlying f0.type = some (.int .i64)) (k1 : P.underlying f1.type = some (.int .i64))
    (h : DataW.trod enc P W base sp held fuel t cs = some x) :
    ∃ (ao : Option Addr) (xs : List (Int × Int)) (cap : Nat), cs = [.slice ao xs.length cap] ∧ Cells W ao (prs xs) ∧ xs.length ≤ cap ∧ cap ≤ 9223372036854775807 ∧ ∀ t ∈ xs, (Lit.int .i64 t.1).wf = true ∧ (Lit.int .i64 t.2).wf = true := by
  rcases open_slice_pairs ht he ce o0 o1 c0 c1 h with ⟨rfl, _⟩ | ⟨a, len, cap, m, n, V0, V1, D0, D1, P0, P1, rfl, _, hl, hm, hmm, _, hcell⟩
  · exact ⟨none, [], 0, rfl, .inl rfl, Nat.le_refl _, by decide, by simp⟩
  · have hlm : len ≤ m := by rw [hmm]; split <;> omega
    have each : ∀ i, i < len → ∃ q : Int × Int, W.cell? (a.add (i * 2)) = some (.int .i64 q.1) ∧ W.cell? (a.add (i * 2 + 1)) = some (.int .i64 q.2) ∧ (Lit.int .i64 q.1).wf = true ∧ (Lit.int .i64 q.2).wf = true := by
      intro i hi
      obtain ⟨h1, h2, h3, h4⟩ := hcell i (by omega)
      obtain ⟨z0, e0, _, w0⟩ := DataW.trod_int k0 h3
      obtain ⟨z1, e1, _, w1⟩ := DataW.trod_int k1 h4
      simp only [List.cons.injEq, and_true] at e0 e1
      rw [e0] at h1; rw [e1] at h2
      exact ⟨(z0, z1), h1, h2, w0, w1⟩
    let F : Nat → Int × Int := fun i => if hi : i < len then (each i hi).choose else (0, 0)
    have hF : ∀ i, i < len → W.cell? (a.add (i * 2)) = some (.int .i64 (F i).1) ∧ W.cell? (a.add (i * 2 + 1)) = some (.int .i64 (F i).2) ∧ (Lit.int .i64 (F i).1).wf = true ∧ (Lit.int .i64 (F i).2).wf = true := by
      intro i hi
      have := (each i hi).choose_spec
      simp only [F, dif_pos hi]
      exact this
    have htl : ((List.range len).map F).length = len := by simp
    refine ⟨some a, (List.range len).map F, cap, by rw [htl], ?_, by omega, by unfold maxLen at hm; omega, ?_⟩
    · rcases Nat.eq_zero_or_pos len with h0 | h0
      · subst h0; exact .inl (by simp [prs])
      · have hsp := World.cell?_spot (hF 0 h0).1
        simp only [Addr.add] at hsp
        obtain ⟨b, off, spot⟩ := a
        simp at hsp
        subst hsp
        refine .inr ⟨b, off, rfl, fun j u hu => ?_⟩
        have hj : j < len * 2 := by
          have := (List.getElem?_eq_some_iff.1 hu).1
          rw [prs_length, htl] at this; exact this
        have hg : ((List.range len).map F)[j / 2]? = some (F (j / 2)) := by
          rw [List.getElem?_map, List.getElem?_range (by omega)]; rfl
        have h1 := prs_fst hg
        have h2 := prs_snd hg
        obtain ⟨g1, g2, _⟩ := hF (j / 2) (by omega)
        rw [Addr.add_lit] at g1 g2
        rcases Nat.mod_two_eq_zero_or_one j with hm | hm
        · have e : j / 2 * 2 = j := by omega
          rw [e] at h1 g1
          rw [h1] at hu; rw [g1]; exact hu
        · have e : j / 2 * 2 + 1 = j := by omega
          rw [e] at h2 g2
          rw [h2] at hu; rw [g2]; exact hu
    · intro t ht2
      obtain ⟨i, hi, rfl⟩ := List.mem_map.1 ht2
      have := hF i (List.mem_range.1 hi)
      exact ⟨this.2.2.1, this.2.2.2⟩
end
end Go.Proofs.YtmafjfhnejeogaaGreatDoor

/- Bytes as arguments: what their cells hold, and how many they are. -/
namespace Go.Proofs.YtmafjfhnejeogaaGreatDoor
open Go.RowKit Go.WideShapes Go.ChangeShapes Go.Deep Go.Joins

section
variable {H : Type} {enc : TypeId × Value → H} {P : Program}
/-- how many elements a reading has -/
def dlen : DataW H → Nat
  | .slice elems _ => elems.length
  | _ => 0
theorem rd_bytes {W : World} {base : Nat} {sp : Nat → Bool} {held : Bool} {t e : TypeId} {fuel : Nat} {cs : List Value} {x : DataW H × List MemPlace} (ht : P.underlying t = some (.slice e)) (he : P.underlying e = some (.int .u8)) (hc : P.cellsOf e = 1)
    (h : DataW.trod enc P W base sp held fuel t cs = some x) :
    ∃ (ao : Option Addr) (l : List Nat) (cap : Nat), cs = [.slice ao l.length cap] ∧ Cells W ao (bys l) ∧ l.length ≤ cap ∧ cap ≤ 9223372036854775807 ∧ (∀ d ∈ l, d < 256) ∧ l.length ≤ dlen x.1 := by
  rcases open_ints ht he hc h with ⟨rfl, _⟩ | ⟨a, len, cap, zs, rfl, _, hl, hm, hz, hx, hcell, hwf⟩
  · exact ⟨none, [], 0, rfl, .inl rfl, Nat.le_refl _, by decide, by simp, Nat.zero_le _⟩
  · have hzl : len ≤ zs.length := by rw [hz]; split <;> omega
    have htl : ((zs.take len).map Int.toNat).length = len := by simp; omega
    have hbd : ∀ n ∈ zs, 0 ≤ n ∧ n < 256 := fun n hn => by
      have := hwf n hn
      simp only [Lit.wf, Bool.and_eq_true, IntKind.min, IntKind.max, IntKind.signed, IntKind.bits] at this
      simp at this
      omega
    refine ⟨some a, (zs.take len).map Int.toNat, cap, by rw [htl], ?_, by omega, by unfold maxLen at hm; omega, fun d hd => ?_, ?_⟩
    · rcases Nat.eq_zero_or_pos len with h0 | h0
      · subst h0; exact .inl (by simp [bys])
      · have hsp := World.cell?_spot (hcell 0 (by omega))
        simp only [Addr.add] at hsp
        obtain ⟨b, off, spot⟩ := a
        simp at hsp
        subst hsp
        refine .inr ⟨b, off, rfl, fun j u hu => ?_⟩
        rw [bys, List.getElem?_map, List.getElem?_map] at hu
        obtain ⟨y, hy, rfl⟩ := Option.map_eq_some_iff.1 hu
        obtain ⟨z, hz2, rfl⟩ := Option.map_eq_some_iff.1 hy
        have hj : j < len := by have := (List.getElem?_eq_some_iff.1 hz2).1; simp at this; omega
        have h3 := hcell j (by omega)
        rw [Addr.add_lit] at h3
        rw [h3]
        have hg : zs.getD j 0 = z := by
          rw [List.getElem?_take] at hz2
          rw [if_pos hj] at hz2
          rw [List.getD_eq_getElem?_getD, hz2]; rfl
        have := hbd z (List.mem_of_mem_take (List.mem_of_getElem? hz2))
        rw [hg]
        congr 2
        omega
    · obtain ⟨z, hz2, rfl⟩ := List.mem_map.1 hd
      have := hbd z (List.mem_of_mem_take hz2)
      omega
    · rw [htl, hx]
      simp [dlen, lits]
      omega
end
end Go.Proofs.YtmafjfhnejeogaaGreatDoor

/- Arguments: how long what is read can be (the form's reach); what the row's list of tables gives. -/
namespace Go.Proofs.YtmafjfhnejeogaaGreatDoor
open Go.RowKit Go.WideShapes Go.ChangeShapes Go.Deep Go.Joins

section
variable {H : Type} {enc : TypeId × Value → H} {P : Program}
theorem rd_ints2 {W : World} {base : Nat} {sp : Nat → Bool} {held : Bool} {t e : TypeId} {fuel : Nat} {cs : List Value} {x : DataW H × List MemPlace} (ht : P.underlying t = some (.slice e)) (he : P.underlying e = some (.int .i64)) (hc : P.cellsOf e = 1)
    (h : DataW.trod enc P W base sp held fuel t cs = some x) :
    ∃ (ao : Option Addr) (xs : List Int) (cap : Nat), cs = [.slice ao xs.length cap] ∧ Cells W ao (xs.map (Value.int .i64)) ∧ xs.length ≤ cap ∧ cap ≤ 9223372036854775807 ∧ (∀ x ∈ xs, (Lit.int .i64 x).wf = true) ∧ xs.length ≤ dlen x.1 ∧ (ao = none → cap = 0) := by
  obtain ⟨a0, xs0, c0, h1, h2, h3, h4, h5⟩ := rd_ints ht he hc h
  refine ⟨a0, xs0, c0, h1, h2, h3, h4, h5, ?_⟩
  rcases open_ints ht he hc h with ⟨rfl, _⟩ | ⟨a, len, cap, zs, rfl, _, hl, hm, hz, hx, hcell, hwf⟩
  · simp only [List.cons.injEq, Value.slice.injEq, and_true] at h1
    obtain ⟨rfl, h6, rfl⟩ := h1
    exact ⟨by omega, fun _ => rfl⟩
  · simp only [List.cons.injEq, Value.slice.injEq, and_true] at h1
    obtain ⟨rfl, h6, rfl⟩ := h1
    have hzl : len ≤ zs.length := by rw [hz]; split <;> omega
    refine ⟨?_, fun h => by cases h⟩
    rw [hx]
    simp [dlen, lits]
    omega

theorem reach_all {ts : List TypeId} {ds : List (DataW H)} (h : (DataW.weightsEach P ts ds).all (· ≤ reachBytes) = true) {j : Nat} {t : TypeId} {d : DataW H} (ht : ts[j]? = some t) (hd : ds[j]? = some d) : ∀ n ∈ d.weights P t, n ≤ reachBytes := fun n hn => by
  have := List.all_eq_true.1 h _ (DataW.weights_mem_each ht hd n hn)
  simpa using this
theorem reach_dlen {d : DataW H} {t e : TypeId} (hu : P.underlying t = some (.slice e)) (hb : P.bytesOf e = 8) (h : ∀ n ∈ d.weights P t, n ≤ reachBytes) : dlen d ≤ 17592186044415 := by
  cases d with
  | slice elems spare =>
    have h1 := h ((elems.length + spare.length) * P.bytesOf e) (by simp [DataW.weights, hu])
    rw [hb] at h1
    have h2 : reachBytes = 140737488351232 := rfl
    simp only [dlen]
    omega
  | _ => simp [dlen]
theorem reach_arr2 {a b : DataW H} {t e : TypeId} {n : Nat} (hu : P.underlying t = some (.array n e)) (h : ∀ n ∈ (DataW.agg [a, b]).weights P t, n ≤ reachBytes) : (∀ n ∈ a.weights P e, n ≤ reachBytes) ∧ (∀ n ∈ b.weights P e, n ≤ reachBytes) := by
  have e1 : (DataW.agg [a, b]).weights P t = a.weights P e ++ (b.weights P e ++ []) := by simp [DataW.weights, hu, DataW.weightsAll]
  rw [e1] at h
  exact ⟨fun n hn => h n (by simp [hn]), fun n hn => h n (by simp [hn])⟩
end

theorem pow10_data : (Rows.laid_internal_strconv_uint64pow10 : DataW Unit) = Lib.tabData .u64 Lib.pow10Tab := rfl
theorem pow10_global : Tryz.prog.globalNamed "internal/strconv.uint64pow10" = some 1 := by kernel_rfl
theorem pow10_type : (Tryz.prog.globals[1]?).map (·.type) = some 307 := by kernel_rfl
/-- the table of powers of ten out of a row's list -/
theorem tab_of_laid {W : World} (h : laidMet Tryz.prog [("math/bits.deBruijn32tab", Rows.laid_math_bits_deBruijn32tab), ("math/bits.deBruijn64tab", Rows.laid_math_bits_deBruijn64tab), ("internal/strconv.uint64pow10", Rows.laid_internal_strconv_uint64pow10)] W) : Tab W := by
  obtain ⟨_, ⟨_, _, _, _, _, _, _, _, _, _, ⟨_, _, _, _, _, _, _, _, _, _, ⟨g', t', cs, fuel, p, q, hg', ht', hvar, hd, _, _⟩, _⟩, _⟩, _⟩ := h
  obtain rfl := Option.some.inj (pow10_global.symm.trans hg')
  obtain rfl := Option.some.inj (pow10_type.symm.trans ht')
  unfold Tab Lib.TabIs
  rw [hvar]
  rw [pow10_data] at hd
  rw [← Lib.cells_of_tab Tryz.underlying307 Tryz.underlying196 (by kernel_rfl) (by kernel_rfl) hd]
end Go.Proofs.YtmafjfhnejeogaaGreatDoor

/- Arguments read as data: arrays of two and of three one-cell elements, by value. -/
namespace Go.Proofs.YtmafjfhnejeogaaGreatDoor
open Go.RowKit Go.WideShapes Go.ChangeShapes Go.Deep Go.Joins

section
variable {H : Type} {enc : TypeId × Value → H} {P : Program} {w : World} {base : Nat} {spare : Nat → Bool} {held : Bool}
theorem trod_array2 {t e : TypeId} {fuel : Nat} {c0 c1 : Value} {x : DataW H × List MemPlace} (ht : P.underlying t = some (.array 2 e)) (hce : P.cellsOf e = 1)
    (h : DataW.trod enc P w base spare held fuel t [c0, c1] = some x) :
    ∃ y0 y1 n, x = (.agg [y0.1, y1.1], y0.2 ++ y1.2) ∧ DataW.trod enc P w base spare held n e [c0] = some y0 ∧ DataW.trod enc P w base spare held n e [c1] = some y1 := by
  cases fuel with
  | zero => simp [DataW.trod] at h
  | succ n =>
    unfold DataW.trod at h
    rw [ht] at h
    have r2 : List.range 2 = [0, 1] := rfl
    simp [r2, hce] at h
    obtain ⟨_, h⟩ := h
    cases h0 : DataW.trod enc P w base spare held n e [c0] with
    | none => simp [h0] at h
    | some y0 =>
      cases h1 : DataW.trod enc P w base spare held n e [c1] with
      | none => simp [h0, h1] at h
      | some y1 =>
        simp [h0, h1] at h
        exact ⟨y0, y1, n, h.symm, h0, h1⟩
theorem open_arr2 {r : Reach} {b0 : Nat} {t e : TypeId} {v : Value} {d : DataW H} {p : List MemPlace} (ht : P.underlying t = some (.array 2 e)) (hce : P.cellsOf e = 1) (hC : P.cellsOf t = 2)
    (hv : Value.okWide P w r b0 t v) (h : DataW.Trod enc P w base spare held t v d p) :
    ∃ (v0 v1 : Value) (y0 y1 : DataW H × List MemPlace) (n : Nat), v = .agg #[v0, v1] ∧ d = .agg [y0.1, y1.1] ∧ p = y0.2 ++ y1.2 ∧
      DataW.trod enc P w base spare held n e [v0] = some y0 ∧ DataW.trod enc P w base spare held n e [v1] = some y1 := by
  simp only [Value.okWide, ht] at hv
  obtain ⟨cs, rfl, hsz, _⟩ := hv
  obtain ⟨c0, c1, rfl⟩ := array2 (hsz.trans hC)
  obtain ⟨fuel, hf⟩ := h
  obtain ⟨y0, y1, n, hx, h0, h1⟩ := trod_array2 ht hce (by simpa [Value.cells] using hf)
  simp only [Prod.mk.injEq] at hx
  exact ⟨c0, c1, y0, y1, n, rfl, hx.1, hx.2, h0, h1⟩
theorem open_arr3 {r : Reach} {b0 : Nat} {t e : TypeId} {v : Value} {d : DataW H} {p : List MemPlace} (ht : P.underlying t = some (.array 3 e)) (hce : P.cellsOf e = 1) (hC : P.cellsOf t = 3)
    (hv : Value.okWide P w r b0 t v) (h : DataW.Trod enc P w base spare held t v d p) :
    ∃ (v0 v1 v2 : Value) (y0 y1 y2 : DataW H × List MemPlace) (n : Nat), v = .agg #[v0, v1, v2] ∧ d = .agg [y0.1, y1.1, y2.1] ∧ p = y0.2 ++ (y1.2 ++ y2.2) ∧
      DataW.trod enc P w base spare held n e [v0] = some y0 ∧ DataW.trod enc P w base spare held n e [v1] = some y1 ∧ DataW.trod enc P w base spare held n e [v2] = some y2 := by
  simp only [Value.okWide, ht] at hv
  obtain ⟨cs, rfl, hsz, _⟩ := hv
  obtain ⟨c0, c1, c2, rfl⟩ := array3 (hsz.trans hC)
  obtain ⟨fuel, hf⟩ := h
  obtain ⟨y0, y1, y2, n, hx, h0, h1, h2⟩ := trod_array3 ht hce (by simpa [Value.cells] using hf)
  simp only [Prod.mk.injEq] at hx
  exact ⟨c0, c1, c2, y0, y1, y2, n, rfl, hx.1, hx.2, h0, h1, h2⟩
end
end Go.Proofs.YtmafjfhnejeogaaGreatDoor

namespace Go.Proofs.YtmafjfhnejeogaaGreatDoor
open Go.ChangeShapes Go.WideShapes Go.ChangeAt Go.RowKit Go.Joins Go.Deep

theorem own : ownKnob Tryz.prog.godebug = none := by kernel_rfl
theorem kids : Kids Tryz.prog (· < Tryz.prog.types.size) := kids_rows (by kernel_rfl) (by kernel_rfl)
theorem full : ∀ t e, t < Tryz.prog.types.size → Tryz.prog.underlying t = some (.slice e) → 0 < Tryz.prog.cellsOf e := slices_full_of Tryz.prog (by kernel_rfl)

set_option maxRecDepth 100000 in
theorem law_contract (H : Type) (enc : TypeId × Value → H) (W : World) (base : Nat) (args : Array Value) (ds gs : List (DataW H)) (before : List MemPlace)
    (hval : ∀ (j : Nat) t v, Tryz.f3.params[j]? = some t → args[j]? = some v → Value.okWide Tryz.prog W .any base t v)
    (hW : DataW.Whole enc Tryz.prog Tryz.f3.params.toList Rows.recordLinesSpec.vars false W args.toList ds gs before) (hsz : (DataW.weightsEach Tryz.prog (Tryz.f3.params.toList ++ (OpenSpec.ofChange Rows.recordLinesSpec).bare.plain.varTypes Tryz.prog) (ds ++ gs)).all (· ≤ reachBytes) = true) (htab : Tab W) :
    Calls Tryz.prog 3 args W fun e W' => ∃ v, e = .returned v ∧ Rows.recordLinesSpec.post enc Tryz.prog Tryz.f3 false true false false W args v W' := by
  have hW' := hW
  obtain ⟨p, q, hA0, hV, rfl, hfz, hnd⟩ := hW
  have hA : DataW.TrodAll enc Tryz.prog W 0 (fun _ => true) true Tryz.f3.params.toList args.toList ds p := hA0
  have hAk := hA
  rw [Tryz.params3] at hA hval
  obtain ⟨v0, v1, v2, d0, d1, d2, p0, p1, p2, rfl, rfl, rfl, h0, h1, h2⟩ := trodAll_three hA
  obtain ⟨rfl, rfl⟩ := trodVars_none hV
  obtain ⟨u0a, u0b, y0a, y0b, k0, rfl, rfl, rfl, g0a, g0b⟩ := open_arr2 Tryz.underlying23 (by kernel_rfl) (by kernel_rfl) (hval 0 23 v0 rfl rfl) h0
  obtain ⟨a0a, xs0a, c0a, e0a, hxs0a, hlx0a, hlc0a, hwf0a, hdl0a, hnn0a⟩ := rd_ints2 Tryz.underlying22 Tryz.underlying3 (by kernel_rfl) g0a
  have hbd0a : xs0a.length ≤ 17592186044415 := Nat.le_trans hdl0a (reach_dlen Tryz.underlying22 (by kernel_rfl) (reach_arr2 Tryz.underlying23 (reach_all hsz (j := 0) (t := 23) (by kernel_rfl) rfl)).1)
  obtain ⟨a0b, xs0b, c0b, e0b, hxs0b, hlx0b, hlc0b, hwf0b, hdl0b, hnn0b⟩ := rd_ints2 Tryz.underlying22 Tryz.underlying3 (by kernel_rfl) g0b
  have hbd0b : xs0b.length ≤ 17592186044415 := Nat.le_trans hdl0b (reach_dlen Tryz.underlying22 (by kernel_rfl) (reach_arr2 Tryz.underlying23 (reach_all hsz (j := 0) (t := 23) (by kernel_rfl) rfl)).2)
  simp only [List.cons.injEq, and_true] at e0a e0b
  obtain ⟨n1, rfl, rfl, rfl, hwf1⟩ := open_int Tryz.underlying3 (hval 1 3 v1 rfl rfl) h1
  obtain ⟨b2, len2, cap2, rfl⟩ := okWide_slice Tryz.underlying22 (hval 2 22 v2 rfl rfl)
  obtain ⟨fuel2, hf2⟩ := h2
  obtain ⟨a2, xs2, c2, e2, hxs2, hlx2, hlc2, hwf2, hdl2, hnn2⟩ := rd_ints2 Tryz.underlying22 Tryz.underlying3 (by kernel_rfl) hf2
  have hbd2 : xs2.length ≤ 17592186044415 := Nat.le_trans hdl2 (reach_dlen Tryz.underlying22 (by kernel_rfl) (reach_all hsz (j := 2) (t := 22) (by kernel_rfl) rfl))
  have e2' : Value.slice b2 len2 cap2 = Value.slice a2 xs2.length c2 := by simpa [Value.cells] using e2
  rw [e0a, e0b, e2'] at hW' hAk ⊢
  simp only [List.append_nil] at hW' hAk
  refine (lines_any a0a xs0a c0a a0b xs0b c0b n1 a2 xs2 c2 W htab hxs0a hbd0a hxs0b hbd0b hxs2 hbd2 hnn2).mono fun e W' ⟨he, hb⟩ => ?_
  subst he
  exact ⟨_, rfl, law_post kids full (by rw [Tryz.params3]; decide) rfl hW' hAk rfl rfl Tryz.underlying4 hb⟩

theorem law_met (os : Os) (args : Array Value) : laidMet Tryz.prog Rows.recordLinesRow.laid ((World.doorLaid Tryz.prog 400 os).forCall (fun _ _ => 0) ⟨#[], args, []⟩).memory :=
  laidMet_of_run' 40 (by kernel_rfl) (by kernel_rfl)
theorem law_reads (os : Os) {H : Type} (enc : TypeId × Value → H) : ∃ places, DataW.whole enc Tryz.prog ((World.doorLaid Tryz.prog 400 os).forCall (fun _ _ => 0) ⟨#[], #[.agg #[.slice none 0 0, .slice none 0 0], .int .i64 0, .slice none 0 0], []⟩).memory Tryz.f3.params.toList Rows.recordLinesSpec.vars false #[Value.agg #[.slice none 0 0, .slice none 0 0], Value.int .i64 0, Value.slice none 0 0].toList 8 = some ([.agg [.nil, .nil], .lit (.int .i64 0), .nil], [], places) :=
  ⟨[], by kernel_rfl⟩

set_option maxRecDepth 100000 in
theorem law_lifted (os : Os) (started : os.Started) (H : Type) (enc : TypeId × Value → H) (F : Stop.Interp) :
    ReturnsInHanded {} Tryz.checked os 3 .any ((OpenSpec.ofChange Rows.recordLinesSpec).preRow enc Tryz.prog Tryz.f3 Rows.recordLinesRow.domain false Rows.recordLinesRow.laid) (((OpenSpec.ofChange Rows.recordLinesSpec).at F).post enc Tryz.prog Tryz.f3 false true false false) := by
  obtain ⟨places, hx⟩ := law_reads os enc
  refine returnsInHanded_of_row (C := Tryz.checked) (s := OpenSpec.ofChange Rows.recordLinesSpec) own started (by kernel_rfl) Tryz.func3
    (witness_row_at (enc := enc) (C := Tryz.checked) false (World.doorLaid Tryz.prog 400 os) #[.agg #[.slice none 0 0, .slice none 0 0], .int .i64 0, .slice none 0 0] rfl (by kernel_rfl) (by kernel_rfl) (by kernel_rfl)
      (OpenSpec.preRow_of_cond 8 hx (by kernel_rfl) (fun k hk => by cases hk) (by kernel_rfl) (law_met os _))) ?_
  intro W base args ds gs before hval hW _ _ hsz hL _ _
  exact law_contract H enc W base args ds gs before hval hW hsz (tab_of_laid hL)

theorem law_said : Rows.RecordLinesSaid :=
  OpenClaim.holds_of_cond 3 Tryz.f3 rfl rfl rfl rfl rfl rfl rfl ⟨rfl, rfl, rfl, rfl, rfl⟩ rfl rfl rfl rfl rfl (by kernel_rfl) Tryz.func3 (by kernel_rfl)
    (of_decide_eq_true (by kernel_rfl)) (by unfold Func.isWrapper; first | (rw [if_pos (by decide +kernel)]; kernel_rfl) | (rw [if_neg (by decide +kernel)]; exact ⟨rfl, rfl⟩))
    (fun os started H enc _ F => by rw [OpenClaim.pre_eq_preRow]; exact law_lifted os started H enc F)

theorem law_plain (f : FuncId) (fn : Func) (hf : Tryz.pinned.checked.prog.funcNamed "ringdown/ringdownlaw05.RecordLines" = some f) (hfn : Tryz.pinned.checked.prog.funcs[f]? = some fn) :
    false = Tryz.pinned.checked.prog.looks [] ∧ ∀ (j : Nat) t, fn.params[j]? = some t → Tryz.pinned.checked.prog.wantsStandIn t = false := by
  obtain rfl : f = 3 := Option.some.inj ((show Tryz.prog.funcNamed "ringdown/ringdownlaw05.RecordLines" = some 3 by kernel_rfl).symm.trans hf) |>.symm
  obtain rfl : fn = Tryz.f3 := (Option.some.inj (Tryz.func3.symm.trans hfn)).symm
  refine ⟨by kernel_rfl, fun j t ht => ?_⟩
  rw [Tryz.params3] at ht
  have : t = 23 ∨ t = 3 ∨ t = 22 := by simpa using Array.mem_of_getElem? ht
  rcases this with rfl | rfl | rfl
  · exact (show Tryz.prog.wantsStandIn 23 = false by kernel_rfl)
  · exact (show Tryz.prog.wantsStandIn 3 = false by kernel_rfl)
  · exact (show Tryz.prog.wantsStandIn 22 = false by kernel_rfl)

/-- RecordLines holds. -/
theorem recordLines_holds : Rows.RecordLinesCardSaid :=
  Claim7.holds_tied_plain_at .later [] _ _ _ _ law_said (fun _ h => by cases h) (by kernel_rfl) (fun _ h => by cases h) recordLines_row_tie rfl ⟨rfl, rfl⟩ (by kernel_rfl) rfl law_plain (by kernel_rfl)
end Go.Proofs.YtmafjfhnejeogaaGreatDoor
