/- Arguments read as data, over this program: what their cells hold; and that they read the same behind a call that writes nothing old. -/
import Derived.Test.YtoochleabcjljaaDoorV0
import Derived.ProofKit
import Derived.OpenShut
import Derived.ReadAgain
import Derived.Deep.Slices
import Derived.Deep.SlicePairs
import Derived.Lib.SmallJoins
import Derived.Below
import Derived.ChangeSame
namespace Go.Proofs.YtoochleabcjljaaDoor
open Go.RowKit Go.WideShapes Go.ChangeShapes Go.Deep Go.Joins

section
variable {H : Type} {enc : TypeId × Value → H} {P : Program}
theorem sameAt_below {W W' : World} (hb : Below W.heap.size W W') {p : MemPlace} (hp : p.block < W.heap.size) : W.sameAt W' p := by
  cases p with
  | cell b off => exact hb.cell (p := ⟨b, off, none⟩) hp
  | map b => exact hb.block b hp
theorem trodAll_carry {W W' : World} {base : Nat} {sp : Nat → Bool} {held : Bool} : ∀ {ts : List TypeId} {vs : List Value} {ds : List (DataW H)} {ps : List MemPlace}, DataW.TrodAll enc P W base sp held ts vs ds ps → (∀ p ∈ ps, W.sameAt W' p) → DataW.TrodAll enc P W' base sp held ts vs ds ps
  | [], [], [], _, h, _ => h
  | _ :: _, _ :: _, _ :: _, _, ⟨p, q, ⟨n, h1⟩, h2, e⟩, hs => ⟨p, q, ⟨n, DataW.trod_carry n _ _ _ h1 fun x hx => hs x (by rw [e]; exact List.mem_append_left _ hx)⟩, trodAll_carry h2 fun x hx => hs x (by rw [e]; exact List.mem_append_right _ hx), e⟩

/-- behind a call that leaves all old blocks alone and answers true, of a law whose data read again as they did -/
theorem law_post {f : Func} {s : ChangeSpec} {W W' : World} {args : Array Value} {ds : List (DataW H)} {before : List MemPlace} (K : Kids P (· < P.types.size))
    (full : ∀ t e, t < P.types.size → P.underlying t = some (.slice e) → 0 < P.cellsOf e) (hT : ∀ t ∈ f.params.toList, t < P.types.size) (hv : s.vars = [])
    (hW : DataW.Whole enc P f.params.toList s.vars false W args.toList ds [] before) (hA : DataW.TrodAll enc P W 0 (fun _ => true) true f.params.toList args.toList ds before)
    (hfn : s.fn H (ds ++ []) = { results := [.lit (.bool true)], args := ds }) (hr : f.resultTypes = #[4]) (hu : P.underlying 4 = some .bool) (hb : Below W.heap.size W W') :
    s.post enc P f false true false false W args (.bool true) W' := by
  have hlt : ∀ p ∈ before, p.block < W.heap.size := fun p hp => hW.lt p hp
  have hold : ∀ p ∈ before, (fun b => decide (b < W.heap.size)) p.block = true := fun p hp => by simpa using hlt p hp
  have hargs : ∀ sp : Nat → Bool, (∀ p ∈ before, sp p.block = true) → DataW.TrodAll enc P W' 0 sp true f.params.toList args.toList (s.fn H (ds ++ [])).args before := by
    intro sp hsp
    rw [hfn]
    exact trodAll_carry (DataW.TrodAll.respare K full hT hA hsp) fun p hp => sameAt_below hb (hlt p hp)
  have hres : ∀ (b : Nat) (sp : Nat → Bool) (hd : Bool), DataW.TrodAll enc P W' b sp hd f.resultTypes.toList ((Value.bool true).resultList f.resultTypes.size) (s.fn H (ds ++ [])).results [] := by
    intro b sp hd
    rw [hfn, hr]
    exact trodAll_cons_mk (shut_bool hu _) trodAll_mk0
  have hvars : ∀ sp : Nat → Bool, DataW.TrodVars enc P W' sp s.vars (s.fn H (ds ++ [])).vars [] := by
    intro sp
    rw [hfn, hv]
    rfl
  refine ⟨ds, [], before, [], before, [], hW, hres _ _ _, hargs _ hold, hvars _, World.keptBut_mono (fun p hp => ⟨hp, Or.inr (Or.inl hp)⟩) (hb.frame (· ∈ before)), fun _ => ?_⟩
  obtain ⟨_, _, _, _, _, hz, hn⟩ := hW
  refine ⟨?_, _, _, ([] ++ before) ++ [], ⟨[] ++ before, [], trodAll_append (hargs _ (fun _ _ => rfl)) (hres _ _ _), hvars _, rfl, ?_, ?_⟩, ?_⟩
  · exact ok_one hr rfl (okWide_bool_mk hu _)
  · intro b off hp
    have hin : MemPlace.cell b off ∈ before := by simpa using hp
    rw [hb.frozen (hlt _ hin)]
    exact hz b off hin
  · intro ha
    have := hn ha
    simpa using this
  · intro p hp _
    simpa using hp

/-- a slice of numbers, as read -/
theorem rd_ints {W : World} {base : Nat} {sp : Nat → Bool} {held : Bool} {t e : TypeId} {fuel : Nat} {cs : List Value} {x : DataW H × List MemPlace} (ht : P.underlying t = some (.slice e)) (he : P.underlying e = some (.int .i64)) (hc : P.cellsOf e = 1)
    (h : DataW.trod enc P W base sp held fuel t cs = some x) :
    ∃ (ao : Option Addr) (xs : List Int) (cap : Nat), cs = [.slice ao xs.length cap] ∧ Cells W ao (xs.map (Value.int .i64)) ∧ xs.length ≤ cap ∧ cap ≤ 9223372036854775807 ∧ ∀ x ∈ xs, (Lit.int .i64 x).wf = true := by
  rcases open_ints ht he hc h with ⟨rfl, _⟩ | ⟨a, len, cap, zs, rfl, _, hl, hm, hz, _, hcell, hwf⟩
  · exact ⟨none, [], 0, rfl, .inl rfl, Nat.le_refl _, by decide, by simp⟩
  · have hzl : len ≤ zs.length := by rw [hz]; split <;> omega
    have htl : (zs.take len).length = len := by simp; omega
    refine ⟨some a, zs.take len, cap, by rw [htl], ?_, by omega, by unfold maxLen at hm; omega, fun x hx => hwf x (List.mem_of_mem_take hx)⟩
    rcases Nat.eq_zero_or_pos len with h0 | h0
    · subst h0; exact .inl (by simp)
    · have hsp := World.cell?_spot (hcell 0 (by omega))
      simp only [Addr.add] at hsp
      obtain ⟨b, off, spot⟩ := a
      simp at hsp
      subst hsp
      refine .inr ⟨b, off, rfl, fun j u hu => ?_⟩
      rw [List.getElem?_map] at hu
      obtain ⟨y, hy, rfl⟩ := Option.map_eq_some_iff.1 hu
      have hj : j < len := by have := (List.getElem?_eq_some_iff.1 hy).1; omega
      have := hcell j (by omega)
      rw [Addr.add_lit] at this
      rw [this]
      have hg : zs.getD j 0 = y := by
        rw [List.getElem?_take] at hy
        rw [if_pos hj] at hy
        rw [List.getD_eq_getElem?_getD, hy]; rfl
      rw [hg]

/-- a slice of pairs of numbers, as read -/
theorem rd_pairs {W : World} {base : Nat} {sp : Nat → Bool} {held : Bool} {t e : TypeId} {f0 f1 : Field} {fuel : Nat} {cs : List Value} {x : DataW H × List MemPlace} (ht : P.underlying t = some (.slice e)) (he : P.underlying e = some (.struct #[f0, f1]))
    (ce : P.cellsOf e = 2) (o0 : f0.offset = 0) (o1 : f1.offset = 1) (c0 : P.cellsOf f0.type = 1) (c1 : P.cellsOf f1.type = 1) (k0 : P.underlying f0.type = some (.int .i64)) (k1 : P.underlying f1.type = some (.int .i64))
    (h : DataW.trod enc P W base sp held fuel t cs = some x) :
    ∃ (ao : Option Addr) (xs : List (Int × Int)) (cap : Nat), cs = [.slice ao xs.length cap] ∧ Cells W ao (prs xs) ∧ xs.length ≤ cap ∧ cap ≤ 9223372036854775807 ∧ ∀ t ∈ xs, (Lit.int .i64 t.1).wf = true ∧ (Lit.int .i64 t.2).wf = true := by
  rcases open_slice_pairs ht he ce o0 o1 c0 c1 h with ⟨rfl, _⟩ | ⟨a, len, cap, m, n, V0, V1, D0, D1, P0, P1, rfl, _, hl, hm, hmm, _, hcell⟩
  · exact ⟨none, [], 0, rfl, .inl rfl, Nat.le_refl _, by decide, by simp⟩
  · have hlm : len ≤ m := by rw [hmm]; split <;> omega
    have each : ∀ i, i < len → ∃ q : Int × Int, W.cell? (a.add (i * 2)) = some (.int .i64 q.1) ∧ W.cell? (a.add (i * 2 + 1)) = some (.int .i64 q.2) ∧ (Lit.int .i64 q.1).wf = true ∧ (Lit.int .i64 q.2).wf = true := by
      intro i hi
      obtain ⟨h1, h2, h3, h4⟩ := hcell i (by omega)
      obtain ⟨z0, e0, _, w0⟩ := DataW.trod_int k0 h3
      obtain ⟨z1, e1, _, w1⟩ := DataW.trod_int k1 h4
      simp only [List.cons.injEq, and_true] at e0 e1
      rw [e0] at h1; rw [e1] at h2
      exact ⟨(z0, z1), h1, h2, w0, w1⟩
    let F : Nat → Int × Int := fun i => if hi : i < len then (each i hi).choose else (0, 0)
    have hF : ∀ i, i < len → W.cell? (a.add (i * 2)) = some (.int .i64 (F i).1) ∧ W.cell? (a.add (i * 2 + 1)) = some (.int .i64 (F i).2) ∧ (Lit.int .i64 (F i).1).wf = true ∧ (Lit.int .i64 (F i).2).wf = true := by
      intro i hi
      have := (each i hi).choose_spec
      simp only [F, dif_pos hi]
      exact this
    have htl : ((List.range len).map F).length = len := by simp
    refine ⟨some a, (List.range len).map F, cap, by rw [htl], ?_, by omega, by unfold maxLen at hm; omega, ?_⟩
    · rcases Nat.eq_zero_or_pos len with h0 | h0
      · subst h0; exact .inl (by simp [prs])
      · have hsp := World.cell?_spot (hF 0 h0).1
        simp only [Addr.add] at hsp
        obtain ⟨b, off, spot⟩ := a
        simp at hsp
        subst hsp
        refine .inr ⟨b, off, rfl, fun j u hu => ?_⟩
        have hj : j < len * 2 := by
          have := (List.getElem?_eq_some_iff.1 hu).1
          rw [prs_length, htl] at this; exact this
        have hg : ((List.range len).map F)[j / 2]? = some (F (j / 2)) := by
          rw [List.getElem?_map, List.getElem?_range (by omega)]; rfl
        have h1 := prs_fst hg
        have h2 := prs_snd hg
        obtain ⟨g1, g2, _⟩ := hF (j / 2) (by omega)
        rw [Addr.add_lit] at g1 g2
        rcases Nat.mod_two_eq_zero_or_one j with hm | hm
        · have e : j / 2 * 2 = j := by omega
          rw [e] at h1 g1
          rw [h1] at hu; rw [g1]; exact hu
        · have e : j / 2 * 2 + 1 = j := by omega
          rw [e] at h2 g2
          rw [h2] at hu; rw [g2]; exact hu
    · intro t ht2
      obtain ⟨i, hi, rfl⟩ := List.mem_map.1 ht2
      have := hF i (List.mem_range.1 hi)
      exact ⟨this.2.2.1, this.2.2.2⟩
end
end Go.Proofs.YtoochleabcjljaaDoor
