/- Parts of a proof, in build order: V1, E0, V4, V6. -/
import Derived.Test.YtdpjdifoonfcdaaGreatDoorKr4
import Derived.ProofKit
import Derived.OpenShut
import Derived.ReadAgain
import Derived.Deep.Slices
import Derived.Deep.SlicePairs
import Derived.Lib.SmallJoins
import Derived.Below
import Derived.ChangeSame
import Derived.Test.YtdpjdifoonfcdaaGreatDoorRows
import Derived.SizedLaws
import Derived.Lib.LaidTab
import Derived.Laws.ResultCell
import Derived.Deep.CutBlock
import Derived.Deep.RegionWith

namespace Go.Proofs.YtdpjdifoonfcdaaGreatDoor
open Go.RowKit Go.WideShapes Go.ChangeShapes Go.Deep Go.Joins
section
variable {H : Type} {enc : TypeId × Value -> H} {P : Program}
theorem sameAt_below {W W' : World} (hb : Below W.heap.size W W') {p : MemPlace} (hp : p.block < W.heap.size) : W.sameAt W' p := by
 cases p with
 | cell b off => exact hb.cell (p := ⟨b, off, none⟩) hp
 | map b => exact hb.block b hp
theorem trodAll_carry {W W' : World} {base : Nat} {sp : Nat -> Bool} {held : Bool} : ∀ {ts : List TypeId} {vs : List Value} {ds : List (DataW H)} {ps : List MemPlace}, DataW.TrodAll enc P W base sp held ts vs ds ps -> (∀ p ∈ ps, W.sameAt W' p) -> DataW.TrodAll enc P W' base sp held ts vs ds ps
 | [], [], [], _, h, _ => h
 | _ :: _, _ :: _, _ :: _, _, ⟨p, q, ⟨n, h1⟩, h2, e⟩, hs => ⟨p, q, ⟨n, DataW.trod_carry n _ _ _ h1 fun x hx => hs x (by rw [e]; exact List.mem_append_left _ hx)⟩, trodAll_carry h2 fun x hx => hs x (by rw [e]; exact List.mem_append_right _ hx), e⟩
theorem law_post {f : Func} {s : ChangeSpec} {W W' : World} {args : Array Value} {ds : List (DataW H)} {before : List MemPlace} (K : Kids P (· < P.types.size))
 (full : ∀ t e, t < P.types.size -> P.underlying t = some (.slice e) -> 0 < P.cellsOf e) (hT : ∀ t ∈ f.params.toList, t < P.types.size) (hv : s.vars = [])
 (hW : DataW.Whole enc P f.params.toList s.vars false W args.toList ds [] before) (hA : DataW.TrodAll enc P W 0 (fun _ => true) true f.params.toList args.toList ds before)
 (hfn : s.fn H (ds ++ []) = { results := [.lit (.bool true)], args := ds }) (hr : f.resultTypes = #[4]) (hu : P.underlying 4 = some .bool) (hb : Below W.heap.size W W') :
 s.post enc P f false true false false W args (.bool true) W' := by
 have hlt : ∀ p ∈ before, p.block < W.heap.size := fun p hp => hW.lt p hp
 have hold : ∀ p ∈ before, (fun b => decide (b < W.heap.size)) p.block = true := fun p hp => by simpa using hlt p hp
 have hargs : ∀ sp : Nat -> Bool, (∀ p ∈ before, sp p.block = true) -> DataW.TrodAll enc P W' 0 sp true f.params.toList args.toList (s.fn H (ds ++ [])).args before := by
  intro sp hsp
  rw [hfn]
  exact trodAll_carry (DataW.TrodAll.respare K full hT hA hsp) fun p hp => sameAt_below hb (hlt p hp)
 have hres : ∀ (b : Nat) (sp : Nat -> Bool) (hd : Bool), DataW.TrodAll enc P W' b sp hd f.resultTypes.toList ((Value.bool true).resultList f.resultTypes.size) (s.fn H (ds ++ [])).results [] := by
  intro b sp hd
  rw [hfn, hr]
  exact trodAll_cons_mk (shut_bool hu _) trodAll_mk0
 have hvars : ∀ sp : Nat -> Bool, DataW.TrodVars enc P W' sp s.vars (s.fn H (ds ++ [])).vars [] := by
  intro sp
  rw [hfn, hv]
  rfl
 refine ⟨ds, [], before, [], before, [], hW, hres _ _ _, hargs _ hold, hvars _, World.keptBut_mono (fun p hp => ⟨hp, Or.inr (Or.inl hp)⟩) (hb.frame (· ∈ before)), fun _ => ?_⟩
 obtain ⟨_, _, _, _, _, hz, hn⟩ := hW
 refine ⟨?_, _, _, ([] ++ before) ++ [], ⟨[] ++ before, [], trodAll_append (hargs _ (fun _ _ => rfl)) (hres _ _ _), hvars _, rfl, ?_, ?_⟩, ?_⟩
 · exact ok_one hr rfl (okWide_bool_mk hu _)
 · intro b off hp
   have hin : MemPlace.cell b off ∈ before := by simpa using hp
   rw [hb.frozen (hlt _ hin)]
   exact hz b off hin
 · intro ha
   have := hn ha
   simpa using this
 · intro p hp _
   simpa using hp
theorem rd_ints {W : World} {base : Nat} {sp : Nat -> Bool} {held : Bool} {t e : TypeId} {fuel : Nat} {cs : List Value} {x : DataW H × List MemPlace} (ht : P.underlying t = some (.slice e)) (he : P.underlying e = some (.int .i64)) (hc : P.cellsOf e = 1)
 (h : DataW.trod enc P W base sp held fuel t cs = some x) :
 ∃ (ao : Option Addr) (xs : List Int) (cap : Nat), cs = [.slice ao xs.length cap] /\ Cells W ao (xs.map (Value.int .i64)) /\ xs.length <= cap /\ cap <= 9223372036854775807 /\ ∀ x ∈ xs, (Lit.int .i64 x).wf = true := by
 rcases open_ints ht he hc h with ⟨rfl, _⟩ | ⟨a, len, cap, zs, rfl, _, hl, hm, hz, _, hcell, hwf⟩
 · exact ⟨none, [], 0, rfl, .inl rfl, Nat.le_refl _, by decide, by simp⟩
 · have hzl : len <= zs.length := by rw [hz]; split <;> omega
   have htl : (zs.take len).length = len := by simp; omega
   refine ⟨some a, zs.take len, cap, by rw [htl], ?_, by omega, by unfold maxLen at hm; omega, fun x hx => hwf x (List.mem_of_mem_take hx)⟩
   rcases Nat.eq_zero_or_pos len with h0 | h0
   · subst h0; exact .inl (by simp)
   · have hsp := World.cell?_spot (hcell 0 (by omega))
     simp only [Addr.add] at hsp
     obtain ⟨b, off, spot⟩ := a
     simp at hsp
     subst hsp
     refine .inr ⟨b, off, rfl, fun j u hu => ?_⟩
     rw [List.getElem?_map] at hu
     obtain ⟨y, hy, rfl⟩ := Option.map_eq_some_iff.1 hu
     have hj : j < len := by have := (List.getElem?_eq_some_iff.1 hy).1; omega
     have := hcell j (by omega)
     rw [Addr.add_lit] at this
     rw [this]
     have hg : zs.getD j 0 = y := by
      rw [List.getElem?_take] at hy
      rw [if_pos hj] at hy
      rw [List.getD_eq_getElem?_getD, hy]; rfl
     rw [hg]
theorem rd_pairs {W : World} {base : Nat} {sp : Nat -> Bool} {held : Bool} {t e : TypeId} {f0 f1 : Field} {fuel : Nat} {cs : List Value} {x : DataW H × List MemPlace} (ht : P.underlying t = some (.slice e)) (he : P.underlying e = some (.struct #[f0, f1]))
 (ce : P.cellsOf e = 2) (o0 : f0.offset = 0) (o1 : f1.offset = 1) (c0 : P.cellsOf f0.type = 1) (c1 : P.cellsOf f1.type = 1) (k0 : P.underlying f0.type = some (.int .i64)) (k1 : P.underlying f1.type = some (.int .i64))
 (h : DataW.trod enc P W base sp held fuel t cs = some x) :
 ∃ (ao : Option Addr) (xs : List (Int × Int)) (cap : Nat), cs = [.slice ao xs.length cap] /\ Cells W ao (prs xs) /\ xs.length <= cap /\ cap <= 9223372036854775807 /\ ∀ t ∈ xs, (Lit.int .i64 t.1).wf = true /\ (Lit.int .i64 t.2).wf = true := by
 rcases open_slice_pairs ht he ce o0 o1 c0 c1 h with ⟨rfl, _⟩ | ⟨a, len, cap, m, n, V0, V1, D0, D1, P0, P1, rfl, _, hl, hm, hmm, _, hcell⟩
 · exact ⟨none, [], 0, rfl, .inl rfl, Nat.le_refl _, by decide, by simp⟩
 · have hlm : len <= m := by rw [hmm]; split <;> omega
   have each : ∀ i, i < len -> ∃ q : Int × Int, W.cell? (a.add (i * 2)) = some (.int .i64 q.1) /\ W.cell? (a.add (i * 2 + 1)) = some (.int .i64 q.2) /\ (Lit.int .i64 q.1).wf = true /\ (Lit.int .i64 q.2).wf = true := by
    intro i hi
    obtain ⟨h1, h2, h3, h4⟩ := hcell i (by omega)
    obtain ⟨z0, e0, _, w0⟩ := DataW.trod_int k0 h3
    obtain ⟨z1, e1, _, w1⟩ := DataW.trod_int k1 h4
    simp only [List.cons.injEq, and_true] at e0 e1
    rw [e0] at h1; rw [e1] at h2
    exact ⟨(z0, z1), h1, h2, w0, w1⟩
   let F : Nat -> Int × Int := fun i => if hi : i < len then (each i hi).choose else (0, 0)
   have hF : ∀ i, i < len -> W.cell? (a.add (i * 2)) = some (.int .i64 (F i).1) /\ W.cell? (a.add (i * 2 + 1)) = some (.int .i64 (F i).2) /\ (Lit.int .i64 (F i).1).wf = true /\ (Lit.int .i64 (F i).2).wf = true := by
    intro i hi
    have := (each i hi).choose_spec
    simp only [F, dif_pos hi]
    exact this
   have htl : ((List.range len).map F).length = len := by simp
   refine ⟨some a, (List.range len).map F, cap, by rw [htl], ?_, by omega, by unfold maxLen at hm; omega, ?_⟩
   · rcases Nat.eq_zero_or_pos len with h0 | h0
     · subst h0; exact .inl (by simp [prs])
     · have hsp := World.cell?_spot (hF 0 h0).1
       simp only [Addr.add] at hsp
       obtain ⟨b, off, spot⟩ := a
       simp at hsp
       subst hsp
       refine .inr ⟨b, off, rfl, fun j u hu => ?_⟩
       have hj : j < len * 2 := by
        have := (List.getElem?_eq_some_iff.1 hu).1
        rw [prs_length, htl] at this; exact this
       have hg : ((List.range len).map F)[j / 2]? = some (F (j / 2)) := by
        rw [List.getElem?_map, List.getElem?_range (by omega)]; rfl
       have h1 := prs_fst hg
       have h2 := prs_snd hg
       obtain ⟨g1, g2, _⟩ := hF (j / 2) (by omega)
       rw [Addr.add_lit] at g1 g2
       rcases Nat.mod_two_eq_zero_or_one j with hm | hm
       · have e : j / 2 * 2 = j := by omega
         rw [e] at h1 g1
         rw [h1] at hu; rw [g1]; exact hu
       · have e : j / 2 * 2 + 1 = j := by omega
         rw [e] at h2 g2
         rw [h2] at hu; rw [g2]; exact hu
   · intro t ht2
     obtain ⟨i, hi, rfl⟩ := List.mem_map.1 ht2
     have := hF i (List.mem_range.1 hi)
     exact ⟨this.2.2.1, this.2.2.2⟩
end
end Go.Proofs.YtdpjdifoonfcdaaGreatDoor

namespace Go.Proofs.YtdpjdifoonfcdaaGreatDoor
open Go.RowKit
def bys (l : List Nat) : List Value := l.map fun d => Value.int .u8 (d : Nat)
theorem bys_length (l : List Nat) : (bys l).length = l.length := by simp [bys]
theorem bys_append (a b : List Nat) : bys (a ++ b) = bys a ++ bys b := by simp [bys]
theorem bys_get {l : List Nat} {i d : Nat} (h : l[i]? = some d) : (bys l)[i]? = some (.int .u8 (d : Nat)) := by simp [bys, h]
theorem bys_ne {l : List Nat} (h : 0 < l.length) : bys l ≠ [] := by
 intro e; have := bys_length l; rw [e] at this; simp at this; omega
def chkL (l : List Nat) : Nat := l.foldl (fun n b => (n * 257 + b + 1) % 16777213) 0
theorem chkL_snoc (l : List Nat) (b : Nat) : chkL (l ++ [b]) = (chkL l * 257 + b + 1) % 16777213 := by simp [chkL]
theorem chkL_lt (l : List Nat) : chkL l < 16777213 := by
 rcases List.eq_nil_or_concat l with rfl | ⟨l', b, rfl⟩
 · decide
 · rw [List.concat_eq_append, chkL_snoc]; exact Nat.mod_lt _ (by decide)
theorem check_any (ao : Option Addr) (l : List Nat) (cap : Nat) (w : World) (hc : Cells w ao (bys l)) (hb : ∀ d ∈ l, d < 256) (hl : l.length <= 9223372036854775807) :
 Calls Tryz.prog 184 #[.slice ao l.length cap] w fun e w' => e = .returned (.int .i64 (chkL l : Nat)) /\ w = w' := by
 have HC := Lib.hid hc; have HB := Lib.hid hb; clear hc hb
 go_enter Tryz.func184, Tryz.ntmps184
 go_wp2
 go_loop [3, 8] (fun n i => ∃ k : Nat, k <= l.length /\ i = .int .i64 k /\ n = .int .i64 (chkL (l.take k) : Nat)) (fun _ i => l.length - (intOf i).toNat)
 case atStart => exact ⟨0, Nat.zero_le _, rfl, rfl⟩
 case round =>
  obtain ⟨k, hk, rfl, rfl⟩ := hrel
  have hlt1 := chkL_lt (l.take k)
  by_cases hlt : k < l.length
  · obtain ⟨x, hx⟩ := get_of_lt hlt
    obtain ⟨b, off, rfl⟩ := HC.out.addr (bys_ne (by omega))
    have hcell := HC.out.at (bys_get hx)
    have hx2 := HB.out x (List.mem_of_getElem? hx)
    have hs : chkL (l.take (k + 1)) = (chkL (l.take k) * 257 + x + 1) % 16777213 := by rw [take_get hx, chkL_snoc]
    have HS := Lib.hid hs; clear hs hx
    generalize chkL (l.take k) = n at *
    go_wp2
    go_round
    case rel => exact ⟨k + 1, by omega, by go_num, by rw [HS.out]; simp⟩
    case measure => simp [intOf]; omega
  · obtain rfl : k = l.length := by omega
    go_wp2
    go_ret
    exact ⟨ret_int (by simp), rfl⟩
def foldU (r : Int) : Int := if r < 0 then -2 * r - 1 else 2 * r
theorem folded_any (r : Int) (w : World) (h1 : -1099511627776 <= r) (h2 : r <= 1099511627776) :
 Calls Tryz.prog 233 #[.int .i64 r] w fun e w' => e = .returned (.int .i64 (foldU r)) /\ w = w' := by
 by_cases h : r < 0
 · go_enter Tryz.func233, Tryz.ntmps233
   go_wp2
   go_ret
   exact ⟨ret_int (by rw [foldU, if_pos h]), rfl⟩
 · go_enter Tryz.func233, Tryz.ntmps233
   go_wp2
   go_ret
   exact ⟨ret_int (by rw [foldU, if_neg (by omega)]), rfl⟩
def diffs (xs : List Int) : List Int := (List.range xs.length).map fun i => if i = 0 then xs.getD 0 0 else xs.getD i 0 - xs.getD (i - 1) 0
def resid (xs : List Int) : Nat -> List Int
 | 0 => xs
 | o + 1 => diffs (resid xs o)
theorem diffs_length (xs : List Int) : (diffs xs).length = xs.length := by simp [diffs]
theorem resid_length (xs : List Int) (o : Nat) : (resid xs o).length = xs.length := by
 induction o with
 | zero => rfl
 | succ o ih => simp [resid, diffs_length, ih]
theorem diffs_get {xs : List Int} {i : Nat} (h : i < xs.length) : (diffs xs)[i]? = some (if i = 0 then xs.getD 0 0 else xs.getD i 0 - xs.getD (i - 1) 0) := by
 simp [diffs, h]
theorem diff_step {xs : List Int} {k : Nat} (h0 : 0 < k) (hk : k < xs.length) :
 (xs.take (k + 1) ++ (diffs xs).drop (k + 1)).set k (xs.getD k 0 - xs.getD (k - 1) 0) = xs.take k ++ (diffs xs).drop k := by
 rw [List.take_add_one, List.getElem?_eq_getElem hk, Option.toList_some, List.append_assoc, List.set_append_right _ _ (by rw [List.length_take]; omega)]
 have hl : (xs.take k).length = k := by rw [List.length_take]; omega
 rw [hl, Nat.sub_self]
 have hd : k < (diffs xs).length := by rw [diffs_length]; exact hk
 have := diffs_get hk
 rw [if_neg (by omega)] at this
 rw [List.drop_eq_getElem_cons hd, (List.getElem?_eq_some_iff.1 this).2]
 simp
theorem diff_end {xs : List Int} (h : 0 < xs.length) : xs.take 1 ++ (diffs xs).drop 1 = diffs xs := by
 have hd : 0 < (diffs xs).length := by rw [diffs_length]; exact h
 have := diffs_get h
 rw [if_pos rfl] at this
 have e : (diffs xs) = (diffs xs)[0] :: (diffs xs).drop 1 := by
  have := List.drop_eq_getElem_cons hd
  rwa [List.drop_zero] at this
 have e2 : (diffs xs)[0] = xs.getD 0 0 := (List.getElem?_eq_some_iff.1 this).2
 rw [e2] at e
 conv => rhs; rw [e]
 rw [show xs.take 1 = [xs.getD 0 0] from by
  match xs, h with
  | x :: t, _ => simp]
 rfl
theorem diffs_bd {xs : List Int} {M : Int} (hM : 0 <= M) (h : ∀ x ∈ xs, -M <= x /\ x <= M) : ∀ x ∈ diffs xs, -(2 * M) <= x /\ x <= 2 * M := by
 have hg : ∀ i, -M <= xs.getD i 0 /\ xs.getD i 0 <= M := by
  intro i
  rw [List.getD_eq_getElem?_getD]
  cases hx : xs[i]? with
  | none => simp; omega
  | some x => exact h x (List.mem_of_getElem? hx)
 intro x hx
 simp only [diffs, List.mem_map, List.mem_range] at hx
 obtain ⟨i, _, rfl⟩ := hx
 have h1 := hg 0; have h2 := hg i; have h3 := hg (i - 1)
 split <;> omega
theorem resid_bd {xs : List Int} (h : ∀ x ∈ xs, -8388608 <= x /\ x <= 8388608) (o : Nat) (ho : o <= 3) : ∀ x ∈ resid xs o, -67108864 <= x /\ x <= 67108864 := by
 match o, ho with
 | 0, _ => intro x hx; have := h x hx; omega
 | 1, _ => intro x hx; have := diffs_bd (M := 8388608) (by omega) h x hx; omega
 | 2, _ => intro x hx; have := diffs_bd (M := 16777216) (by omega) (diffs_bd (M := 8388608) (by omega) h) x hx; omega
 | 3, _ => intro x hx; have := diffs_bd (M := 33554432) (by omega) (diffs_bd (M := 16777216) (by omega) (diffs_bd (M := 8388608) (by omega) h)) x hx; omega
theorem clone_any (ao : Option Addr) (xs : List Int) (cap : Nat) (w : World) (hc : Cells w ao (xs.map (Value.int .i64))) (hl : xs.length * 8 <= 140737488355328) :
 Calls Tryz.prog 165 #[.slice ao xs.length cap] w fun e w' => (∃ v, e = .returned v /\ w'.ownsRow w.heap.size 3 1 v xs.length (xs.map (Value.int .i64))) /\ Below w.heap.size w w' := by
 by_cases h0 : xs = []
 · subst h0
   cases ao with
   | none =>
     refine (Tryz.slices_Clone_int_nil 0 cap w).mono ?_
     rintro e w' ⟨rfl, rfl⟩
     exact ⟨⟨_, rfl, World.ownsRow_nil _ _ _ _⟩, Below.refl _ _⟩
   | some a =>
     refine (Tryz.slices_Clone_int_zero a cap w).mono ?_
     rintro e w' ⟨v, rfl, ho, _, hb⟩
     exact ⟨⟨_, rfl, ho⟩, hb⟩
 · obtain ⟨b, off, rfl⟩ := hc.addr (by simpa using h0)
   refine (Tryz.slices_Clone_int b off xs.length cap xs w (Nat.le_refl _) hl (fun j hj => ?_)).mono ?_
   · obtain ⟨x, hx⟩ := get_of_lt hj
     rw [List.getD_eq_getElem?_getD, hx]
     exact hc.int hx
   · rintro e w' ⟨v, rfl, ho, _, hb⟩
     rw [List.take_length] at ho
     exact ⟨⟨_, rfl, ho⟩, hb⟩
end Go.Proofs.YtdpjdifoonfcdaaGreatDoor

namespace Go.Proofs.YtdpjdifoonfcdaaGreatDoor
open Go.RowKit Go.WideShapes Go.ChangeShapes Go.Deep Go.Joins
section
variable {H : Type} {enc : TypeId × Value -> H} {P : Program}
def dlen : DataW H -> Nat
 | .slice elems _ => elems.length
 | _ => 0
end
end Go.Proofs.YtdpjdifoonfcdaaGreatDoor

namespace Go.Proofs.YtdpjdifoonfcdaaGreatDoor
open Go.RowKit Go.WideShapes Go.ChangeShapes Go.Deep Go.Joins
section
variable {H : Type} {enc : TypeId × Value -> H} {P : Program}
theorem rd_ints2 {W : World} {base : Nat} {sp : Nat -> Bool} {held : Bool} {t e : TypeId} {fuel : Nat} {cs : List Value} {x : DataW H × List MemPlace} (ht : P.underlying t = some (.slice e)) (he : P.underlying e = some (.int .i64)) (hc : P.cellsOf e = 1)
 (h : DataW.trod enc P W base sp held fuel t cs = some x) :
 ∃ (ao : Option Addr) (xs : List Int) (cap : Nat), cs = [.slice ao xs.length cap] /\ Cells W ao (xs.map (Value.int .i64)) /\ xs.length <= cap /\ cap <= 9223372036854775807 /\ (∀ x ∈ xs, (Lit.int .i64 x).wf = true) /\ xs.length <= dlen x.1 /\ (ao = none -> cap = 0) := by
 obtain ⟨a0, xs0, c0, h1, h2, h3, h4, h5⟩ := rd_ints ht he hc h
 refine ⟨a0, xs0, c0, h1, h2, h3, h4, h5, ?_⟩
 rcases open_ints ht he hc h with ⟨rfl, _⟩ | ⟨a, len, cap, zs, rfl, _, hl, hm, hz, hx, hcell, hwf⟩
 · simp only [List.cons.injEq, Value.slice.injEq, and_true] at h1
   obtain ⟨rfl, h6, rfl⟩ := h1
   exact ⟨by omega, fun _ => rfl⟩
 · simp only [List.cons.injEq, Value.slice.injEq, and_true] at h1
   obtain ⟨rfl, h6, rfl⟩ := h1
   have hzl : len <= zs.length := by rw [hz]; split <;> omega
   refine ⟨?_, fun h => by cases h⟩
   rw [hx]
   simp [dlen, lits]
   omega
theorem reach_all {ts : List TypeId} {ds : List (DataW H)} (h : (DataW.weightsEach P ts ds).all (· <= reachBytes) = true) {j : Nat} {t : TypeId} {d : DataW H} (ht : ts[j]? = some t) (hd : ds[j]? = some d) : ∀ n ∈ d.weights P t, n <= reachBytes := fun n hn => by
 have := List.all_eq_true.1 h _ (DataW.weights_mem_each ht hd n hn)
 simpa using this
theorem reach_dlen {d : DataW H} {t e : TypeId} (hu : P.underlying t = some (.slice e)) (hb : P.bytesOf e = 8) (h : ∀ n ∈ d.weights P t, n <= reachBytes) : dlen d <= 17592186044415 := by
 cases d with
 | slice elems spare =>
   have h1 := h ((elems.length + spare.length) * P.bytesOf e) (by simp [DataW.weights, hu])
   rw [hb] at h1
   have h2 : reachBytes = 140737488351232 := rfl
   simp only [dlen]
   omega
 | _ => simp [dlen]
end
theorem pow10_data : (Rows.laid_internal_strconv_uint64pow10 : DataW Unit) = Lib.tabData .u64 Lib.pow10Tab := rfl
theorem pow10_global : Tryz.prog.globalNamed "internal/strconv.uint64pow10" = some 3 := by kernel_rfl
theorem pow10_type : (Tryz.prog.globals[3]?).map (·.type) = some 430 := by kernel_rfl
theorem tab_of_laid {W : World} (h : laidMet Tryz.prog [("math/bits.deBruijn32tab", Rows.laid_math_bits_deBruijn32tab), ("math/bits.deBruijn64tab", Rows.laid_math_bits_deBruijn64tab), ("internal/strconv.uint64pow10", Rows.laid_internal_strconv_uint64pow10)] W) : Tab W := by
 obtain ⟨_, ⟨_, _, _, _, _, _, _, _, _, _, ⟨_, _, _, _, _, _, _, _, _, _, ⟨g', t', cs, fuel, p, q, hg', ht', hvar, hd, _, _⟩, _⟩, _⟩, _⟩ := h
 obtain rfl := Option.some.inj (pow10_global.symm.trans hg')
 obtain rfl := Option.some.inj (pow10_type.symm.trans ht')
 unfold Tab Lib.TabIs
 rw [hvar]
 rw [pow10_data] at hd
 rw [<- Lib.cells_of_tab Tryz.underlying430 Tryz.underlying208 (by kernel_rfl) (by kernel_rfl) hd]
end Go.Proofs.YtdpjdifoonfcdaaGreatDoor
