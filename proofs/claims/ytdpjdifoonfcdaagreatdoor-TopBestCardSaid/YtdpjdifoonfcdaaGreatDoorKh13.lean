/- Parts of a proof, in build order: NM, NP, NR, NS, NU. -/
import Derived.Test.YtdpjdifoonfcdaaGreatDoorKh12
import Derived.Deep.CutRange

namespace Go.Proofs.YtdpjdifoonfcdaaGreatDoor
open Go.RowKit
abbrev rsl (n : Nat) (r : Nat × Nat) : Value := .slice (some ⟨r.1, 0, none⟩) (n + 1) r.2
structure MatB (w : World) (A n : Nat) (Rs : List (Nat × Nat)) (rows : List (List Rat)) : Prop where
 len : Rs.length = n
 outer : ∃ rest, Blk w A 227 (Rs.map (rsl n) ++ rest).toArray
 row : ∀ (i : Nat) r xs, Rs[i]? = some r -> rows[i]? = some xs -> RowB w r.1 xs
 rows : Rows rows n (n + 1)
 dist : ∀ (i j : Nat) r s, Rs[i]? = some r -> Rs[j]? = some s -> i ≠ j -> r.1 ≠ s.1
theorem MatB.cell {w : World} {A n : Nat} {Rs : List (Nat × Nat)} {rows : List (List Rat)} (h : MatB w A n Rs rows) {i : Nat} {r : Nat × Nat} (hr : Rs[i]? = some r) : w.cell? ⟨A, i, none⟩ = some (rsl n r) := by
 obtain ⟨rest, hb⟩ := h.outer
 have hi : i < (Rs.map (rsl n)).length := by rw [List.length_map]; exact (List.getElem?_eq_some_iff.1 hr).1
 rw [hb.cell, List.getElem?_toArray, List.getElem?_append_left hi, List.getElem?_map, hr]; rfl
theorem MatB.free {w : World} {A n : Nat} {Rs : List (Nat × Nat)} {rows : List (List Rat)} (h : MatB w A n Rs rows) (i : Nat) : w.frozen? ⟨A, i, none⟩ = false := by obtain ⟨_, hb⟩ := h.outer; exact hb.free i
theorem MatB.lt {w : World} {A n : Nat} {Rs : List (Nat × Nat)} {rows : List (List Rat)} (h : MatB w A n Rs rows) : A < w.heap.size := by obtain ⟨_, hb⟩ := h.outer; exact hb.lt
theorem MatB.get {w : World} {A n : Nat} {Rs : List (Nat × Nat)} {rows : List (List Rat)} (h : MatB w A n Rs rows) {i : Nat} (hi : i < n) : ∃ r xs, Rs[i]? = some r /\ rows[i]? = some xs /\ xs.length = n + 1 /\ rows.getD i [] = xs /\ RowB w r.1 xs := by
 obtain ⟨r, hr⟩ := get_of_lt (show i < Rs.length by rw [h.len]; exact hi)
 obtain ⟨xs, h1, h2, h3, -⟩ := h.rows.get hi
 exact ⟨r, xs, hr, h1, h2, h3, h.row i r xs hr h1⟩
theorem MatB.ne {w : World} {A n : Nat} {Rs : List (Nat × Nat)} {rows : List (List Rat)} (h : MatB w A n Rs rows) {i : Nat} {r : Nat × Nat} (hr : Rs[i]? = some r) : A ≠ r.1 := by
 intro e
 have hi : i < n := by have := (List.getElem?_eq_some_iff.1 hr).1; rw [h.len] at this; exact this
 obtain ⟨r', xs, hr', hx, -, -, hb⟩ := h.get hi
 rw [hr] at hr'
 obtain rfl := Option.some.inj hr'
 obtain ⟨_, h1⟩ := h.outer
 obtain ⟨cs, _, h2, -⟩ := hb
 rw [e] at h1
 have h3 := h1.symm.trans h2
 injection h3 with h3
 injection h3 with _ h3
 exact absurd h3 (by decide)
theorem MatB.kp {P : Nat -> Prop} {w w' : World} {A n : Nat} {Rs : List (Nat × Nat)} {rows : List (List Rat)} (h : MatB w A n Rs rows) (hk : Kp P w w') (hA : ¬ P A) (hR : ∀ (i : Nat) r, Rs[i]? = some r -> ¬ P r.1) : MatB w' A n Rs rows := by
 obtain ⟨rest, hb⟩ := h.outer
 exact ⟨h.len, ⟨rest, hk.blk hb hA⟩, fun i r xs h1 h2 => (h.row i r xs h1 h2).kp hk (hR i r h1), h.rows, h.dist⟩
theorem MatB.below {w w' : World} {A n : Nat} {Rs : List (Nat × Nat)} {rows : List (List Rat)} (h : MatB w A n Rs rows) (hb : Below w.heap.size w w') : MatB w' A n Rs rows := h.kp (P := fun _ => False) (Kp.of_below hb) (fun h => h) (fun _ _ _ h => h)
theorem MatB.setRow {w w' : World} {A n i : Nat} {Rs : List (Nat × Nat)} {rows : List (List Rat)} {r : Nat × Nat} {ys : List Rat} (h : MatB w A n Rs rows) (hr : Rs[i]? = some r) (hb : RowB w' r.1 ys) (hl : ys.length = n + 1) (hk : Kp (fun g => g = r.1) w w') : MatB w' A n Rs (rows.set i ys) := by
 obtain ⟨rest, ho⟩ := h.outer
 refine ⟨h.len, ⟨rest, hk.blk ho (h.ne hr)⟩, fun j s xs h1 h2 => ?_, ⟨by rw [List.length_set]; exact h.rows.1, fun x hx => ?_⟩, h.dist⟩
 · rw [List.getElem?_set] at h2
   by_cases hij : i = j
   · subst hij
     rw [hr] at h1
     obtain rfl := Option.some.inj h1
     rw [if_pos rfl] at h2
     split at h2
     · obtain rfl := Option.some.inj h2; exact hb
     · cases h2
   · rw [if_neg hij] at h2
     exact (h.row j s xs h1 h2).kp hk (fun e => h.dist j i s r h1 hr (fun h0 => hij h0.symm) e)
 · rcases List.mem_or_eq_of_mem_set hx with h3 | h3
   · exact h.rows.2 x h3
   · rw [h3, hl]
theorem NatV.one {w : World} {v : Value} {n : Nat} (h : NatV w v n) {p : Addr} {v0 : Value} (hp : w.cell? p = some v0) (hn : NoNum v0) (u : Value) : NatV (w.setCell p u) v n := h.set hp hn
theorem Kp.cellSet {w : World} {A i : Nat} {v0 : Value} (hp : w.cell? ⟨A, i, none⟩ = some v0) (hn : NoNum v0) (u : Value) : Kp (fun g => g = A) w (w.setCell ⟨A, i, none⟩ u) := by
 have hb := (Below.refl 0 w).setCell (p := ⟨A, i, none⟩) (Nat.zero_le _) u
 exact ⟨hb.os, hb.tape, hb.output, hb.size, fun g _ hg => heap_setCell_other _ _ _ _ hg, fun v n hv => hv.set hp hn⟩
theorem MatB.putRow {w : World} {A n i : Nat} {Rs : List (Nat × Nat)} {rows : List (List Rat)} {r s : Nat × Nat} (h : MatB w A n Rs rows) (hr : Rs[i]? = some r) : (∃ rest, Blk (w.setCell ⟨A, i, none⟩ (rsl n s)) A 227 ((Rs.set i s).map (rsl n) ++ rest).toArray) /\ Kp (fun g => g = A) w (w.setCell ⟨A, i, none⟩ (rsl n s)) := by
 obtain ⟨rest, ho⟩ := h.outer
 refine ⟨⟨rest, ?_⟩, Kp.cellSet (h.cell hr) trivial _⟩
 have := ho.setAt i (rsl n s)
 rw [List.setIfInBounds_toArray, List.set_append_left _ _ (by rw [List.length_map]; exact (List.getElem?_eq_some_iff.1 hr).1), <- List.map_set] at this
 exact this
theorem MatB.swap {w : World} {A n p k : Nat} {Rs : List (Nat × Nat)} {rows : List (List Rat)} {r s : Nat × Nat} (h : MatB w A n Rs rows) (hr : Rs[p]? = some r) (hs : Rs[k]? = some s) (hpk : p ≠ k) :
 MatB ((w.setCell ⟨A, p, none⟩ (rsl n s)).setCell ⟨A, k, none⟩ (rsl n r)) A n ((Rs.set p s).set k r) (swapQ rows p k) /\ Kp (fun g => g = A) w ((w.setCell ⟨A, p, none⟩ (rsl n s)).setCell ⟨A, k, none⟩ (rsl n r)) := by
 have hp1 : p < n := by have := (List.getElem?_eq_some_iff.1 hr).1; rw [h.len] at this; exact this
 have hk1 : k < n := by have := (List.getElem?_eq_some_iff.1 hs).1; rw [h.len] at this; exact this
 obtain ⟨⟨rest, h1⟩, hkp⟩ := h.putRow (s := s) hr
 have hs2 : (Rs.set p s)[k]? = some s := by rw [List.getElem?_set, if_neg hpk]; exact hs
 have hc2 : (w.setCell ⟨A, p, none⟩ (rsl n s)).cell? ⟨A, k, none⟩ = some (rsl n s) := by
  rw [h1.cell, List.getElem?_toArray, List.getElem?_append_left (by rw [List.length_map, List.length_set, h.len]; exact hk1), List.getElem?_map, hs2]; rfl
 have h2 := h1.setAt k (rsl n r)
 rw [List.setIfInBounds_toArray, List.set_append_left _ _ (by rw [List.length_map, List.length_set, h.len]; exact hk1), <- List.map_set] at h2
 have hkp2 := hkp.trans (Kp.cellSet hc2 trivial (rsl n r))
 have hget : ∀ i, ((Rs.set p s).set k r)[i]? = if i = k then Rs[p]? else if i = p then Rs[k]? else Rs[i]? := by
  intro i
  rw [List.getElem?_set, List.length_set, hr, hs]
  by_cases e1 : k = i
  · rw [if_pos e1, if_pos (by rw [h.len]; omega), if_pos e1.symm]
  · rw [if_neg e1, if_neg (fun e => e1 e.symm), List.getElem?_set]
    by_cases e2 : p = i
    · rw [if_pos e2, if_pos (by rw [h.len]; omega), if_pos e2.symm]
    · rw [if_neg e2, if_neg (fun e => e2 e.symm)]
 refine ⟨⟨by rw [List.length_set, List.length_set]; exact h.len, ⟨rest, h2⟩, fun i t xs g1 g2 => ?_, swapQ_rows h.rows hp1 hk1, fun i j t u g1 g2 hij => ?_⟩, hkp2⟩
 · rw [hget] at g1
   rw [swapQ_get h.rows hp1 hk1] at g2
   have key : ∀ j, Rs[j]? = some t -> rows[j]? = some xs -> RowB ((w.setCell ⟨A, p, none⟩ (rsl n s)).setCell ⟨A, k, none⟩ (rsl n r)) t.1 xs := fun j e1 e2 => (h.row j t xs e1 e2).kp hkp2 (fun e => h.ne e1 e.symm)
   split at g1
   · rename_i e; rw [if_pos e] at g2; exact key p g1 g2
   · rename_i e; rw [if_neg e] at g2
     split at g1
     · rename_i e'; rw [if_pos e'] at g2; exact key k g1 g2
     · rename_i e'; rw [if_neg e'] at g2; exact key i g1 g2
 · rw [hget] at g1 g2
   by_cases a1 : i = k
   · rw [if_pos a1] at g1
     rw [if_neg (by omega)] at g2
     by_cases b2 : j = p
     · rw [if_pos b2] at g2; exact h.dist p k t u g1 g2 hpk
     · rw [if_neg b2] at g2; exact h.dist p j t u g1 g2 (fun e => b2 e.symm)
   · rw [if_neg a1] at g1
     by_cases a2 : i = p
     · rw [if_pos a2] at g1
       by_cases b1 : j = k
       · rw [if_pos b1] at g2; exact h.dist k p t u g1 g2 (fun e => hpk e.symm)
       · rw [if_neg b1, if_neg (by omega)] at g2; exact h.dist k j t u g1 g2 (fun e => b1 e.symm)
     · rw [if_neg a2] at g1
       by_cases b1 : j = k
       · rw [if_pos b1] at g2; exact h.dist i p t u g1 g2 a2
       · rw [if_neg b1] at g2
         by_cases b2 : j = p
         · rw [if_pos b2] at g2; exact h.dist i k t u g1 g2 a1
         · rw [if_neg b2] at g2; exact h.dist i j t u g1 g2 hij
def Ps (A : Nat) (Rs : List (Nat × Nat)) (g : Nat) : Prop := g = A ∨ ∃ r ∈ Rs, r.1 = g
theorem Ps.row {A : Nat} {Rs : List (Nat × Nat)} {i : Nat} {r : Nat × Nat} (h : Rs[i]? = some r) : ∀ g, g = r.1 -> Ps A Rs g := fun _ e => .inr ⟨r, List.mem_of_getElem? h, e.symm⟩
theorem Ps.sub {A : Nat} {Rs Rs' : List (Nat × Nat)} (h : ∀ r ∈ Rs', r ∈ Rs) : ∀ g, Ps A Rs' g -> Ps A Rs g := fun _ hg => hg.imp id (fun ⟨r, h1, h2⟩ => ⟨r, h r h1, h2⟩)
def divTo (c : Rat) (xs : List Rat) (i : Nat) : List Rat := (xs.map (· * c)).take i ++ xs.drop i
theorem divTo_zero (c : Rat) (xs : List Rat) : divTo c xs 0 = xs := by simp [divTo]
theorem divTo_all (c : Rat) (xs : List Rat) : divTo c xs xs.length = xs.map (· * c) := by
 unfold divTo; rw [List.drop_length, List.append_nil, List.take_of_length_le (by rw [List.length_map]; exact Nat.le_refl _)]
theorem divTo_len (c : Rat) (xs : List Rat) (i : Nat) : (divTo c xs i).length = xs.length := by
 unfold divTo; rw [List.length_append, List.length_take, List.length_map, List.length_drop]; omega
theorem divTo_get {c : Rat} {xs : List Rat} {i : Nat} {x : Rat} (hx : xs[i]? = some x) : (divTo c xs i)[i]? = some x := by
 have hi := (List.getElem?_eq_some_iff.1 hx).1
 have hl : ((xs.map (· * c)).take i).length = i := by rw [List.length_take, List.length_map]; omega
 unfold divTo
 rw [List.getElem?_append_right (by omega), hl, Nat.sub_self, List.getElem?_drop, Nat.add_zero, hx]
theorem divTo_set {c : Rat} {xs : List Rat} {i : Nat} {x : Rat} (hx : xs[i]? = some x) : (divTo c xs i).set i (x * c) = divTo c xs (i + 1) := by
 have hi := (List.getElem?_eq_some_iff.1 hx).1
 have hl : ((xs.map (· * c)).take i).length = i := by rw [List.length_take, List.length_map]; omega
 unfold divTo
 rw [List.set_append_right _ _ (by omega), hl, Nat.sub_self, List.drop_eq_getElem_cons hi, List.set_cons_zero, List.take_add_one, List.getElem?_map, hx]
 simp
def clearTo (a : List (List Rat)) (k : Nat) (b : List Rat) (i : Nat) : List (List Rat) := a.mapIdx fun j r => if j = k then b else if j < i then lessRow (r.getD k 0) b r else r
theorem clearTo_get {a : List (List Rat)} {k : Nat} {b : List Rat} {i j : Nat} {r : List Rat} (h : a[j]? = some r) : (clearTo a k b i)[j]? = some (if j = k then b else if j < i then lessRow (r.getD k 0) b r else r) := by
 unfold clearTo; rw [List.getElem?_mapIdx, h]; rfl
theorem clearTo_zero (a : List (List Rat)) (k : Nat) (b : List Rat) : clearTo a k b 0 = a.set k b := by
 refine List.ext_getElem? fun j => ?_
 unfold clearTo
 rw [List.getElem?_mapIdx, List.getElem?_set]
 by_cases h : k = j
 · subst h
   rw [if_pos rfl]
   by_cases hl : k < a.length
   · rw [if_pos hl, List.getElem?_eq_getElem hl]; simp
   · rw [if_neg hl, List.getElem?_eq_none (by omega)]; rfl
 · rw [if_neg h]
   cases a[j]? with
   | none => rfl
   | some r => simp [show ¬ j = k from fun e => h e.symm]
theorem clearTo_all {a : List (List Rat)} {k n : Nat} (h : a.length = n) : clearTo a k ((a.getD k []).map (· * (ent a k k)⁻¹)) n = clearQ a k := by
 refine List.ext_getElem? fun j => ?_
 unfold clearTo clearQ
 rw [List.getElem?_mapIdx, List.getElem?_mapIdx]
 cases hj : a[j]? with
 | none => rfl
 | some r =>
   have := (List.getElem?_eq_some_iff.1 hj).1
   simp only [Option.map_some]
   rw [if_pos (show j < n by omega)]
theorem clearTo_step {a : List (List Rat)} {k : Nat} {b : List Rat} {i : Nat} {r : List Rat} (h : a[i]? = some r) (hik : i ≠ k) : (clearTo a k b i).set i (lessRow (r.getD k 0) b r) = clearTo a k b (i + 1) := by
 refine List.ext_getElem? fun j => ?_
 have hl := (List.getElem?_eq_some_iff.1 h).1
 rw [List.getElem?_set]
 by_cases hij : i = j
 · subst hij
   rw [if_pos rfl, if_pos (by unfold clearTo; rw [List.length_mapIdx]; exact hl), clearTo_get h, if_neg hik, if_pos (by omega)]
 · rw [if_neg hij]
   unfold clearTo
   rw [List.getElem?_mapIdx, List.getElem?_mapIdx]
   cases a[j]? with
   | none => rfl
   | some r =>
     simp only [Option.map_some]
     by_cases hjk : j = k
     · rw [if_pos hjk, if_pos hjk]
     · rw [if_neg hjk, if_neg hjk]
       by_cases hji : j < i
       · rw [if_pos hji, if_pos (by omega)]
       · rw [if_neg hji, if_neg (by omega)]
theorem clearTo_skip (a : List (List Rat)) (k : Nat) (b : List Rat) : clearTo a k b (k + 1) = clearTo a k b k := by
 refine List.ext_getElem? fun j => ?_
 unfold clearTo
 rw [List.getElem?_mapIdx, List.getElem?_mapIdx]
 cases a[j]? with
 | none => rfl
 | some r =>
   simp only [Option.map_some]
   by_cases hjk : j = k
   · rw [if_pos hjk, if_pos hjk]
   · rw [if_neg hjk, if_neg hjk]
     by_cases hji : j < k
     · rw [if_pos hji, if_pos (by omega)]
     · rw [if_neg hji, if_neg (by omega)]
theorem pivAt_step {a : List (List Rat)} {k p : Nat} (hp : p < a.length) (h0 : ent a p k = 0) : pivAt a k (a.length - p) = pivAt a k (a.length - (p + 1)) := by
 have e : a.length - p = (a.length - (p + 1)) + 1 := by omega
 rw [e]
 conv => lhs; unfold pivAt
 have e2 : a.length - (a.length - (p + 1) + 1) = p := by omega
 simp only [e2, h0]
 simp
theorem pivAt_here {a : List (List Rat)} {k p : Nat} (hp : p < a.length) (h0 : ent a p k ≠ 0) : pivAt a k (a.length - p) = some p := by
 have e : a.length - p = (a.length - (p + 1)) + 1 := by omega
 rw [e]
 unfold pivAt
 have e2 : a.length - (a.length - (p + 1) + 1) = p := by omega
 simp only [e2]
 rw [if_pos h0]
theorem swapQ_same {a : List (List Rat)} {k : Nat} {r : List Rat} (h : a[k]? = some r) : swapQ a k k = a := by
 refine List.ext_getElem? fun j => ?_
 unfold swapQ
 have e : a.getD k [] = r := by rw [List.getD, h]; rfl
 have hl := (List.getElem?_eq_some_iff.1 h).1
 rw [e, List.set_set, List.getElem?_set]
 by_cases hj : k = j
 · rw [if_pos hj, if_pos hl, <- hj, h]
 · rw [if_neg hj]
end Go.Proofs.YtdpjdifoonfcdaaGreatDoor

namespace Go.Proofs.YtdpjdifoonfcdaaGreatDoor
open Go.RowKit
theorem Kp.narrow {P P' : Nat -> Prop} {w w1 w' : World} (h : Kp P' w1 w') (hb : Below w.heap.size w w1) (hp : ∀ g, P' g -> P g ∨ w.heap.size <= g) : Kp P w w' := by
 have h0 : Kp P w w1 := Kp.of_below hb
 refine ⟨h.os.trans hb.os, h.tape.trans hb.tape, h.output.trans hb.output, Nat.le_trans hb.size h.size, fun g hg hn => ?_, fun v n hv => h.num v n (h0.num v n hv)⟩
 refine (h.block g (Nat.lt_of_lt_of_le hg hb.size) (fun h1 => ?_)).trans (hb.block g hg)
 rcases hp g h1 with h2 | h2
 · exact hn h2
 · omega
theorem Kp.six {w : World} {b o : Nat} {x0 x1 x2 x3 x4 x5 : Value} (q0 : w.cell? ⟨b, o, none⟩ = some x0) (q1 : w.cell? ⟨b, o + 1, none⟩ = some x1) (q2 : w.cell? ⟨b, o + 2, none⟩ = some x2)
 (q3 : w.cell? ⟨b, o + 3, none⟩ = some x3) (q4 : w.cell? ⟨b, o + 4, none⟩ = some x4) (q5 : w.cell? ⟨b, o + 5, none⟩ = some x5)
 (n0 : NoNum x0) (n1 : NoNum x1) (n2 : NoNum x2) (n3 : NoNum x3) (n4 : NoNum x4) (n5 : NoNum x5) (u0 u1 u2 u3 u4 u5 : Value) : Kp (fun g => g = b) w (set6 w b o u0 u1 u2 u3 u4 u5) := by
 have hb6 : Below 0 w (set6 w b o u0 u1 u2 u3 u4 u5) := ((((((Below.refl 0 w).setCell (Nat.zero_le _) _).setCell (Nat.zero_le _) _).setCell (Nat.zero_le _) _).setCell (Nat.zero_le _) _).setCell (Nat.zero_le _) _).setCell (Nat.zero_le _) _
 refine ⟨hb6.os, hb6.tape, hb6.output, hb6.size, fun g _ hp => ?_, fun v n hv => hv.six q0 q1 q2 q3 q4 q5 n0 n1 n2 n3 n4 n5 u0 u1 u2 u3 u4 u5⟩
 have hne : ∀ i, g ≠ (⟨b, i, none⟩ : Addr).block := fun i h0 => hp h0
 exact (heap_setCell_other _ _ _ _ (hne _)).trans ((heap_setCell_other _ _ _ _ (hne _)).trans ((heap_setCell_other _ _ _ _ (hne _)).trans ((heap_setCell_other _ _ _ _ (hne _)).trans ((heap_setCell_other _ _ _ _ (hne _)).trans (heap_setCell_other _ _ _ _ (hne _))))))
theorem RowB.box {w : World} {G : Nat} {q : Rat} {c : List Value} (h : Blk w G 148 c.toArray) (hn : NCell w c (pq q)) : RowB w G [q] := by
 refine ⟨[c], [], by simpa using h, rfl, fun i d t h1 h2 => ?_⟩
 match i, h1, h2 with
 | 0, h1, h2 => obtain rfl := Option.some.inj h1; obtain rfl := Option.some.inj h2; exact hn
 | i + 1, h1, h2 => simp at h1
theorem hgt_one : hgt 1 = 1 := by
 unfold hgt
 have h1 : dig (qN 1) = [1] := dig_1
 have h2 : dig (qD 1) = [1] := dig_1
 rw [h1, h2]; rfl
set_option maxRecDepth 100000 in
set_option maxHeartbeats 8000000 in
theorem elim_any (A n cA : Nat) (Rs : List (Nat × Nat)) (rows : List (List Rat)) (H : Nat) (w : World) (hM : MatB w A n Rs rows) (hn : n <= 4) (hbd : BdQ rows H) (h1H : 1 <= H) (hH : H <= 300) :
 Calls Tryz.prog 130 #[.slice (some ⟨A, 0, none⟩) n cA] w fun e w' => ∃ v δ, e = .returned v /\ VQ w' v δ /\ Kp (Ps A Rs) w w' /\ ((elimQ 0 n rows = none /\ δ = 0) ∨ (δ ≠ 0 /\ ∃ rows' Rs', elimQ 0 n rows = some rows' /\ MatB w' A n Rs' rows' /\ ∀ r ∈ Rs', r ∈ Rs)) := by
 have HM := Lib.hid hM; have HBD := Lib.hid hbd
 have hAl := hM.lt
 have hRl : ∀ r ∈ Rs, r.1 < w.heap.size := fun r hr => by
  obtain ⟨i, hi⟩ := List.mem_iff_getElem?.1 hr
  have hin : i < n := by have := (List.getElem?_eq_some_iff.1 hi).1; rw [hM.len] at this; exact this
  obtain ⟨r', xs, hr', -, -, -, hb⟩ := hM.get hin
  rw [hi] at hr'
  obtain rfl := Option.some.inj hr'
  exact hb.lt
 have HRL := Lib.hid hRl
 obtain ⟨E, hE⟩ : ∃ E, elimQ 0 n rows = E := ⟨_, rfl⟩
 rw [hE]
 have HE := Lib.hid hE
 have hwh := fun (x : Int) W (h : -9223372036854775808 <= x) (h2 : x <= 9223372036854775807) => whole_any x W h h2
 have HW1 : Hid (∀ W, Calls Tryz.prog 82 #[.int .i64 1] W fun e w' => (∃ v, e = .returned v /\ RatV w' v false 1 1) /\ Below W.heap.size W w') := fun W => hwh 1 W (by omega) (by omega)
 have HWZ : Hid (∀ W, Calls Tryz.prog 82 #[.int .i64 0] W fun e w' => (∃ v, e = .returned v /\ RatV w' v false 0 1) /\ Below W.heap.size W w') := fun W => hwh 0 W (by omega) (by omega)
 obtain ⟨W0, hW0⟩ : ∃ W0, W0 = w.alloc (.cells #[.bool false, .slice none 0 0, .slice none 0 0, .bool false, .slice none 0 0, .slice none 0 0] 148) := ⟨_, rfl⟩
 have hb0 : Below w.heap.size w W0 := by rw [hW0]; exact (Below.refl _ _).alloc (Nat.le_refl _) _
 have hbkD : Blk W0 w.heap.size 148 #[.bool false, .slice none 0 0, .slice none 0 0, .bool false, .slice none 0 0, .slice none 0 0] := by rw [hW0]; exact Blk.new w _ _
 have hz0 : W0.heap.size = w.heap.size + 1 := by rw [hW0]; simp
 have HB0 := Lib.hid hb0; have HBKD := Lib.hid hbkD
 clear hM hbd hRl hE hwh hb0 hbkD
 go_enter Tryz.func130, Tryz.ntmps130
 go_wp2_with fail
 rw [<- hW0]
 clear hW0
 refine (HW1.out _).mono ?_
 rintro e w2 ⟨⟨v2, rfl, hv2⟩, hb2⟩
 obtain ⟨z1, y1, z2, y2, rfl, -, -⟩ := hv2.slices
 go_wp2_with fail
 refine (plain_any false 1 1 _ _ hv2).mono ?_
 rintro e w3 ⟨⟨v3, rfl, hv3⟩, hb3⟩
 have HV3 : Hid (VQ w3 v3 1) := Lib.hid hv3
 obtain ⟨b1, d1, b2, d2, b3, d3, b4, d4, rfl, -, -, -, -⟩ := hv3.slices
 have hb13 : Below W0.heap.size W0 w3 := hb2.trans (hb3.mono hb2.size)
 obtain ⟨W4, hW4⟩ : ∃ W4, W4 = w3.alloc (.cells #[Value.bool false, .slice b1 (dig 1).length d1, .slice b2 (dig 1).length d2, .bool false, .slice b3 (dig 0).length d3, .slice b4 (dig 1).length d4] 148) := ⟨_, rfl⟩
 have hal3 : Below w3.heap.size w3 W4 := by rw [hW4]; exact (Below.refl w3.heap.size w3).alloc (Nat.le_refl _) _
 have hbkG : Blk W4 w3.heap.size 148 #[Value.bool false, .slice b1 (dig 1).length d1, .slice b2 (dig 1).length d2, .bool false, .slice b3 (dig 0).length d3, .slice b4 (dig 1).length d4] := by rw [hW4]; exact Blk.new w3 _ _
 have hrb : RowB W4 w3.heap.size [1] := RowB.box hbkG (by
  obtain ⟨k1, k2, k3, k4, e, j1, j2, j3, j4⟩ := HV3.out.below hal3 (Nat.le_refl _)
  injection e with e
  simp only [Array.mk.injEq, List.cons.injEq, and_true, true_and] at e
  obtain ⟨-, rfl, rfl, rfl, rfl⟩ := e
  exact ⟨_, _, _, _, _, _, _, _, rfl, j1, j2, j3, j4⟩)
 have hb14 : Below W0.heap.size W0 W4 := hb13.trans (hal3.mono hb13.size)
 have hb04 := HB0.out.trans (hb14.mono HB0.out.size)
 have HRB := Lib.hid hrb; have HB04 := Lib.hid hb04
 have HM4 := Lib.hid (HM.out.below hb04)
 have HBKD4 := Lib.hid (HBKD.out.below hb14 (by omega))
 have hsz3 := hb13.size
 have hsz4 : w3.heap.size < W4.heap.size := hrb.lt
 obtain ⟨G, hG⟩ : ∃ G, G = w3.heap.size := ⟨_, rfl⟩
 rw [<- hG] at HRB hsz3 hsz4
 clear hv3 hv2 hbkG hrb hb14 hal3 hb13 hb2 hb3 HV3 hb04
 go_wp2_with fail
 rw [<- hW4, <- hG]
 clear hW4 hG
 go_loopw [14] (fun iv wr => ∃ (k : Nat) (Rs' : List (Nat × Nat)) (rows' : List (List Rat)) (δ : Rat), k <= n /\ iv = .int .i64 k /\ MatB wr A n Rs' rows' /\ (∀ r ∈ Rs', r ∈ Rs) /\ elimQ k (n - k) rows' = E /\ BdQ rows' (hgB H k) /\ RowB wr G [δ] /\ δ ≠ 0 /\ hgt δ <= 80000 * k + 1 /\ Kp (fun g => g = G ∨ Ps A Rs g) W4 wr) (fun iv _ => n - (intOf iv).toNat)
 case atStart => exact ⟨0, Rs, rows, 1, Nat.zero_le _, rfl, HM4.out, fun r h => h, HE.out, HBD.out, HRB.out, by decide, by rw [hgt_one]; omega, Kp.refl _ _⟩
 case round =>
  obtain ⟨k, Rs', rows', δ, hk, rfl, hm, hsub, hel, hbq, hdt, hd0, hdh, hkp⟩ := hrel
  have HM' := Lib.hid hm; have HSUB := Lib.hid hsub; have HEL := Lib.hid hel; have HBQ := Lib.hid hbq; have HDT := Lib.hid hdt; have HD0 := Lib.hid hd0; have HKP := Lib.hid hkp
  clear HM4 HRB hm hsub hel hbq hdt hd0 hkp
  obtain ⟨wo, hwo⟩ : ∃ wo, wo = wr := ⟨_, rfl⟩
  by_cases hkn : k < n
  · have i0 : (k : Int) < n := by omega
    go_wp2_with fail
    rw [<- hwo] at HM' HDT HKP ⊢
    clear hwo wr
    go_loopw [6] (fun pv wr => ∃ (p : Nat), k <= p /\ p <= n /\ pv = .int .i64 p /\ pivAt rows' k (n - k) = pivAt rows' k (n - p) /\ Below wo.heap.size wo wr) (fun pv _ => n - (intOf pv).toNat)
    case atStart => exact ⟨k, Nat.le_refl _, by omega, rfl, rfl, Below.refl _ _⟩
    case round =>
     obtain ⟨p, hkp1, hpn, rfl, hpv, hbw⟩ := hrel
     have HPV := Lib.hid hpv; have HBW := Lib.hid hbw
     have HMr := Lib.hid (HM'.out.below hbw)
     clear hpv hbw
     by_cases hlt : p < n
     · obtain ⟨r, xs, hr, hxs, hxl, hxd, hrb⟩ := HMr.out.get hlt
       have ca := HMr.out.cell hr
       obtain ⟨x, hxk⟩ := get_of_lt (show k < xs.length by omega)
       have hent : ent rows' p k = x := by rw [ent_of hxs, List.getD, hxk]; rfl
       obtain ⟨xc, hxn, hxc⟩ := hrb.at hxk
       have HXV := Lib.hid hxn.vq
       obtain ⟨x1, xc1, x2, xc2, x3, xc3, x4, xc4, rfl⟩ := hxn.shape
       have sx0 := hxc 0 _ rfl
       have sx1 := hxc 1 _ rfl
       have sx2 := hxc 2 _ rfl
       have sx3 := hxc 3 _ rfl
       have sx4 := hxc 4 _ rfl
       have sx5 := hxc 5 _ rfl
       simp only [Nat.add_zero] at sx0
       have hvz := valZeroQ _ x _ HXV.out
       have HVZ := Lib.hid hvz; have HENT := Lib.hid hent
       have i1 : (p : Int) < n := by omega
       have i2 : 0 <= (p : Int) := by omega
       have i3 : 0 <= (k : Int) := by omega
       have i4 : (k : Int) < (n : Int) + 1 := by omega
       have HR := Lib.hid hr
       clear hvz hent hxn hxc hrb hr hxs hxl hxd hxk
       go_wp2_with fail
       refine HVZ.out.mono ?_
       rintro e w5 ⟨rfl, hb5⟩
       by_cases hx0 : x = 0
       · rw [decide_eq_true hx0]
         have hst := pivAt_step (a := rows') (k := k) (p := p) (by rw [HMr.out.rows.1]; exact hlt) (by rw [HENT.out]; exact hx0)
         rw [HMr.out.rows.1] at hst
         have HST := Lib.hid (HPV.out.trans hst)
         have HB5 := Lib.hid (HBW.out.trans (hb5.mono HBW.out.size))
         clear hst hb5 hx0
         go_wp2_with fail
         go_roundw
         case rel => exact ⟨p + 1, by omega, by omega, by go_num, HST.out, HB5.out⟩
         case measure => simp [intOf]; omega
       · rw [decide_eq_false hx0]
         have hpf : pivAt rows' k (rows'.length - k) = some p := by
          have := pivAt_here (a := rows') (k := k) (p := p) (by rw [HMr.out.rows.1]; exact hlt) (by rw [HENT.out]; exact hx0)
          rw [HMr.out.rows.1] at this ⊢
          rw [HPV.out, this]
         have hB5 := HBW.out.trans (hb5.mono HBW.out.size)
         have HPF := Lib.hid hpf
         have HM5 := Lib.hid (HM'.out.below hB5)
         have HDT5 := Lib.hid (HDT.out.below hB5)
         have HK5 : Hid (Kp (fun g => g = G ∨ Ps A Rs g) W4 w5) := Lib.hid (HKP.out.trans (Kp.of_below hB5))
         have hx1 : ent rows' p k ≠ 0 := by rw [HENT.out]; exact hx0
         have HX1 := Lib.hid hx1
         have e1 : ((p : Int) == (n : Int)) = false := by rw [beq_eq_false_iff_ne]; omega
         clear hpf hB5 hb5 hx0 hx1 HMr HXV HVZ HR ca sx0 sx1 sx2 sx3 sx4 sx5
         go_upto_if 42 with fail
         go_cut [14] from 14 to 113 (fun u wx => u = .int .i64 k /\ ∃ (Rs2 : List (Nat × Nat)) (δ2 : Rat), MatB wx A n Rs2 (swapQ rows' p k) /\ (∀ r ∈ Rs2, r ∈ Rs) /\ RowB wx G [δ2] /\ δ2 ≠ 0 /\ hgt δ2 <= 80000 * k + 1 /\ Kp (fun g => g = G ∨ Ps A Rs g) W4 wx)
         case first =>
          by_cases hpk : p = k
          · subst hpk
            have e2 : ((p : Int) == (p : Int)) = true := by simp
            have hsw : swapQ rows' p p = rows' := by
             obtain ⟨r, xs, -, hxs, -⟩ := HM5.out.get hlt
             exact swapQ_same hxs
            have HSW := Lib.hid hsw
            clear hsw
            go_wp2_with fail
            go_meet
            exact ⟨rfl, Rs', δ, by rw [HSW.out]; exact HM5.out, HSUB.out, HDT5.out, HD0.out, hdh, HK5.out⟩
          · have e2 : ((p : Int) == (k : Int)) = false := by rw [beq_eq_false_iff_ne]; omega
            obtain ⟨r, xs, hr, -⟩ := HM5.out.get hlt
            obtain ⟨s, ys, hs, -⟩ := HM5.out.get hkn
            have cp := HM5.out.cell hr
            have ck := HM5.out.cell hs
            have fp := HM5.out.free p
            have fk := HM5.out.free k
            obtain ⟨hms, hks⟩ := HM5.out.swap hr hs hpk
            obtain ⟨W6, hW6⟩ : ∃ W6, W6 = (w5.setCell ⟨A, p, none⟩ (.slice (some ⟨s.1, 0, none⟩) (n + 1) s.2)).setCell ⟨A, k, none⟩ (.slice (some ⟨r.1, 0, none⟩) (n + 1) r.2) := ⟨_, rfl⟩
            have HMS : Hid (MatB W6 A n ((Rs'.set p s).set k r) (swapQ rows' p k)) := by rw [hW6]; exact Lib.hid hms
            have HKS : Hid (Kp (fun g => g = A) w5 W6) := by rw [hW6]; exact Lib.hid hks
            have hAG : A ≠ G := by omega
            have hdt6 := HDT5.out.kp HKS.out (fun e => hAG e.symm)
            have hsb6 : ∀ t ∈ (Rs'.set p s).set k r, t ∈ Rs := fun t ht => by
             rcases List.mem_or_eq_of_mem_set ht with h | h
             · rcases List.mem_or_eq_of_mem_set h with h | h
               · exact HSUB.out t h
               · rw [h]; exact HSUB.out s (List.mem_of_getElem? hs)
             · rw [h]; exact HSUB.out r (List.mem_of_getElem? hr)
            have HSB6 := Lib.hid hsb6; have HDT6 := Lib.hid hdt6
            obtain ⟨dc, hdn, hdc⟩ := hdt6.at (k := 0) rfl
            have HDV := Lib.hid hdn.vq
            obtain ⟨e1, ec1, e2, ec2, e3, ec3, e4, ec4, rfl⟩ := hdn.shape
            have sd0 : W6.cell? ⟨G, 0, none⟩ = _ := hdc 0 _ rfl
            have sd1 : W6.cell? ⟨G, 1, none⟩ = _ := hdc 1 _ rfl
            have sd2 : W6.cell? ⟨G, 2, none⟩ = _ := hdc 2 _ rfl
            have sd3 : W6.cell? ⟨G, 3, none⟩ = _ := hdc 3 _ rfl
            have sd4 : W6.cell? ⟨G, 4, none⟩ = _ := hdc 4 _ rfl
            have sd5 : W6.cell? ⟨G, 5, none⟩ = _ := hdc 5 _ rfl
            clear hms hks hr hs hsb6 hdt6 hdn hdc
            have n1 : ¬ k = p := fun e => hpk e.symm
            go_wp2_with fail
            go_region
            rw [<- hW6]
            clear hW6 cp ck fp fk
            go_wp2_with fail
            refine (valNegQ _ δ _ (HDV.out.below ((Below.refl _ _).drew) (Nat.le_refl _))).mono ?_
            rintro e w7 ⟨⟨v7, rfl, hv7⟩, hb7⟩
            have hb67 : Below W6.heap.size W6 w7 := ((Below.refl W6.heap.size W6).drew).trans hb7
            obtain ⟨g1, gc1, g2, gc2, g3, gc3, g4, gc4, rfl, -, -, -, -⟩ := hv7.slices
            have hdt7 := HDT6.out.below hb67
            obtain ⟨hput, hkpp⟩ := hdt7.put (k := 0) rfl hv7
            have hm7 := (HMS.out.below hb67).kp hkpp hAG (fun i t ht e => by
             have := HRL.out t (HSB6.out t (List.mem_of_getElem? ht)); have := HB0.out.size; omega)
            have hk7 := HK5.out.trans ((HKS.out.mono (P' := fun g => g = G ∨ Ps A Rs g) (fun g e => .inr (.inl e))).trans ((Kp.of_below hb67).trans (hkpp.mono (P' := fun g => g = G ∨ Ps A Rs g) (fun g e => .inl e))))
            have hd7 : -δ ≠ 0 := fun h => HD0.out (by have := congrArg (fun q : Rat => -q) h; simpa [Rat.neg_neg] using this)
            have HPUT := Lib.hid hput; have HM7 := Lib.hid hm7; have HK7 := Lib.hid hk7; have HD7 := Lib.hid hd7
            have po0 := cell_keep sd0 hb67 (Nat.le_refl _)
            have po1 := cell_keep sd1 hb67 (Nat.le_refl _)
            have po2 := cell_keep sd2 hb67 (Nat.le_refl _)
            have po3 := cell_keep sd3 hb67 (Nat.le_refl _)
            have po4 := cell_keep sd4 hb67 (Nat.le_refl _)
            have po5 := cell_keep sd5 hb67 (Nat.le_refl _)
            have t0 := hdt7.free 0
            have t1 := hdt7.free 1
            have t2 := hdt7.free 2
            have t3 := hdt7.free 3
            have t4 := hdt7.free 4
            have t5 := hdt7.free 5
            clear hput hm7 hk7 hkpp hdt7 hb7 hb67 hv7 hd7 sd0 sd1 sd2 sd3 sd4 sd5
            go_wp2_with fail
            go_meet
            exact ⟨rfl, _, -δ, HM7.out, HSB6.out, HPUT.out, HD7.out, by rw [hgt_neg]; exact hdh, HK7.out⟩
         case rest =>
          obtain ⟨rfl, Rs2, δ2, hm2, hs2, hd2, h02, hh2, hk2⟩ := hcut
          obtain ⟨S, hS⟩ : ∃ S, swapQ rows' p k = S := ⟨_, rfl⟩
          have hrw := HM5.out.rows
          have hSr : Rows S n (n + 1) := by rw [<- hS]; exact swapQ_rows hrw hlt hkn
          have hSb : BdQ S (hgB H k) := by rw [<- hS]; exact HBQ.out.swap hrw hlt hkn
          have hSe : ent S k k ≠ 0 := by
           obtain ⟨rp, gp, -, -, -⟩ := hrw.get hlt
           rw [<- hS, ent_of (show (swapQ rows' p k)[k]? = some rp by rw [swapQ_get hrw hlt hkn, if_pos rfl, gp]), <- ent_of gp]
           exact HX1.out
          have hSE : elimQ (k + 1) (n - (k + 1)) (clearQ S k) = E := by
           have h1 := HEL.out
           rw [show n - k = (n - (k + 1)) + 1 by omega] at h1
           unfold elimQ at h1
           rw [HPF.out] at h1
           rw [<- hS]; exact h1
          rw [hS] at hm2
          obtain ⟨r, xs, hr, hxs, hxl, hxd, hrb⟩ := hm2.get hkn
          obtain ⟨t, ht⟩ : ∃ t, ent S k k = t := ⟨_, rfl⟩
          rw [ht] at hSe
          have htx : xs[k]? = some t := by rw [getD_get (show k < xs.length by omega), <- ent_of hxs, ht]
          have h1B : 1 <= hgB H k := hgB_one h1H k
          have hB4 : hgB H k <= 80000 := by have := hgB_le (H := H) (k := k) (by omega); omega
          have hht : hgt t <= hgB H k := by rw [<- ht]; exact hSb.atEnt h1B k k
          have hbx : ∀ x ∈ xs, hgt x <= hgB H k := hSb xs (List.mem_of_getElem? hxs)
          have HM2 := Lib.hid hm2; have HS2 := Lib.hid hs2; have HD2 := Lib.hid hd2; have H02 := Lib.hid h02; have HK2 := Lib.hid hk2; have HSR := Lib.hid hSr; have HSB := Lib.hid hSb; have HSE := Lib.hid hSe; have HEE := Lib.hid hSE; have HT := Lib.hid ht; have HR := Lib.hid hr; have HXS := Lib.hid hxs; have HXD := Lib.hid hxd; have HTX := Lib.hid htx; have HBX := Lib.hid hbx
          have hGl := hd2.lt
          have hRr : r.1 < wc.heap.size := hrb.lt
          have hRG : r.1 ≠ G := by have := HRL.out r (hs2 r (List.mem_of_getElem? hr)); have := HB0.out.size; omega
          have hAG : A ≠ G := by omega
          have ca := hm2.cell hr
          obtain ⟨tc, htn, htc⟩ := hrb.at htx
          have HTV := Lib.hid htn.vq
          obtain ⟨a1, ac1, a2, ac2, a3, ac3, a4, ac4, rfl⟩ := htn.shape
          have st0 := htc 0 _ rfl
          have st1 := htc 1 _ rfl
          have st2 := htc 2 _ rfl
          have st3 := htc 3 _ rfl
          have st4 := htc 4 _ rfl
          have st5 := htc 5 _ rfl
          simp only [Nat.add_zero] at st0
          obtain ⟨dc, hdn, hdc⟩ := hd2.at (k := 0) rfl
          have HDV := Lib.hid hdn.vq
          obtain ⟨e1, ec1, e2, ec2, e3, ec3, e4, ec4, rfl⟩ := hdn.shape
          have sd0 : wc.cell? ⟨G, 0, none⟩ = _ := hdc 0 _ rfl
          have sd1 : wc.cell? ⟨G, 1, none⟩ = _ := hdc 1 _ rfl
          have sd2 : wc.cell? ⟨G, 2, none⟩ = _ := hdc 2 _ rfl
          have sd3 : wc.cell? ⟨G, 3, none⟩ = _ := hdc 3 _ rfl
          have sd4 : wc.cell? ⟨G, 4, none⟩ = _ := hdc 4 _ rfl
          have sd5 : wc.cell? ⟨G, 5, none⟩ = _ := hdc 5 _ rfl
          obtain ⟨W7, hW7⟩ : ∃ W7, W7 = wc.alloc (.cells #[.bool (qS t), .slice a1 (dig (qN t)).length ac1, .slice a2 (dig (qD t)).length ac2, .bool false, .slice a3 (dig 0).length ac3, .slice a4 (dig 1).length ac4] 148) := ⟨_, rfl⟩
          have hal : Below wc.heap.size wc W7 := by rw [hW7]; exact (Below.refl _ _).alloc (Nat.le_refl _) _
          have hbT : Blk W7 wc.heap.size 148 #[.bool (qS t), .slice a1 (dig (qN t)).length ac1, .slice a2 (dig (qD t)).length ac2, .bool false, .slice a3 (dig 0).length ac3, .slice a4 (dig 1).length ac4] := by rw [hW7]; exact Blk.new wc _ _
          have hz7 : W7.heap.size = wc.heap.size + 1 := by rw [hW7]; simp
          have tt0 : W7.cell? ⟨wc.heap.size, 0, none⟩ = some (.bool (qS t)) := hbT.cell 0
          have tt1 : W7.cell? ⟨wc.heap.size, 1, none⟩ = some (.slice a1 (dig (qN t)).length ac1) := hbT.cell 1
          have tt2 : W7.cell? ⟨wc.heap.size, 2, none⟩ = some (.slice a2 (dig (qD t)).length ac2) := hbT.cell 2
          have tt3 : W7.cell? ⟨wc.heap.size, 3, none⟩ = some (.bool false) := hbT.cell 3
          have tt4 : W7.cell? ⟨wc.heap.size, 4, none⟩ = some (.slice a3 (dig 0).length ac3) := hbT.cell 4
          have tt5 : W7.cell? ⟨wc.heap.size, 5, none⟩ = some (.slice a4 (dig 1).length ac4) := hbT.cell 5
          have td0 := cell_keep sd0 hal (Nat.le_refl _)
          have td1 := cell_keep sd1 hal (Nat.le_refl _)
          have td2 := cell_keep sd2 hal (Nat.le_refl _)
          have td3 := cell_keep sd3 hal (Nat.le_refl _)
          have td4 := cell_keep sd4 hal (Nat.le_refl _)
          have td5 := cell_keep sd5 hal (Nat.le_refl _)
          have hTI := fun W (hb : Below wc.heap.size wc W) => timesQ _ _ δ2 t W (HDV.out.below hb (Nat.le_refl _)) (HTV.out.below hb (Nat.le_refl _)) (by omega) (by omega)
          have HTI := Lib.hid hTI; have HAL := Lib.hid hal; have HBT := Lib.hid hbT
          have i2 : 0 <= (k : Int) := by omega
          have i3 : (k : Int) < (n : Int) + 1 := by omega
          have n1 : ¬ G = wc.heap.size := by omega
          clear hm2 hs2 hd2 h02 hk2 hrw hSr hSb hSe hSE ht hr hxs hxd htx hbx hrb htn htc hdn hdc hal hbT hTI hS HM5 HDT5 HK5 HM' HDT HKP HSUB HEL HBQ HD0 HENT HPV HBW HPF HX1
          go_wp2_with fail
          rw [<- hW7]
          clear hW7
          refine (HTI.out _ HAL.out).mono ?_
          rintro e w8 ⟨⟨v8, rfl, hv8⟩, hb8⟩
          have hb08 : Below wc.heap.size wc w8 := HAL.out.trans (hb8.mono HAL.out.size)
          obtain ⟨g1, gc1, g2, gc2, g3, gc3, g4, gc4, rfl, -, -, -, -⟩ := hv8.slices
          have hdt8 := HD2.out.below hb08
          obtain ⟨hput, hkpp⟩ := hdt8.put (k := 0) rfl hv8
          obtain ⟨W9, hW9⟩ : ∃ W9, W9 = (((((w8.setCell ⟨G, 0, none⟩ (.bool (qS (δ2 * t)))).setCell ⟨G, 1, none⟩ (.slice g1 (dig (qN (δ2 * t))).length gc1)).setCell ⟨G, 2, none⟩ (.slice g2 (dig (qD (δ2 * t))).length gc2)).setCell ⟨G, 3, none⟩ (.bool false)).setCell ⟨G, 4, none⟩ (.slice g3 (dig 0).length gc3)).setCell ⟨G, 5, none⟩ (.slice g4 (dig 1).length gc4) := ⟨_, rfl⟩
          have hput9 : RowB W9 G [δ2 * t] := by rw [hW9]; exact hput
          have hk89 : Kp (fun g => g = G) w8 W9 := by rw [hW9]; exact hkpp
          have hm9 : MatB W9 A n Rs2 S := (HM2.out.below hb08).kp hk89 hAG (fun i u hu e => by
           have := HRL.out u (HS2.out u (List.mem_of_getElem? hu)); have := HB0.out.size; omega)
          have hbT9 : Blk W9 wc.heap.size 148 #[.bool (qS t), .slice a1 (dig (qN t)).length ac1, .slice a2 (dig (qD t)).length ac2, .bool false, .slice a3 (dig 0).length ac3, .slice a4 (dig 1).length ac4] := hk89.blk (HBT.out.below hb8 (by omega)) (by omega)
          have hkc9 : Kp (fun g => g = G) wc W9 := (Kp.of_below hb08).trans hk89
          have hk9 : Kp (fun g => g = G ∨ Ps A Rs g) W4 W9 := HK2.out.trans (hkc9.mono (fun g e => .inl e))
          have htv9 := hkc9.vq HTV.out
          have h92 : δ2 * t ≠ 0 := fun h => by
           rcases Rat.mul_eq_zero.1 h with h | h
           · exact H02.out h
           · exact HSE.out h
          have hh9 : hgt (δ2 * t) <= 80000 * (k + 1) + 1 := by have := hgt_mul δ2 t; omega
          have po0 := cell_keep sd0 hb08 (Nat.le_refl _)
          have po1 := cell_keep sd1 hb08 (Nat.le_refl _)
          have po2 := cell_keep sd2 hb08 (Nat.le_refl _)
          have po3 := cell_keep sd3 hb08 (Nat.le_refl _)
          have po4 := cell_keep sd4 hb08 (Nat.le_refl _)
          have po5 := cell_keep sd5 hb08 (Nat.le_refl _)
          have t0 := hdt8.free 0
          have t1 := hdt8.free 1
          have t2 := hdt8.free 2
          have t3 := hdt8.free 3
          have t4 := hdt8.free 4
          have t5 := hdt8.free 5
          have ca9 := cell_keep ca hb08 (Nat.le_refl _)
          have HP9 := Lib.hid hput9; have HM9 := Lib.hid hm9; have HBT9 := Lib.hid hbT9; have HK9 := Lib.hid hk9; have HTV9 := Lib.hid htv9; have H92 := Lib.hid h92
          have hG9 := hput9.lt
          have hz9 : wc.heap.size < W9.heap.size := hbT9.lt
          obtain ⟨TB, hTB⟩ : ∃ TB, TB = wc.heap.size := ⟨_, rfl⟩
          have hTA : TB ≠ A := by have := HM2.out.lt; omega
          have hTr : TB ≠ r.1 := by omega
          have hTG : TB ≠ G := by omega
          have hTw : w.heap.size <= TB := by have := HB04.out.size; omega
          rw [<- hTB] at HBT9 hz9 hRr
          clear hput hkpp hput9 hk89 hm9 hbT9 hkc9 hk9 htv9 h92 hdt8 hb8 hb08 hv8 st0 st1 st2 st3 st4 st5 sd0 sd1 sd2 sd3 sd4 sd5 tt0 tt1 tt2 tt3 tt4 tt5 td0 td1 td2 td3 td4 td5 HTI HAL HBT HDV HTV HK2 HD2 H02 ca
          have ca9' := HM9.out.cell HR.out
          go_wp2_with fail
          rw [<- hW9, <- hTB]
          clear hW9 hTB ca9 po0 po1 po2 po3 po4 po5 t0 t1 t2 t3 t4 t5 HM2
          clear ca9'
          go_loopw [74] (fun iv wr => ∃ (i : Nat), i <= n + 1 /\ iv = .int .i64 i /\ MatB wr A n Rs2 (S.set k (divTo t⁻¹ xs i)) /\ Kp (fun g => g = r.1) W9 wr) (fun iv _ => n + 1 - (intOf iv).toNat)
          case atStart =>
           have hss : S.set k xs = S := by
            refine List.ext_getElem? fun j => ?_
            rw [List.getElem?_set]
            by_cases hj : k = j
            · subst hj
              rw [if_pos rfl, if_pos (List.getElem?_eq_some_iff.1 HXS.out).1, HXS.out]
            · rw [if_neg hj]
           exact ⟨0, by omega, rfl, by rw [divTo_zero, hss]; exact HM9.out, Kp.refl _ _⟩
          case round =>
           obtain ⟨i, hi, rfl, hmi, hki⟩ := hrel
           have HMI := Lib.hid hmi; have HKI := Lib.hid hki
           have hbTi := hki.blk HBT9.out hTr
           have hgi := hki.lt hG9
           clear hmi hki
           by_cases hin : i < n + 1
           · obtain ⟨x, hxi⟩ := get_of_lt (show i < xs.length by omega)
             have hxg := divTo_get (c := t⁻¹) hxi
             have hsk : (S.set k (divTo t⁻¹ xs i))[k]? = some (divTo t⁻¹ xs i) := by rw [List.getElem?_set, if_pos rfl, if_pos (List.getElem?_eq_some_iff.1 HXS.out).1]
             have hrb := HMI.out.row k r _ HR.out hsk
             have ca := HMI.out.cell HR.out
             obtain ⟨xc, hxn, hxc⟩ := hrb.at hxg
             have HXV := Lib.hid hxn.vq; have HRB := Lib.hid hrb; have HXG := Lib.hid hxg
             have HTVI := Lib.hid (HKI.out.vq HTV9.out)
             obtain ⟨x1, xc1, x2, xc2, x3, xc3, x4, xc4, rfl⟩ := hxn.shape
             have sx0 := hxc 0 _ rfl
             have sx1 := hxc 1 _ rfl
             have sx2 := hxc 2 _ rfl
             have sx3 := hxc 3 _ rfl
             have sx4 := hxc 4 _ rfl
             have sx5 := hxc 5 _ rfl
             simp only [Nat.add_zero] at sx0
             have tt0 : wr.cell? ⟨TB, 0, none⟩ = some (.bool (qS t)) := hbTi.cell 0
             have tt1 : wr.cell? ⟨TB, 1, none⟩ = some (.slice a1 (dig (qN t)).length ac1) := hbTi.cell 1
             have tt2 : wr.cell? ⟨TB, 2, none⟩ = some (.slice a2 (dig (qD t)).length ac2) := hbTi.cell 2
             have tt3 : wr.cell? ⟨TB, 3, none⟩ = some (.bool false) := hbTi.cell 3
             have tt4 : wr.cell? ⟨TB, 4, none⟩ = some (.slice a3 (dig 0).length ac3) := hbTi.cell 4
             have tt5 : wr.cell? ⟨TB, 5, none⟩ = some (.slice a4 (dig 1).length ac4) := hbTi.cell 5
             have hx1 : hgt x <= hgB H k := HBX.out x (List.mem_of_getElem? hxi)
             have hOV := fun W (hb : Below wr.heap.size wr W) => overQ _ _ x t W (HXV.out.below hb (Nat.le_refl _)) (HTVI.out.below hb (Nat.le_refl _)) (by omega) (by omega) HSE.out
             have hset := divTo_set (c := t⁻¹) hxi
             have HOV := Lib.hid hOV; have HSET := Lib.hid hset
             have j0 : (i : Int) < (n : Int) + 1 := by omega
             have j1 : 0 <= (i : Int) := by omega
             have hS0 : Below wr.heap.size wr wr.drew := (Below.refl _ _).drew
             clear hxi hxg hsk hrb hxn hxc hOV hset hbTi
             go_wp2_with fail
             refine wp_region_drewJ (T := fun j w9 => j < 15 -> Below wr.heap.size wr w9) (by kernel_rfl) ?_
             refine tjV 0 (.slice (some ⟨A, 0, none⟩) n cA) (fun w9 => Below wr.heap.size wr w9) (fun j => decide (j < 15)) hS0 (fun _ h _ => h) (fun j hj _ h => h (of_decide_eq_true hj)) ?_
             refine tjV 1 (.int .i64 k) (fun w9 => Below wr.heap.size wr w9) (fun j => decide (j < 15)) hS0 (fun _ h _ => h) (fun j hj _ h => h (of_decide_eq_true hj)) ?_
             refine tjV 2 (.pointer (some ⟨A, k, none⟩)) (fun w9 => Below wr.heap.size wr w9) (fun j => decide (j < 15)) hS0 (fun _ h _ => h) (fun j hj _ h => h (of_decide_eq_true hj)) ?_
             refine tjV 3 (.slice (some ⟨r.1, 0, none⟩) (n + 1) r.2) (fun w9 => Below wr.heap.size wr w9) (fun j => decide (j < 15)) hS0 (fun _ h _ => h) (fun j hj _ h => h (of_decide_eq_true hj)) ?_ (hy := by intro w9 h9; have p0 := cell_keep ca h9 (Nat.le_refl _); go_simp)
             refine tjV 4 (.int .i64 i) (fun w9 => Below wr.heap.size wr w9) (fun j => decide (j < 15)) hS0 (fun _ h _ => h) (fun j hj _ h => h (of_decide_eq_true hj)) ?_
             refine tjV 5 (.slice (some ⟨A, 0, none⟩) n cA) (fun w9 => Below wr.heap.size wr w9) (fun j => decide (j < 15)) hS0 (fun _ h _ => h) (fun j hj _ h => h (of_decide_eq_true hj)) ?_
             refine tjV 6 (.int .i64 k) (fun w9 => Below wr.heap.size wr w9) (fun j => decide (j < 15)) hS0 (fun _ h _ => h) (fun j hj _ h => h (of_decide_eq_true hj)) ?_
             refine tjV 7 (.pointer (some ⟨A, k, none⟩)) (fun w9 => Below wr.heap.size wr w9) (fun j => decide (j < 15)) hS0 (fun _ h _ => h) (fun j hj _ h => h (of_decide_eq_true hj)) ?_
             refine tjV 8 (.slice (some ⟨r.1, 0, none⟩) (n + 1) r.2) (fun w9 => Below wr.heap.size wr w9) (fun j => decide (j < 15)) hS0 (fun _ h _ => h) (fun j hj _ h => h (of_decide_eq_true hj)) ?_ (hy := by intro w9 h9; have p0 := cell_keep ca h9 (Nat.le_refl _); go_simp)
             refine tjV 9 (.int .i64 i) (fun w9 => Below wr.heap.size wr w9) (fun j => decide (j < 15)) hS0 (fun _ h _ => h) (fun j hj _ h => h (of_decide_eq_true hj)) ?_
             refine tjV 10 (.pointer (some ⟨r.1, i * 6, none⟩)) (fun w9 => Below wr.heap.size wr w9) (fun j => decide (j < 15)) hS0 (fun _ h _ => h) (fun j hj _ h => h (of_decide_eq_true hj)) ?_
             refine tjV 11 (.agg #[.bool (qS x), .slice x1 (dig (qN x)).length xc1, .slice x2 (dig (qD x)).length xc2, .bool false, .slice x3 (dig 0).length xc3, .slice x4 (dig 1).length xc4]) (fun w9 => Below wr.heap.size wr w9) (fun j => decide (j < 15)) hS0 (fun _ h _ => h) (fun j hj _ h => h (of_decide_eq_true hj)) ?_ (hy := by intro w9 h9; have p0 := cell_keep sx0 h9 (Nat.le_refl _); have p1 := cell_keep sx1 h9 (Nat.le_refl _); have p2 := cell_keep sx2 h9 (Nat.le_refl _); have p3 := cell_keep sx3 h9 (Nat.le_refl _); have p4 := cell_keep sx4 h9 (Nat.le_refl _); have p5 := cell_keep sx5 h9 (Nat.le_refl _); go_simp)
             refine tjV 12 (.agg #[.bool (qS t), .slice a1 (dig (qN t)).length ac1, .slice a2 (dig (qD t)).length ac2, .bool false, .slice a3 (dig 0).length ac3, .slice a4 (dig 1).length ac4]) (fun w9 => Below wr.heap.size wr w9) (fun j => decide (j < 15)) hS0 (fun _ h _ => h) (fun j hj _ h => h (of_decide_eq_true hj)) ?_ (hy := by intro w9 h9; have p0 := cell_keep tt0 h9 (Nat.le_refl _); have p1 := cell_keep tt1 h9 (Nat.le_refl _); have p2 := cell_keep tt2 h9 (Nat.le_refl _); have p3 := cell_keep tt3 h9 (Nat.le_refl _); have p4 := cell_keep tt4 h9 (Nat.le_refl _); have p5 := cell_keep tt5 h9 (Nat.le_refl _); go_simp)
             refine tjC 13 (fun K hK => ?_)
             go_simp
             refine (HOV.out _ hS0).mono ?_
             rintro e wd ⟨⟨u1, rfl, hv1⟩, hbd⟩
             have hS2 := hS0.trans (hbd.mono hS0.size)
             obtain ⟨g1, gc1, g2, gc2, g3, gc3, g4, gc4, rfl, _, _, _, _⟩ := hv1.slices
             refine hK.out _ _ (fun _ => hS2) ?_
             clear hK K
             try simp only [Act.put, List.setIfInBounds_toArray, List.set_cons_zero, List.set_cons_succ]
             refine tjV 14 (.pointer (some ⟨r.1, i * 6, none⟩)) (fun w9 => Below wr.heap.size wr w9) (fun j => decide (j < 15)) hS2 (fun _ h _ => h) (fun j hj _ h => h (of_decide_eq_true hj)) ?_
             refine tjC 15 (fun K hK => ?_)
             have hrw2 := HRB.out.below hS2
             obtain ⟨hput, hkpp⟩ := hrw2.put HXG.out hv1
             rw [HSET.out] at hput
             have hkw2 := (HKI.out.trans (Kp.of_below hS2)).trans hkpp
             have hmf := (HMI.out.below hS2).setRow HR.out hput (by rw [divTo_len, hxl]) hkpp
             rw [List.set_set] at hmf
             have po0 := cell_keep sx0 hS2 (Nat.le_refl _)
             have po1 := cell_keep sx1 hS2 (Nat.le_refl _)
             have po2 := cell_keep sx2 hS2 (Nat.le_refl _)
             have po3 := cell_keep sx3 hS2 (Nat.le_refl _)
             have po4 := cell_keep sx4 hS2 (Nat.le_refl _)
             have po5 := cell_keep sx5 hS2 (Nat.le_refl _)
             have t0 := hrw2.free (i * 6)
             have t1 := hrw2.free (i * 6 + 1)
             have t2 := hrw2.free (i * 6 + 2)
             have t3 := hrw2.free (i * 6 + 3)
             have t4 := hrw2.free (i * 6 + 4)
             have t5 := hrw2.free (i * 6 + 5)
             have HMF := Lib.hid hmf; have HKW2 := Lib.hid hkw2
             clear hput hkpp hkw2 hmf
             go_simp
             refine hK.out _ _ (fun h => absurd h (by decide)) ?_
             clear hK K hv1 hbd hS0 hS2 hrw2
             try simp only [Act.put, List.setIfInBounds_toArray, List.set_cons_zero, List.set_cons_succ]
             refine wpAnyJ_done (by kernel_rfl) ?_ _
             go_wp2_with fail
             go_roundw
             case rel => exact ⟨i + 1, by omega, by go_num, HMF.out, HKW2.out⟩
             case measure => simp [intOf]; omega
           · obtain rfl : i = n + 1 := by omega
             have j0 : ¬ (n : Int) + 1 < (n : Int) + 1 := by omega
             obtain ⟨b, hb⟩ : ∃ b, xs.map (· * t⁻¹) = b := ⟨_, rfl⟩
             have hmb : MatB wr A n Rs2 (clearTo S k b 0) := by
              have := HMI.out
              rw [<- hxl, divTo_all, hb] at this
              rw [clearTo_zero]; exact this
             have hbl : b.length = n + 1 := by rw [<- hb, List.length_map, hxl]
             have hbh : ∀ y ∈ b, hgt y <= 200000 := fun y hy => by
              rw [<- hb] at hy
              obtain ⟨u, hu, rfl⟩ := List.mem_map.1 hy
              have h1 := HBX.out u hu
              have h2 := hgt_overs h1 hht HSE.out
              omega
             have hcl : clearTo S k b n = clearQ S k := by rw [<- hb, <- HXD.out, <- HT.out]; exact clearTo_all HSR.out.1
             have hki := HKI.out
             have HMB := Lib.hid hmb; have HBH := Lib.hid hbh; have HCL := Lib.hid hcl; have HBL := Lib.hid hbl
             clear hb hmb hbh hcl hki hbl
             obtain ⟨wq, hwq⟩ : ∃ wq, wq = wr := ⟨_, rfl⟩
             go_wp2_with fail
             rw [<- hwq] at HMB HKI hgi hbTi ⊢
             clear hwq wr HMI
             go_loopw [95] (fun iv wr => ∃ (i : Nat), i <= n /\ iv = .int .i64 i /\ MatB wr A n Rs2 (clearTo S k b i) /\ Kp (Ps A Rs2) wq wr) (fun iv _ => n - (intOf iv).toNat)
             case atStart => exact ⟨0, Nat.zero_le _, rfl, HMB.out, Kp.refl _ _⟩
             case round =>
              obtain ⟨i, hi, rfl, hmi, hkj⟩ := hrel
              have HMI := Lib.hid hmi; have HKJ := Lib.hid hkj
              clear hmi hkj
              by_cases hin : i < n
              · by_cases hik : i = k
                · subst hik
                  have e3 : ((i : Int) == (i : Int)) = true := by simp
                  have j0 : (i : Int) < n := by omega
                  have hmn : MatB wr A n Rs2 (clearTo S i b (i + 1)) := by rw [clearTo_skip]; exact HMI.out
                  have HMN := Lib.hid hmn
                  clear hmn
                  go_wp2_with fail
                  go_roundw
                  case rel => exact ⟨i + 1, by omega, by go_num, HMN.out, HKJ.out⟩
                  case measure => simp [intOf]; omega
                · have e3 : ((i : Int) == (k : Int)) = false := by rw [beq_eq_false_iff_ne]; omega
                  have j0 : (i : Int) < n := by omega
                  have j1 : 0 <= (i : Int) := by omega
                  obtain ⟨zs, hzs, hzl, -, hzm⟩ := HSR.out.get hin
                  obtain ⟨ri, hri⟩ := get_of_lt (show i < Rs2.length by rw [HMI.out.len]; exact hin)
                  have hci := clearTo_get (k := k) (b := b) (i := i) hzs
                  rw [if_neg hik, if_neg (Nat.lt_irrefl _)] at hci
                  have hck := clearTo_get (k := k) (b := b) (i := i) HXS.out
                  rw [if_pos rfl] at hck
                  have hrz := HMI.out.row i ri zs hri hci
                  have hrk := HMI.out.row k r b HR.out hck
                  have ci := HMI.out.cell hri
                  have ck := HMI.out.cell HR.out
                  have hne := HMI.out.dist i k ri r hri HR.out hik
                  have hRD : ∀ W, Below wr.heap.size wr W -> Calls Tryz.prog 200 #[.slice (some ⟨ri.1, 0, none⟩) (n + 1) ri.2, .slice (some ⟨r.1, 0, none⟩) (n + 1) r.2, .int .i64 k] W fun e w' => e = .returned (.tuple #[]) /\ RowB w' ri.1 (lessRow (zs.getD k 0) b zs) /\ Kp (fun g => g = ri.1) W w' := fun W hb => by
                   have := reduce_any ri.1 r.1 zs b k ri.2 r.2 W (hrz.below hb) (hrk.below hb) hne (by rw [HBL.out, hzl]) (by omega) (by omega) (fun x hx => by have := HSB.out zs hzm x hx; omega) (fun y hy => by have := HBH.out y hy; omega)
                   rw [hzl] at this
                   exact this
                  have HRD := Lib.hid hRD
                  have hst := clearTo_step (k := k) (b := b) hzs hik
                  have hlr : (lessRow (zs.getD k 0) b zs).length = n + 1 := by rw [lessRow_len (by rw [hzl, HBL.out]), hzl]
                  have HST := Lib.hid hst; have HRI := Lib.hid hri; have HLR := Lib.hid hlr
                  have hS0 : Below wr.heap.size wr wr.drew := (Below.refl _ _).drew
                  clear hci hck hrz hrk hRD hst hzs hzm hri hlr
                  go_wp2_with fail
                  refine wp_region_drewJ (T := fun j w9 => (j = 4 ∨ j = 8) -> Below wr.heap.size wr w9) (by kernel_rfl) ?_
                  refine tjV 0 (.func (.func 200) #[] #[]) (fun _ => True) (fun _ => true) trivial (fun _ _ h => absurd h (by decide)) (fun _ _ _ _ => trivial) ?_
                  refine tjV 1 (.slice (some ⟨A, 0, none⟩) n cA) (fun _ => True) (fun _ => true) trivial (fun _ _ h => absurd h (by decide)) (fun _ _ _ _ => trivial) ?_
                  refine tjV 2 (.int .i64 i) (fun _ => True) (fun _ => true) trivial (fun _ _ h => absurd h (by decide)) (fun _ _ _ _ => trivial) ?_
                  refine tjV 3 (.pointer (some ⟨A, i, none⟩)) (fun _ => True) (fun _ => true) trivial (fun _ _ h => absurd h (by decide)) (fun _ _ _ _ => trivial) ?_
                  refine tjV 5 (.slice (some ⟨A, 0, none⟩) n cA) (fun _ => True) (fun _ => true) trivial (fun _ _ h => absurd h (by decide)) (fun _ _ _ _ => trivial) ?_
                  refine tjV 6 (.int .i64 k) (fun _ => True) (fun _ => true) trivial (fun _ _ h => absurd h (by decide)) (fun _ _ _ _ => trivial) ?_
                  refine tjV 7 (.pointer (some ⟨A, k, none⟩)) (fun _ => True) (fun _ => true) trivial (fun _ _ h => absurd h (by decide)) (fun _ _ _ _ => trivial) ?_
                  refine tjV 9 (.int .i64 k) (fun _ => True) (fun _ => true) trivial (fun _ _ h => absurd h (by decide)) (fun _ _ _ _ => trivial) ?_
                  refine tjV 4 (.slice (some ⟨ri.1, 0, none⟩) (n + 1) ri.2) (fun w9 => Below wr.heap.size wr w9) (fun j => decide (j = 4 ∨ j = 8)) hS0 (fun _ h _ => h) (fun j hj _ h => h (of_decide_eq_true hj)) ?_ (hy := by intro w9 h9; have p0 := cell_keep ci h9 (Nat.le_refl _); go_simp)
                  refine tjV 8 (.slice (some ⟨r.1, 0, none⟩) (n + 1) r.2) (fun w9 => Below wr.heap.size wr w9) (fun j => decide (j = 4 ∨ j = 8)) hS0 (fun _ h _ => h) (fun j hj _ h => h (of_decide_eq_true hj)) ?_ (hy := by intro w9 h9; have p0 := cell_keep ck h9 (Nat.le_refl _); go_simp)
                  refine tjC 10 (fun K hK => ?_)
                  go_simp
                  refine (HRD.out _ hS0).mono ?_
                  rintro e wd ⟨rfl, hrow, hkpp⟩
                  have hmf := (HMI.out.below hS0).setRow HRI.out hrow HLR.out hkpp
                  rw [HST.out] at hmf
                  have hkf := (HKJ.out.trans (Kp.of_below hS0)).trans (hkpp.mono (Ps.row (A := A) HRI.out))
                  have HMF := Lib.hid hmf; have HKF := Lib.hid hkf
                  refine hK.out _ _ (fun h => absurd h (by decide)) ?_
                  clear hK K hrow hkpp hmf hkf hS0
                  try simp only [Act.put, List.setIfInBounds_toArray, List.set_cons_zero, List.set_cons_succ]
                  refine wpAnyJ_done (by kernel_rfl) ?_ _
                  go_wp2_with fail
                  go_roundw
                  case rel => exact ⟨i + 1, by omega, by go_num, HMF.out, HKF.out⟩
                  case measure => simp [intOf]; omega
              · obtain rfl : i = n := by omega
                have j0 : ¬ (i : Int) < i := by omega
                have hmf := HMI.out
                rw [HCL.out] at hmf
                have hsG : ∀ u ∈ Rs2, u.1 ≠ G := fun u hu e => by have := HRL.out u (HS2.out u hu); have := HB0.out.size; omega
                have hpf := (HP9.out.kp HKI.out (fun e => hRG e.symm)).kp HKJ.out (fun e => by
                 rcases e with e | ⟨u, hu, e⟩
                 · exact hAG e.symm
                 · exact hsG u hu e)
                have hkf := (HK9.out.trans (HKI.out.mono (P' := fun g => g = G ∨ Ps A Rs g) (fun g e => .inr (Ps.sub HS2.out g (Ps.row (A := A) HR.out g e))))).trans (HKJ.out.mono (P' := fun g => g = G ∨ Ps A Rs g) (fun g e => .inr (Ps.sub HS2.out g e)))
                have hbf : BdQ (clearQ S k) (hgB H (k + 1)) := HSB.out.clear h1B (by rw [HT.out]; exact HSE.out)
                have HMF := Lib.hid hmf; have HPF := Lib.hid hpf; have HKF := Lib.hid hkf; have HBF := Lib.hid hbf
                clear hmf hsG hpf hkf hbf
                go_wp2_with fail
                go_roundw
                case rel =>
                 exact ⟨k + 1, Rs2, clearQ S k, δ2 * t, by omega, by go_num, HMF.out, HS2.out, HEE.out, HBF.out, HPF.out, H92.out, hh9, HKF.out⟩
                case measure => simp [intOf]; omega
     · obtain rfl : p = n := by omega
       have hEn : E = none := by
        have h1 := HEL.out
        rw [show p - k = (p - (k + 1)) + 1 by omega] at h1
        unfold elimQ at h1
        have h2 := HPV.out
        rw [Nat.sub_self] at h2
        rw [HMr.out.rows.1, h2] at h1
        rw [<- h1]; rfl
       have HEN := Lib.hid hEn
       have hB5 := HKP.out.trans (Kp.of_below HBW.out)
       have hDA : w.heap.size ≠ A := by omega
       have hDr : ∀ u ∈ Rs, u.1 ≠ w.heap.size := fun u hu e => by have := HRL.out u hu; omega
       have hDG : w.heap.size ≠ G := by omega
       have hbr := hB5.blk HBKD4.out (fun e => by
        rcases e with e | e | ⟨u, hu, e⟩
        · exact hDG e
        · exact hDA e
        · exact hDr u hu e)
       have HK5 : Hid (Kp (fun g => g = G ∨ Ps A Rs g) W4 wr) := Lib.hid hB5
       have HBR := Lib.hid hbr
       have hGw : w.heap.size <= G := by omega
       clear hEn hB5 hbr HPV HMr
       have e1 : ((p : Int) == (p : Int)) = true := by simp
       have j0 : ¬ (p : Int) < p := by omega
       go_wp2_with fail
       refine (HWZ.out _).mono ?_
       rintro e w6 ⟨⟨v6, rfl, hv6⟩, hb6⟩
       obtain ⟨q1, o1, q2, o2, rfl, -, -⟩ := hv6.slices
       go_wp2_with fail
       refine (plain_any false 0 1 _ _ hv6).mono ?_
       rintro e w7 ⟨⟨v7, rfl, hv7⟩, hb7⟩
       have HV7 : Hid (VQ w7 v7 0) := Lib.hid hv7
       obtain ⟨g1, gc1, g2, gc2, g3, gc3, g4, gc4, rfl, -, -, -, -⟩ := hv7.slices
       have hb67 : Below wr.heap.size wr w7 := hb6.trans (hb7.mono hb6.size)
       have hbz := HBR.out.below hb67 HBR.out.lt
       have z0 := hbz.cell 0
       have z1 := hbz.cell 1
       have z2 := hbz.cell 2
       have z3 := hbz.cell 3
       have z4 := hbz.cell 4
       have z5 := hbz.cell 5
       simp only [List.getElem?_toArray, List.getElem?_cons_succ, List.getElem?_cons_zero] at z0 z1 z2 z3 z4 z5
       have t0 := hbz.free 0
       have t1 := hbz.free 1
       have t2 := hbz.free 2
       have t3 := hbz.free 3
       have t4 := hbz.free 4
       have t5 := hbz.free 5
       have hk7 := HK5.out.trans (Kp.of_below hb67)
       have HK7 := Lib.hid hk7
       clear hv6 hv7 hb6 hb7 hb67 hbz hk7
       go_wp2_with fail
       refine bodyPost_ret (v := .agg #[.bool false, .slice g1 (dig 0).length gc1, .slice g2 (dig 1).length gc2, .bool false, .slice g3 (dig 0).length gc3, .slice g4 (dig 1).length gc4]) (by simp [results, Tryz.results130, go_sem, z0, z1, z2, z3, z4, z5]) rfl ?_
       have hfin := (HK7.out.mono (P' := fun g => g = w.heap.size ∨ g = G ∨ Ps A Rs g) (fun g h => .inr h)).trans ((Kp.six (o := 0) z0 z1 z2 z3 z4 z5 trivial trivial trivial trivial trivial trivial (.bool false) (.slice g1 (dig 0).length gc1) (.slice g2 (dig 1).length gc2) (.bool false) (.slice g3 (dig 0).length gc3) (.slice g4 (dig 1).length gc4)).mono (P' := fun g => g = w.heap.size ∨ g = G ∨ Ps A Rs g) (fun g h => .inl h))
       refine ⟨_, 0, rfl, HV7.out.box6 z0 z1 z2 z3 z4 z5 trivial trivial trivial trivial trivial trivial, ?_, .inl ⟨HEN.out, rfl⟩⟩
       refine Kp.narrow hfin HB04.out (fun g h => ?_)
       rcases h with h | h | h
       · right; omega
       · right; omega
       · left; exact h
  · obtain rfl : k = n := by omega
    have j0 : ¬ (k : Int) < k := by omega
    have hEn : E = some rows' := by
     have h1 := HEL.out
     rw [Nat.sub_self] at h1
     rw [<- h1]; rfl
    have HEN := Lib.hid hEn
    have hDA : w.heap.size ≠ A := by omega
    have hDr : ∀ u ∈ Rs, u.1 ≠ w.heap.size := fun u hu e => by have := HRL.out u hu; omega
    have hDG : w.heap.size ≠ G := by omega
    have hGD : ¬ G = w.heap.size := by omega
    have hbz := HKP.out.blk HBKD4.out (fun e => by
     rcases e with e | e | ⟨u, hu, e⟩
     · exact hDG e
     · exact hDA e
     · exact hDr u hu e)
    have z0 := hbz.cell 0
    have z1 := hbz.cell 1
    have z2 := hbz.cell 2
    have z3 := hbz.cell 3
    have z4 := hbz.cell 4
    have z5 := hbz.cell 5
    simp only [List.getElem?_toArray, List.getElem?_cons_succ, List.getElem?_cons_zero] at z0 z1 z2 z3 z4 z5
    have t0 := hbz.free 0
    have t1 := hbz.free 1
    have t2 := hbz.free 2
    have t3 := hbz.free 3
    have t4 := hbz.free 4
    have t5 := hbz.free 5
    obtain ⟨dc, hdn, hdc⟩ := HDT.out.at (k := 0) rfl
    have HDV := Lib.hid hdn.vq
    obtain ⟨g1, gc1, g2, gc2, g3, gc3, g4, gc4, rfl⟩ := hdn.shape
    have sd0 : wr.cell? ⟨G, 0, none⟩ = _ := hdc 0 _ rfl
    have sd1 : wr.cell? ⟨G, 1, none⟩ = _ := hdc 1 _ rfl
    have sd2 : wr.cell? ⟨G, 2, none⟩ = _ := hdc 2 _ rfl
    have sd3 : wr.cell? ⟨G, 3, none⟩ = _ := hdc 3 _ rfl
    have sd4 : wr.cell? ⟨G, 4, none⟩ = _ := hdc 4 _ rfl
    have sd5 : wr.cell? ⟨G, 5, none⟩ = _ := hdc 5 _ rfl
    have hGw : w.heap.size <= G := by omega
    clear hEn hbz hdn hdc
    go_wp2_with fail
    refine bodyPost_ret (v := .agg #[.bool (qS δ), .slice g1 (dig (qN δ)).length gc1, .slice g2 (dig (qD δ)).length gc2, .bool false, .slice g3 (dig 0).length gc3, .slice g4 (dig 1).length gc4]) (by simp [results, Tryz.results130, go_sem, z0, z1, z2, z3, z4, z5]) rfl ?_
    have hk6 := Kp.six (o := 0) z0 z1 z2 z3 z4 z5 trivial trivial trivial trivial trivial trivial (.bool (qS δ)) (.slice g1 (dig (qN δ)).length gc1) (.slice g2 (dig (qD δ)).length gc2) (.bool false) (.slice g3 (dig 0).length gc3) (.slice g4 (dig 1).length gc4)
    have hfin := (HKP.out.mono (P' := fun g => g = w.heap.size ∨ g = G ∨ Ps A Rs g) (fun g h => .inr h)).trans (hk6.mono (P' := fun g => g = w.heap.size ∨ g = G ∨ Ps A Rs g) (fun g h => .inl h))
    refine ⟨_, rfl, δ, HDV.out.box6 z0 z1 z2 z3 z4 z5 trivial trivial trivial trivial trivial trivial, ?_, .inr ⟨HD0.out, rows', HEN.out, Rs', ?_, fun a b h => HSUB.out (a, b) h⟩⟩
    · refine Kp.narrow hfin HB04.out (fun g h => ?_)
      rcases h with h | h | h
      · right; omega
      · right; omega
      · left; exact h
    · exact HM'.out.kp hk6 (fun e => hDA e.symm) (fun i u hu e => hDr u (HSUB.out u (List.mem_of_getElem? hu)) e)
end Go.Proofs.YtdpjdifoonfcdaaGreatDoor

namespace Go.Proofs.YtdpjdifoonfcdaaGreatDoor
open Go.RowKit
theorem Tryz.infoRowV : (Tryz.prog.info? 227).map (fun i => (i.zero, i.size, i.bytes)) = some (some (.slice none 0 0), 1, 24) := by kernel_rfl
structure OwnM (w : World) (base : Nat) (v : Value) (vs : List Value) (rows : List (List Rat)) : Prop where
 own : w.ownsRow base 227 1 v rows.length vs
 nib : NIB w v
 row : ∀ (i : Nat) u xs, vs[i]? = some u -> rows[i]? = some xs -> OwnQ w base u xs
 dist : ∀ (i j : Nat) u s, vs[i]? = some u -> vs[j]? = some s -> i ≠ j -> u.ownBlock ≠ s.ownBlock
theorem OwnM.len {w : World} {base : Nat} {v : Value} {vs : List Value} {rows : List (List Rat)} (h : OwnM w base v vs rows) : vs.length = rows.length := by have := h.own.1; omega
theorem OwnQ.ne {w : World} {b1 b2 n s : Nat} {e : TypeId} {v u : Value} {xs : List Rat} {ys : List Value} (h : OwnQ w b1 u xs) (ho : w.ownsRow b2 e s v n ys) (he : 148 ≠ e) : ∀ g, u.ownBlock = some g -> ¬ v.ownBlock = some g := by
 obtain ⟨cs, h1, _⟩ := h
 intro g hg hv
 rcases own_ne3 h1 ho he with h | h
 · rw [h] at hg; cases hg
 · exact h (hg.trans hv.symm)
theorem own_kp {P : Nat -> Prop} {w w' : World} {b s n : Nat} {e : TypeId} {v : Value} {xs : List Value} (h : w.ownsRow b e s v n xs) (hk : Kp P w w') (hp : ∀ g, v.ownBlock = some g -> ¬ P g) : w'.ownsRow b e s v n xs := by
 refine ⟨h.1, ?_⟩
 rcases h.2 with h | ⟨g, cap, cur, e1, e2, e3, e4⟩
 · exact .inl h
 · refine .inr ⟨g, cap, cur, e1, e2, ?_, e4⟩
   rw [hk.block g (Array.getElem?_eq_some_iff.1 e3).1 (hp g (by rw [e1]; rfl))]; exact e3
theorem NIB.kp {P : Nat -> Prop} {w w' : World} {v : Value} (h : NIB w v) (hk : Kp P w w') (hl : ∀ g, v.ownBlock = some g -> g < w.heap.size) (hp : ∀ g, v.ownBlock = some g -> ¬ P g) : NIB w' v := fun g hg a T fr hc => by
 rw [hk.block g (hl g hg) (hp g hg)] at hc
 exact h g hg a T fr hc
theorem OwnM.kp {P : Nat -> Prop} {w w' : World} {base : Nat} {v : Value} {vs : List Value} {rows : List (List Rat)} (h : OwnM w base v vs rows) (hk : Kp P w w') (hv : ∀ g, v.ownBlock = some g -> ¬ P g) (hr : ∀ (i : Nat) u, vs[i]? = some u -> ∀ g, u.ownBlock = some g -> ¬ P g) : OwnM w' base v vs rows :=
 ⟨own_kp h.own hk hv, h.nib.kp hk (fun g hg => (h.own.lt g hg).2) hv, fun i u xs h1 h2 => (h.row i u xs h1 h2).kp hk (hr i u h1), h.dist⟩
theorem OwnM.below {w w' : World} {base : Nat} {v : Value} {vs : List Value} {rows : List (List Rat)} (h : OwnM w base v vs rows) (hb : Below w.heap.size w w') : OwnM w' base v vs rows := h.kp (P := fun _ => False) (Kp.of_below hb) (fun _ _ h => h) (fun _ _ _ _ _ h => h)
theorem OwnM.nil (w : World) (base : Nat) : OwnM w base (.slice none 0 0) [] [] := ⟨World.ownsRow_nil _ _ _ _, NIB.none _, fun _ _ _ h => by simp at h, fun _ _ _ _ h => by simp at h⟩
theorem OwnM.snoc {w w' : World} {base : Nat} {v v' u : Value} {vs : List Value} {rows : List (List Rat)} {xs : List Rat} (h : OwnM w base v vs rows) (hu : OwnQ w base u xs) (hn : ∀ (i : Nat) s, vs[i]? = some s -> s.ownBlock ≠ u.ownBlock) (hg : w.grownBy w' v.ownBlock) (ho : w'.ownsRow base 227 1 v' (rows.length + 1) (vs ++ [u])) (hni : NIB w' v') : OwnM w' base v' (vs ++ [u]) (rows ++ [xs]) := by
 have hk := Kp.grown hg h.nib
 have hl := h.len
 refine ⟨by simpa using ho, hni, fun i s ys h1 h2 => ?_, fun i j s t h1 h2 hij => ?_⟩
 · by_cases hi : i < vs.length
   · rw [List.getElem?_append_left hi] at h1
     rw [List.getElem?_append_left (by omega)] at h2
     exact (h.row i s ys h1 h2).kp hk ((h.row i s ys h1 h2).ne h.own (by decide))
   · have hi2 : i = vs.length := by have := (List.getElem?_eq_some_iff.1 h1).1; simp at this; omega
     subst hi2
     rw [List.getElem?_append_right (Nat.le_refl _), Nat.sub_self] at h1
     rw [List.getElem?_append_right (by omega), hl, Nat.sub_self] at h2
     simp only [List.getElem?_cons_zero, Option.some.injEq] at h1 h2
     subst h1; subst h2
     exact hu.kp hk (hu.ne h.own (by decide))
 · have key : ∀ m s, (vs ++ [u])[m]? = some s -> (m < vs.length /\ vs[m]? = some s) ∨ (m = vs.length /\ s = u) := fun m s hm => by
    by_cases hml : m < vs.length
    · rw [List.getElem?_append_left hml] at hm; exact .inl ⟨hml, hm⟩
    · have hm2 : m = vs.length := by have := (List.getElem?_eq_some_iff.1 hm).1; simp at this; omega
      subst hm2
      rw [List.getElem?_append_right (Nat.le_refl _), Nat.sub_self] at hm
      simp only [List.getElem?_cons_zero, Option.some.injEq] at hm
      exact .inr ⟨rfl, hm.symm⟩
   rcases key i s h1 with ⟨a1, a2⟩ | ⟨a1, a2⟩ <;> rcases key j t h2 with ⟨b1, b2⟩ | ⟨b1, b2⟩
   · exact h.dist i j s t a2 b2 hij
   · rw [b2]; exact hn i s a2
   · rw [a2]; exact fun e => hn j t b2 e.symm
   · omega
def RowsT (w : World) (ms : List Value) (rows : List (List Rat)) (n : Nat) : Prop := ms.length = rows.length /\ ∀ (i : Nat) v xs, ms[i]? = some v -> rows[i]? = some xs -> ∃ a c, v = .slice a n c /\ Cells w a ((xs.map txQ).map Value.string)
theorem RowsT.below {w w' : World} {ms : List Value} {rows : List (List Rat)} {n : Nat} (h : RowsT w ms rows n) (hb : Below w.heap.size w w') : RowsT w' ms rows n := ⟨h.1, fun i v xs h1 h2 => by
 obtain ⟨a, c, e, hc⟩ := h.2 i v xs h1 h2
 exact ⟨a, c, e, hc.below hb (Nat.le_refl _)⟩⟩
set_option maxRecDepth 100000 in
set_option maxHeartbeats 2000000 in
theorem mat1_any (ao : Option Addr) (xs : List Rat) (n cap : Nat) (w : World) (ht : Tab w) (hc : Cells w ao ((xs.map txQ).map Value.string)) (hl : xs.length <= 1000000) (ho : ∀ q ∈ xs, okQ q = true) (hn : n = xs.length) (hx0 : 0 < xs.length) :
 Calls Tryz.prog 240 #[.slice ao n cap] w fun e w' => (∃ v, e = .returned (.tuple #[v, .bool true]) /\ OwnQ w' w.heap.size v xs) /\ Below w.heap.size w w' := by
 have hA := all_txO ao xs n cap w ht hc hl ho hn
 have HA := Lib.hid hA
 clear hA hc ht ho hl
 subst hn
 go_enter Tryz.func240, Tryz.ntmps240
 go_wp2_with fail
 refine HA.out.mono ?_
 rintro e w1 ⟨⟨v, rfl, hv⟩, hb⟩
 obtain ⟨g, c, rfl, -⟩ := hv.slice hx0
 have HV := Lib.hid hv
 clear hv
 go_wp2_with fail
 go_ret2
 exact ⟨⟨_, rfl, HV.out⟩, hb⟩
set_option maxRecDepth 100000 in
set_option maxHeartbeats 2000000 in
theorem all2_any (ao : Option Addr) (ms : List Value) (rows : List (List Rat)) (N n cap : Nat) (w : World) (ht : Tab w) (hc : Cells w ao ms) (hr : RowsT w ms rows n) (hrw : Rows rows N n) (hN : N <= 24) (hn : n <= 24) (hn1 : 0 < n) (ho : ∀ xs ∈ rows, ∀ q ∈ xs, okQ q = true) :
 Calls Tryz.prog 239 #[.slice ao N cap, .func (.func 240) #[] #[]] w fun e w' => (∃ v vs, e = .returned (.tuple #[v, .bool true]) /\ OwnM w' w.heap.size v vs rows) /\ Below w.heap.size w w' := by
 obtain ⟨i0, hi, hz0, hz1, hz2⟩ := info_parts Tryz.infoRowV
 have HC := Lib.hid hc; have HT := Lib.hid ht; have HR := Lib.hid hr; have HRW := Lib.hid hrw; have HO := Lib.hid ho
 have HML : Hid (ms.length = N) := Lib.hid (by rw [hr.1, hrw.1])
 clear hc ht hr hrw ho
 go_enter Tryz.func239, Tryz.ntmps239
 go_wp2_with fail
 go_loopw [6, 13] (fun ov iv wr => ∃ (k : Nat) (vs : List Value), k <= N /\ iv = .int .i64 k /\ OwnM wr w.heap.size ov vs (rows.take k) /\ Below w.heap.size w wr) (fun _ iv _ => N - (intOf iv).toNat)
 case atStart => exact ⟨0, [], Nat.zero_le _, rfl, OwnM.nil _ _, Below.refl _ _⟩
 case round =>
  obtain ⟨k, vs, hk, rfl, hm, hb⟩ := hrel
  have HM := Lib.hid hm
  have hlk : (rows.take k).length = k := by rw [List.length_take, HRW.out.1]; omega
  have hsz := hb.size
  clear hm
  by_cases hlt : k < N
  · obtain ⟨xs, hxs, hxl, -, hxm⟩ := HRW.out.get hlt
    obtain ⟨mv, hmv⟩ := get_of_lt (show k < ms.length by rw [HML.out]; exact hlt)
    obtain ⟨ra, rc, rfl, hrc⟩ := HR.out.2 k mv xs hmv hxs
    obtain ⟨b, off, rfl⟩ := HC.out.addr (by intro h; rw [h] at hmv; simp at hmv)
    have c0 := cell_keep (HC.out.at hmv) hb (Nat.le_refl _)
    have hA := mat1_any ra xs n rc wr (HT.out.below hb (Nat.le_refl _)) (hrc.below hb (Nat.le_refl _)) (by omega) (HO.out xs hxm) hxl.symm (by omega)
    have htk := take_get hxs
    have HA := Lib.hid hA; have HTK := Lib.hid htk
    have j0 : (k : Int) < N := by omega
    have hxl0 : 0 < xs.length := by omega
    clear hA htk hxs hmv hrc hxm
    go_wp2_with fail
    refine HA.out.mono ?_
    rintro e w1 ⟨⟨u, rfl, hu⟩, hb1⟩
    have hm1 := HM.out.below hb1
    obtain ⟨g, gc, rfl, hgc⟩ := hu.slice hxl0
    rw [hxl] at hgc
    have hnew : ∀ (i : Nat) s, vs[i]? = some s -> s.ownBlock ≠ some g := fun i s hs e => by
     obtain ⟨ys, hys⟩ := get_of_lt (show i < (rows.take k).length by rw [<- HM.out.len]; exact (List.getElem?_eq_some_iff.1 hs).1)
     have h1 := ((HM.out.row i s ys hs hys).lt g e).2
     have h2 := (hu.lt g rfl).1
     omega
    have hb0 : Below w.heap.size w w1 := hb.trans (hb1.mono hsz)
    have hsz1 := hb0.size
    rw [hxl] at hu ⊢
    have hal : Below w1.heap.size w1 (w1.alloc (.cells #[.slice (some ⟨g, 0, none⟩) n gc] 227)) := (Below.refl _ _).alloc (Nat.le_refl _) _
    have hu2 := (hu.base hsz).below hal
    have hm2 := hm1.below hal
    have HU2 := Lib.hid hu2; have HM2 := Lib.hid hm2; have HNEW := Lib.hid hnew
    have hown := hm2.own
    rw [hlk] at hown
    have hnib := hm2.nib
    have HNIB := Lib.hid hnib
    have hzz : ∀ z ∈ ((Value.slice none 0 0).cells).toList, NoNum z := by
     intro z hz
     change z ∈ [Value.slice none 0 0] at hz
     obtain rfl := List.mem_singleton.1 hz; trivial
    have hnn : ∀ z ∈ ([.slice (some ⟨g, 0, none⟩) n gc] : List Value), NoNum z := by
     intro z hz
     obtain rfl := List.mem_singleton.1 hz; trivial
    have HZZ := Lib.hid hzz; have HNN := Lib.hid hnn
    clear hu hm1 hm2 hu2 hnew hnib hzz hnn HM
    go_wp2_with (at_builtin; refine wpList_append_nib _ rfl _ _ 224 rfl w.heap.size 227 i0 (.slice none 0 0) 1 24 Tryz.underlying224 hi hz0 hz1 hz2 rfl (by decide) _ _ _ rfl hown ⟨w1.heap.size, 0, none⟩ 1 1 [.slice (some ⟨g, 0, none⟩) n gc] rfl rfl (World.news_of_block (cs := #[.slice (some ⟨g, 0, none⟩) n gc]) (t := 227) (fr := (0, 0)) (by have := heap_alloc_new w1 (.cells #[.slice (some ⟨g, 0, none⟩) n gc] 227); simpa using this)) (by simp [Value.oneCell']) (by unfold maxLen; omega) (by omega) (by simp; omega) HNIB.out HZZ.out HNN.out ?_; intro v1 wz hown2 hgrow hnib3)
    have hsn := HM2.out.snoc HU2.out HNEW.out hgrow (by rw [hlk]; exact hown2) hnib3
    rw [<- HTK.out] at hsn
    have hbz := (hb0.alloc hsz1 (.cells #[.slice (some ⟨g, 0, none⟩) n gc] 227)).grown hgrow (by simp; omega) (fun j e => (hown.lt j e).1)
    have HSN := Lib.hid hsn
    obtain ⟨gg, cp, rfl⟩ := own_succ hown2
    clear hown hown2 hgrow hnib3 hsn HM2
    go_wp2
    go_roundw
    case rel => exact ⟨k + 1, _, by omega, by go_num, HSN.out, hbz⟩
    case measure => simp [intOf]; omega
  · obtain rfl : k = N := by omega
    have hm := HM.out
    rw [List.take_of_length_le (by rw [HRW.out.1]; exact Nat.le_refl _)] at hm
    have HMF := Lib.hid hm
    have j0 : ¬ (k : Int) < k := by omega
    clear hm HM
    go_wp2
    go_ret2
    exact ⟨⟨_, rfl, _, HMF.out⟩, hb⟩
end Go.Proofs.YtdpjdifoonfcdaaGreatDoor

namespace Go.Proofs.YtdpjdifoonfcdaaGreatDoor
open Go.RowKit
set_option maxRecDepth 100000 in
set_option maxHeartbeats 2000000 in
theorem matrixOf_any (ao : Option Addr) (ms : List Value) (rows : List (List Rat)) (N n cap : Nat) (w : World) (ht : Tab w) (hc : Cells w ao ms) (hr : RowsT w ms rows n) (hrw : Rows rows N n) (hN : N <= 24) (hn : n <= 24) (hn1 : 0 < n) (ho : ∀ xs ∈ rows, ∀ q ∈ xs, okQ q = true) :
 Calls Tryz.prog 195 #[.slice ao N cap] w fun e w' => (∃ v vs, e = .returned (.tuple #[v, .int .i64 0]) /\ OwnM w' w.heap.size v vs rows) /\ Below w.heap.size w w' := by
 have hA := all2_any ao ms rows N n cap w ht hc hr hrw hN hn hn1 ho
 have HA := Lib.hid hA; have HC := Lib.hid hc; have HR := Lib.hid hr; have HRW := Lib.hid hrw
 have HML : Hid (ms.length = N) := Lib.hid (by rw [hr.1, hrw.1])
 have i0 : ¬ (24 : Int) < N := by omega
 have i1 : ¬ (24 : Int) < n := by omega
 have HN := Lib.hid hN
 clear hA ht hc hr hrw ho hN hn
 go_enter Tryz.func195, Tryz.ntmps195
 go_wp2_with fail
 go_loopw [13] (fun iv wr => ∃ (k : Nat), k <= N /\ iv = .int .i64 k /\ wr = w) (fun iv _ => N - (intOf iv).toNat)
 case atStart => exact ⟨0, Nat.zero_le _, rfl, rfl⟩
 case round =>
  obtain ⟨k, hk, rfl, hwr⟩ := hrel
  obtain rfl : w = wr := hwr.symm
  by_cases hlt : k < N
  · obtain ⟨xs, hxs, hxl, -, -⟩ := HRW.out.get hlt
    obtain ⟨x0, hx0, -, -, -⟩ := HRW.out.get (show 0 < N by omega)
    obtain ⟨mv, hmv⟩ := get_of_lt (show k < ms.length by rw [HML.out]; exact hlt)
    obtain ⟨m0, hm0⟩ := get_of_lt (show 0 < ms.length by rw [HML.out]; omega)
    obtain ⟨ra, rc, rfl, -⟩ := HR.out.2 k mv xs hmv hxs
    obtain ⟨r0, c0, rfl, -⟩ := HR.out.2 0 m0 x0 hm0 hx0
    obtain ⟨b, off, rfl⟩ := HC.out.addr (by intro h; rw [h] at hmv; simp at hmv)
    have ck := HC.out.at hmv
    have cz := HC.out.at hm0
    rw [Nat.add_zero] at cz
    have j0 : (k : Int) < N := by omega
    have j1 : (0 : Int) < N := by omega
    have e1 : ((n : Int) == (n : Int)) = true := by simp
    clear hxs hx0 hmv hm0 hxl
    go_wp2_with fail
    go_roundw
    case rel => exact ⟨k + 1, by omega, by go_num, trivial⟩
    case measure => simp [intOf]; omega
  · obtain rfl : k = N := by omega
    have j0 : ¬ (k : Int) < k := by omega
    go_wp2_with fail
    refine HA.out.mono ?_
    rintro e w1 ⟨⟨v, vs, rfl, hm⟩, hb⟩
    have HM := Lib.hid hm
    obtain ⟨g, c, rfl, -⟩ := own_cells hm.own
    clear hm
    go_wp2_with fail
    go_ret2
    exact ⟨⟨_, _, rfl, HM.out⟩, hb⟩
set_option maxRecDepth 100000 in
theorem columns_any (ao : Option Addr) (ms : List Value) (rows : List (List Rat)) (N n cap : Nat) (w : World) (hc : Cells w ao ms) (hr : RowsT w ms rows n) (hrw : Rows rows N n) (hN : 0 < N) :
 Calls Tryz.prog 196 #[.slice ao N cap] w fun e w' => e = .returned (.int .i64 n) /\ w' = w := by
 obtain ⟨x0, hx0, -, -, -⟩ := hrw.get hN
 obtain ⟨m0, hm0⟩ := get_of_lt (show 0 < ms.length by rw [hr.1, hrw.1]; exact hN)
 obtain ⟨r0, c0, rfl, -⟩ := hr.2 0 m0 x0 hm0 hx0
 obtain ⟨b, off, rfl⟩ := hc.addr (by intro h; rw [h] at hm0; simp at hm0)
 have cz := hc.at hm0
 rw [Nat.add_zero] at cz
 have j1 : (0 : Int) < N := by omega
 have e1 : ((N : Int) == 0) = false := by rw [beq_eq_false_iff_ne]; omega
 clear hx0 hm0 hc hr hrw hN
 go_enter Tryz.func196, Tryz.ntmps196
 go_wp2_with fail
 go_ret
 exact ⟨rfl, rfl⟩
set_option maxRecDepth 100000 in
set_option maxHeartbeats 2000000 in
theorem squareOf_any (ao : Option Addr) (ms : List Value) (rows : List (List Rat)) (N cap : Nat) (w : World) (ht : Tab w) (hc : Cells w ao ms) (hr : RowsT w ms rows N) (hrw : Rows rows N N) (hN : N <= 24) (hn1 : 0 < N) (ho : ∀ xs ∈ rows, ∀ q ∈ xs, okQ q = true) :
 Calls Tryz.prog 127 #[.slice ao N cap] w fun e w' => (∃ v vs, e = .returned (.tuple #[v, .int .i64 0]) /\ OwnM w' w.heap.size v vs rows) /\ Below w.heap.size w w' := by
 have hA := matrixOf_any ao ms rows N N cap w ht hc hr hrw hN hN hn1 ho
 have hCo := fun W (hb : Below w.heap.size w W) => columns_any ao ms rows N N cap W (hc.below hb (Nat.le_refl _)) (hr.below hb) hrw hn1
 have HA := Lib.hid hA; have HCO := Lib.hid hCo
 clear hA hCo ht hc hr hrw ho hN hn1
 go_enter Tryz.func127, Tryz.ntmps127
 go_wp2_with fail
 refine HA.out.mono ?_
 rintro e w1 ⟨⟨v, vs, rfl, hm⟩, hb⟩
 have HM := Lib.hid hm; have HB := Lib.hid hb
 obtain ⟨g, c, rfl, -⟩ := own_cells hm.own
 have e1 : ((N : Int) == (N : Int)) = true := by simp
 clear hm hb
 go_wp2_with (go_at_call 196; refine (HCO.out _ HB.out).mono ?_; rintro e w2 ⟨rfl, rfl⟩)
 go_ret2
 exact ⟨⟨_, _, rfl, HM.out⟩, HB.out⟩
end Go.Proofs.YtdpjdifoonfcdaaGreatDoor

namespace Go.Proofs.YtdpjdifoonfcdaaGreatDoor
open Go.RowKit
structure MixM (w : World) (base A N : Nat) (vs0 vs : List Value) (rows : List (List Rat)) (xs : List Rat) (i : Nat) : Prop where
 len : vs.length = N
 outer : ∃ rest, Blk w A 227 (vs ++ rest).toArray
 same : ∀ j, i <= j -> vs[j]? = vs0[j]?
 done : ∀ j r, j < i -> rows[j]? = some r -> ∃ g c, vs[j]? = some (.slice (some ⟨g, 0, none⟩) (N + 1) c) /\ base <= g /\ RowB w g (r ++ [xs.getD j 0])
 todo : ∀ j u r, i <= j -> vs[j]? = some u -> rows[j]? = some r -> OwnQ w base u r
 own : ∀ (j : Nat) u, vs[j]? = some u -> ∃ g, u.ownBlock = some g /\ base <= g /\ g < w.heap.size /\ ∃ cs, Blk w g 148 cs
 dist : ∀ (j k : Nat) u s, vs[j]? = some u -> vs[k]? = some s -> j ≠ k -> u.ownBlock ≠ s.ownBlock
theorem blk_ne {w : World} {A g : Nat} {cs ds : Array Value} (h1 : Blk w A 227 cs) (h2 : Blk w g 148 ds) : A ≠ g := by
 intro e
 subst e
 have h3 := h1.symm.trans h2
 injection h3 with h3
 injection h3 with _ h3
 exact absurd h3 (by decide)
theorem OwnQ.blk {w : World} {base : Nat} {u : Value} {xs : List Rat} (h : OwnQ w base u xs) (hx : 0 < xs.length) : ∃ g, u.ownBlock = some g /\ base <= g /\ g < w.heap.size /\ ∃ cs, Blk w g 148 cs := by
 obtain ⟨cs, h1, _⟩ := h
 rcases h1.2 with ⟨_, h⟩ | ⟨g, cap, cur, rfl, e2, e3, _⟩
 · omega
 · exact ⟨g, rfl, e2, (Array.getElem?_eq_some_iff.1 e3).1, cur, e3⟩
theorem MixM.start {w : World} {base g c : Nat} {vs : List Value} {rows : List (List Rat)} {N M : Nat} (xs : List Rat) (h : OwnM w base (.slice (some ⟨g, 0, none⟩) M c) vs rows) (hr : Rows rows N N) (hN : 0 < N) : MixM w base g N vs vs rows xs 0 := by
 have hl : vs.length = N := by rw [h.len, hr.1]
 refine ⟨hl, ?_, fun _ _ => rfl, fun j r hj => by omega, fun j u r _ h1 h2 => h.row j u r h1 h2, fun j u hu => ?_, h.dist⟩
 · rcases h.own.2 with ⟨e, _⟩ | ⟨g', cap, cur, e1, e2, e3, e4, e5, e6, e7⟩
   · cases e
   · injection e1 with e1
     injection e1 with e1
     injection e1 with e1
     subst e1
     refine ⟨cur.toList.drop (rows.length * 1), ?_⟩
     unfold Blk
     rw [e3, <- e7, List.take_append_drop]
 · obtain ⟨r, hr2, hrl, -, -⟩ := hr.get (show j < N by rw [<- hl]; exact (List.getElem?_eq_some_iff.1 hu).1)
   exact (h.row j u r hu hr2).blk (by omega)
theorem MixM.cell {w : World} {base A N i : Nat} {vs0 vs : List Value} {rows : List (List Rat)} {xs : List Rat} (h : MixM w base A N vs0 vs rows xs i) {j : Nat} {u : Value} (hu : vs[j]? = some u) : w.cell? ⟨A, j, none⟩ = some u := by
 obtain ⟨rest, hb⟩ := h.outer
 rw [hb.cell, List.getElem?_toArray, List.getElem?_append_left (List.getElem?_eq_some_iff.1 hu).1, hu]
theorem MixM.free {w : World} {base A N i : Nat} {vs0 vs : List Value} {rows : List (List Rat)} {xs : List Rat} (h : MixM w base A N vs0 vs rows xs i) (j : Nat) : w.frozen? ⟨A, j, none⟩ = false := by obtain ⟨_, hb⟩ := h.outer; exact hb.free j
theorem MixM.kp {P : Nat -> Prop} {w w' : World} {base A N i : Nat} {vs0 vs : List Value} {rows : List (List Rat)} {xs : List Rat} (h : MixM w base A N vs0 vs rows xs i) (hk : Kp P w w') (hA : ¬ P A) (hp : ∀ (j : Nat) u g, vs[j]? = some u -> u.ownBlock = some g -> ¬ P g) : MixM w' base A N vs0 vs rows xs i := by
 obtain ⟨rest, hb⟩ := h.outer
 refine ⟨h.len, ⟨rest, hk.blk hb hA⟩, h.same, fun j r hj hr => ?_, fun j u r hj hu hr => (h.todo j u r hj hu hr).kp hk (fun g hg => hp j u g hu hg), fun j u hu => ?_, h.dist⟩
 · obtain ⟨g, c, h1, h2, h3⟩ := h.done j r hj hr
   exact ⟨g, c, h1, h2, h3.kp hk (hp j _ g h1 rfl)⟩
 · obtain ⟨g, h1, h2, h3, cs, h4⟩ := h.own j u hu
   exact ⟨g, h1, h2, hk.lt h3, cs, hk.blk h4 (hp j u g hu h1)⟩
theorem MixM.below {w w' : World} {base A N i : Nat} {vs0 vs : List Value} {rows : List (List Rat)} {xs : List Rat} (h : MixM w base A N vs0 vs rows xs i) (hb : Below w.heap.size w w') : MixM w' base A N vs0 vs rows xs i := h.kp (P := fun _ => False) (Kp.of_below hb) (fun h => h) (fun _ _ _ _ _ h => h)
theorem MixM.step {w w1 : World} {base A N i : Nat} {vs0 vs : List Value} {rows : List (List Rat)} {xs : List Rat} {u : Value} {g g' c' : Nat} {r : List Rat} {y : Rat} (h : MixM w base A N vs0 vs rows xs i) (hi : i < N) (hu : vs[i]? = some u) (hug : u.ownBlock = some g) (hr : rows[i]? = some r) (hy : xs.getD i 0 = y)
 (hk : Kp (fun b => u.ownBlock = some b) w w1) (hrb : RowB w1 g' (r ++ [y])) (hg' : g' = g ∨ w.heap.size <= g') (hb' : base <= g') :
 MixM (w1.setCell ⟨A, i, none⟩ (.slice (some ⟨g', 0, none⟩) (N + 1) c')) base A N vs0 (vs.set i (.slice (some ⟨g', 0, none⟩) (N + 1) c')) rows xs (i + 1) /\ Kp (fun b => b = A ∨ u.ownBlock = some b) w (w1.setCell ⟨A, i, none⟩ (.slice (some ⟨g', 0, none⟩) (N + 1) c')) := by
 obtain ⟨rest, hb⟩ := h.outer
 obtain ⟨ga, h1, h2, h3, cs, h4⟩ := h.own i u hu
 rw [hug] at h1
 obtain rfl := Option.some.inj h1
 have hAg : A ≠ g := blk_ne hb h4
 have hb1 : Blk w1 A 227 (vs ++ rest).toArray := hk.blk hb (fun e => hAg (Option.some.inj (hug.symm.trans e)).symm)
 have hil : i < vs.length := by rw [h.len]; exact hi
 have hc1 : w1.cell? ⟨A, i, none⟩ = some u := by rw [hb1.cell, List.getElem?_toArray, List.getElem?_append_left hil, hu]
 have hnu : NoNum u := by
  cases u <;> first | trivial | (exfalso; simp [Value.ownBlock] at hug)
 have hkc := Kp.cellSet hc1 hnu (.slice (some ⟨g', 0, none⟩) (N + 1) c')
 have hb2 := hb1.setAt i (.slice (some ⟨g', 0, none⟩) (N + 1) c')
 rw [List.setIfInBounds_toArray, List.set_append_left _ _ hil] at hb2
 have hka : Kp (fun b => b = A ∨ u.ownBlock = some b) w (w1.setCell ⟨A, i, none⟩ (.slice (some ⟨g', 0, none⟩) (N + 1) c')) := (hk.mono (fun _ e => .inr e)).trans (hkc.mono (fun _ e => .inl e))
 have hAg' : g' ≠ A := by
  obtain ⟨ds, rst, h5, _⟩ := hrb
  exact (blk_ne hb1 h5).symm
 have hrb2 := hrb.kp hkc hAg'
 have hAl := hb.lt
 have hget : ∀ j, (vs.set i (.slice (some ⟨g', 0, none⟩) (N + 1) c'))[j]? = if i = j then some (.slice (some ⟨g', 0, none⟩) (N + 1) c') else vs[j]? := fun j => by
  rw [List.getElem?_set]
  by_cases e : i = j
  · rw [if_pos e, if_pos e, if_pos hil]
  · rw [if_neg e, if_neg e]
 have hoth : ∀ (j : Nat) s gs, i ≠ j -> vs[j]? = some s -> s.ownBlock = some gs -> ¬ (gs = A ∨ u.ownBlock = some gs) := fun j s gs hij hs hgs e => by
  rcases e with e | e
  · obtain ⟨gt, k1, _, _, ct, k4⟩ := h.own j s hs
    rw [hgs] at k1
    obtain rfl := Option.some.inj k1
    exact blk_ne hb k4 e.symm
  · exact h.dist i j u s hu hs hij (e.trans hgs.symm)
 refine ⟨⟨by rw [List.length_set]; exact h.len, ⟨rest, hb2⟩, fun j hj => ?_, fun j q hj hq => ?_, fun j s q hj hs hq => ?_, fun j s hs => ?_, fun j k s t hs ht hjk => ?_⟩, hka⟩
 · rw [hget, if_neg (by omega)]; exact h.same j (by omega)
 · rw [hget]
   by_cases hij : i = j
   · subst hij
     rw [hr] at hq
     obtain rfl := Option.some.inj hq
     exact ⟨g', c', by rw [if_pos rfl], hb', by rw [hy]; exact hrb2⟩
   · rw [if_neg hij]
     obtain ⟨gd, cd, d1, d2, d3⟩ := h.done j q (by omega) hq
     exact ⟨gd, cd, d1, d2, d3.kp hka (hoth j _ gd hij d1 rfl)⟩
 · rw [hget, if_neg (by omega)] at hs
   exact (h.todo j s q (by omega) hs hq).kp hka (fun gs hgs => hoth j s gs (by omega) hs hgs)
 · rw [hget] at hs
   by_cases hij : i = j
   · rw [if_pos hij] at hs
     obtain rfl := Option.some.inj hs
     obtain ⟨ds, rst, h5, _⟩ := hrb2
     exact ⟨g', rfl, hb', h5.lt, _, h5⟩
   · rw [if_neg hij] at hs
     obtain ⟨gt, k1, k2, k3, ct, k4⟩ := h.own j s hs
     exact ⟨gt, k1, k2, hka.lt k3, ct, hka.blk k4 (hoth j s gt hij hs k1)⟩
 · rw [hget] at hs ht
   have key : ∀ (m : Nat) t, i ≠ m -> vs[m]? = some t -> some g' ≠ t.ownBlock := fun m t him ht e => by
    obtain ⟨gt, k1, _, k3, _⟩ := h.own m t ht
    rw [k1] at e
    have e := Option.some.inj e
    rcases hg' with h0 | h0
    · exact h.dist i m u t hu ht him (by rw [hug, k1, <- h0, e])
    · omega
   by_cases hij : i = j
   · rw [if_pos hij] at hs
     rw [if_neg (by omega)] at ht
     obtain rfl := Option.some.inj hs
     exact key k t (by omega) ht
   · rw [if_neg hij] at hs
     by_cases hik : i = k
     · rw [if_pos hik] at ht
       obtain rfl := Option.some.inj ht
       exact fun e => key j s hij hs e.symm
     · rw [if_neg hik] at ht
       exact h.dist j k s t hs ht hjk
def augQ (rows : List (List Rat)) (xs : List Rat) : List (List Rat) := rows.mapIdx fun j r => r ++ [xs.getD j 0]
theorem augQ_get {rows : List (List Rat)} {xs : List Rat} {j : Nat} {r : List Rat} (h : rows[j]? = some r) : (augQ rows xs)[j]? = some (r ++ [xs.getD j 0]) := by
 unfold augQ; rw [List.getElem?_mapIdx, h]; rfl
theorem augQ_rows {rows : List (List Rat)} {xs : List Rat} {N : Nat} (h : Rows rows N N) : Rows (augQ rows xs) N (N + 1) := by
 refine ⟨by unfold augQ; rw [List.length_mapIdx, h.1], fun r hr => ?_⟩
 obtain ⟨j, hj⟩ := List.mem_iff_getElem?.1 hr
 have hjl : j < rows.length := by
  have := (List.getElem?_eq_some_iff.1 hj).1
  unfold augQ at this; rwa [List.length_mapIdx] at this
 rw [augQ_get (List.getElem?_eq_getElem hjl)] at hj
 have := Option.some.inj hj
 rw [<- this, List.length_append, h.2 _ (List.getElem_mem hjl)]; rfl
def blkOf : Value -> Nat × Nat | .slice (some a) _ c => (a.block, c) | _ => (0, 0)
theorem MixM.all {w : World} {base A N : Nat} {vs0 vs : List Value} {rows : List (List Rat)} {xs : List Rat} (h : MixM w base A N vs0 vs rows xs N) (hr : Rows rows N N) : MatB w A N (vs.map blkOf) (augQ rows xs) /\ ∀ r ∈ vs.map blkOf, base <= r.1 := by
 have hsl : ∀ (j : Nat) u, vs[j]? = some u -> ∃ g c r, u = .slice (some ⟨g, 0, none⟩) (N + 1) c /\ base <= g /\ rows[j]? = some r /\ RowB w g (r ++ [xs.getD j 0]) := fun j u hu => by
  have hj : j < N := by rw [<- h.len]; exact (List.getElem?_eq_some_iff.1 hu).1
  obtain ⟨r, hr2, -, -, -⟩ := hr.get hj
  obtain ⟨g, c, h1, h2, h3⟩ := h.done j r hj hr2
  rw [hu] at h1
  exact ⟨g, c, r, Option.some.inj h1, h2, hr2, h3⟩
 have hmap : (vs.map blkOf).map (rsl N) = vs := by
  refine List.ext_getElem? fun j => ?_
  rw [List.map_map, List.getElem?_map]
  cases hj : vs[j]? with
  | none => rfl
  | some u =>
    obtain ⟨g, c, r, rfl, -⟩ := hsl j u hj
    rfl
 have hget : ∀ (j : Nat) r, (vs.map blkOf)[j]? = some r -> ∃ u, vs[j]? = some u /\ u.ownBlock = some r.1 /\ base <= r.1 /\ ∃ q, rows[j]? = some q /\ RowB w r.1 (q ++ [xs.getD j 0]) := fun j r hj => by
  rw [List.getElem?_map] at hj
  cases hv : vs[j]? with
  | none => rw [hv] at hj; cases hj
  | some u =>
    rw [hv] at hj
    obtain ⟨g, c, q, rfl, hg, hq, hb⟩ := hsl j u hv
    have := Option.some.inj hj
    subst this
    exact ⟨_, rfl, rfl, hg, q, hq, hb⟩
 refine ⟨⟨by rw [List.length_map, h.len], ?_, fun i r ys h1 h2 => ?_, augQ_rows hr, fun i j r s h1 h2 hij e => ?_⟩, fun r hr => ?_⟩
 · rw [hmap]; exact h.outer
 · obtain ⟨u, -, -, -, q, hq, hb⟩ := hget i r h1
   rw [augQ_get hq] at h2
   rw [<- Option.some.inj h2]; exact hb
 · obtain ⟨u, u1, u2, -⟩ := hget i r h1
   obtain ⟨t, t1, t2, -⟩ := hget j s h2
   exact h.dist i j u t u1 t1 hij (by rw [u2, t2, e])
 · obtain ⟨j, hj⟩ := List.mem_iff_getElem?.1 hr
   obtain ⟨u, -, -, hb, -⟩ := hget j r hj
   exact hb
end Go.Proofs.YtdpjdifoonfcdaaGreatDoor
