/- Parts of a proof, in build order: LM, LO, LX, H1, JP, JQ. -/
import Derived.Test.YtdpjdifoonfcdaaGreatDoorKn11

namespace Go.Proofs.YtdpjdifoonfcdaaGreatDoor
open Go.RowKit
section
variable {P : Program} {md : Region.Mode} {ops : Array Oper} {Q : Exit -> Act -> World -> Prop} {T : Nat -> World -> Prop}
def wpAnyJ (P : Program) (md : Region.Mode) (ops : Array Oper) (Q : Exit -> Act -> World -> Prop) (T : Nat -> World -> Prop) : Nat -> Array Bool -> Act -> World -> Prop
 | 0, listed, a, w => Region.ready md ops listed = [] /\ Q .normal a w
 | fuel + 1, listed, a, w =>
   (Region.ready md ops listed = [] -> Q .normal a w) /\
   ∀ i ∈ Region.ready md ops listed, wpOp P ops Q i (fun a' w' => T i w' /\ wpAnyJ P md ops Q T fuel (listed.setIfInBounds i true) a' w') a w
theorem wpAny_of_J : ∀ (fuel : Nat) (listed : Array Bool) (a : Act) (w : World), wpAnyJ P md ops Q T fuel listed a w -> wpAny P md ops Q fuel listed a w
 | 0, _, _, _, h => h
 | fuel + 1, _, _, _, h => ⟨h.1, fun i hi => wpOp_mono (fun a' w' h' => wpAny_of_J fuel _ a' w' h'.2) (h.2 i hi)⟩
theorem wpAnyJ_first {S : World -> Prop} {i : Nat} {oi : Oper} {v : Value} (hi : ops[i]? = some oi) (hsel : ∀ (j : Nat) (o : Oper) cs b, ops[j]? = some o -> o.op ≠ .select cs b)
 (hQ : ∀ c a w, Q (.panic c) (a.put oi.dst v) w -> Q (.panic c) a w) (hTi : ∀ w, S w -> T i w) :
 ∀ (fuel : Nat) (listed : Array Bool) (a : Act) (w : World),
   (∀ j oj, ops[j]? = some oj -> j ≠ i -> listed.getD j true = false -> (∀ e ∈ oj.after, Region.binds md e = true -> e.on ≠ i) -> ∀ w, T j w -> S w) ->
   (∀ j oj, ops[j]? = some oj -> j ≠ i -> listed.getD j true = false -> (∀ e ∈ oj.after, Region.binds md e = true -> e.on ≠ i) -> oi.apart ops oj = true) ->
   i ∈ Region.ready md ops listed -> YieldsIf P ops S oi v a -> S w ->
   wpAnyJ P md ops Q T fuel (listed.setIfInBounds i true) (a.put oi.dst v) w -> wpAnyJ P md ops Q T (fuel + 1) listed a w := by
 intro fuel
 induction fuel with
 | zero =>
   intro listed a w _ _ hr hy hS H
   refine ⟨fun h => (by rw [h] at hr; cases hr), fun j hj => ?_⟩
   by_cases hji : j = i
   · subst hji; exact hy.wpOp hi hS ⟨hTi _ hS, H⟩
   · have := ready_mono hj hji
     rw [H.1] at this
     cases this
 | succ fuel ih =>
   intro listed a w hTS hfree hr hy hS H
   refine ⟨fun h => (by rw [h] at hr; cases hr), fun j hj => ?_⟩
   by_cases hji : j = i
   · subst hji; exact hy.wpOp hi hS ⟨hTi _ hS, H⟩
   · have h1 := H.2 j (ready_mono hj hji)
     obtain ⟨hjun, oj, hoj, hall⟩ := mem_ready.1 hj
     have hnot : ∀ e ∈ oj.after, Region.binds md e = true -> e.on ≠ i := fun e he hb heq => by
      have h1 := hall e he hb
      have h0 := (mem_ready.1 hr).1
      rw [heq] at h1
      rcases Nat.lt_or_ge i listed.size with h' | h'
      · simp [h'] at h0 h1; rw [h0] at h1; cases h1
      · simp [Array.getElem?_eq_none h'] at h1
     have h2 := wpOp_putIf hoj (hfree j oj hoj hji hjun hnot) (fun cs b => hsel i oi cs b hi) (fun cs b => hsel j oj cs b hoj) hQ hy h1
     have hfree' : ∀ k ok, ops[k]? = some ok -> k ≠ i -> (listed.setIfInBounds j true).getD k true = false ->
      (∀ e ∈ ok.after, Region.binds md e = true -> e.on ≠ i) -> oi.apart ops ok = true := fun k ok hk hki hun hno => by
      refine hfree k ok hk hki ?_ hno
      by_cases hjk : j = k
      · subst hjk; exact hjun
      · rw [getD_set_ne true hjk] at hun; exact hun
     have hTS' : ∀ k ok, ops[k]? = some ok -> k ≠ i -> (listed.setIfInBounds j true).getD k true = false ->
      (∀ e ∈ ok.after, Region.binds md e = true -> e.on ≠ i) -> ∀ w, T k w -> S w := fun k ok hk hki hun hno => by
      refine hTS k ok hk hki ?_ hno
      by_cases hjk : j = k
      · subst hjk; exact hjun
      · rw [getD_set_ne true hjk] at hun; exact hun
     refine wpOp_mono (fun a' w' h3 => ⟨h3.2.1, ih (listed.setIfInBounds j true) a' w' hTS' hfree' (ready_mono hr (Ne.symm hji)) h3.1 (hTS j oj hoj hji hjun hnot _ h3.2.1) ?_⟩) h2
     rw [Array.setIfInBounds_comm _ _ hji]
     exact h3.2.2
theorem wpAnyJ_all {rs : List Nat} {fuel : Nat} {listed : Array Bool} {a : Act} {w : World} (hr : Region.ready md ops listed = rs) (hne : rs ≠ [])
 (h : ∀ i ∈ rs, wpOp P ops Q i (fun a' w' => T i w' /\ wpAnyJ P md ops Q T fuel (listed.setIfInBounds i true) a' w') a w) : wpAnyJ P md ops Q T (fuel + 1) listed a w :=
 ⟨fun h0 => absurd (hr ▸ h0) hne, hr ▸ h⟩
theorem wpAnyJ_done {listed : Array Bool} {a : Act} {w : World} (hr : Region.ready md ops listed = []) (h : Q .normal a w) :
 ∀ fuel, wpAnyJ P md ops Q T fuel listed a w
 | 0 => ⟨hr, h⟩
 | _ + 1 => ⟨fun _ => h, by rw [hr]; simp⟩
theorem wpIn_region_roundJ {l n : Nat} {id : Nat} {a : Act} {w : World} (hm : P.follows .mixedOrders = true) (hd : noDefer ops = true) (hq : ¬ LetsOut Q)
 (h : wpAnyJ P .any ops Q T ops.size (Array.replicate ops.size false) a w.drew) : (Code.region id ops true).wpIn (Fence.wide.inRound l) n P Q a w :=
 wpIn_region_any hm (wpAny_in (noDefer_spec hd) hq _ _ _ _ (wpAny_of_J _ _ _ _ h))
def waitsFor (md : Region.Mode) (ops : Array Oper) (j i : Nat) : Bool := match ops[j]? with | some o => o.after.any (fun e => Region.binds md e && e.on == i) | none => true
theorem tjV (i : Nat) (v : Value) (S : World -> Prop) (ok : Nat -> Bool) {oi : Oper} {fuel : Nat} {listed l' : Array Bool} {a a' : Act} {w : World} (hS : S w) (hTi : ∀ w, S w -> T i w) (hTS : ∀ j, ok j = true -> ∀ w, T j w -> S w)
 (h : wpAnyJ P md ops Q T fuel l' a' w)
 (hi : ops[i]? = some oi := by simp only [List.getElem?_toArray, List.getElem?_cons_succ, List.getElem?_cons_zero]; rfl)
 (hs : Region.noSelect ops = true := by kernel_rfl) (hf : Region.free md ops listed i = true := by kernel_rfl) (hr : (Region.ready md ops listed).contains i = true := by kernel_rfl)
 (hok : (List.range ops.size).all (fun j => j == i || listed.getD j true || waitsFor md ops j i || ok j) = true := by kernel_rfl)
 (hQ : ∀ c a w, Q (.panic c) (a.put oi.dst v) w -> Q (.panic c) a w := by exact fun _ _ _ h => h) (hw : Region.wanted oi (yielded ops a.tmps) = true := by rfl)
 (hy : ∀ w, S w -> (execOp a.eval oi).run P w = .ok (.value v) w := by intro w9 h; (repeat (obtain ⟨_, h⟩ := h)); first | (go_simp; done) | (go_simp; exact IntWalk.i64_in _ (by omega)))
 (hl : listed.setIfInBounds i true = l' := by first | (simp only [List.setIfInBounds_toArray, List.set_cons_zero, List.set_cons_succ]; rfl) | rfl)
 (ha : a.put oi.dst v = a' := by first | (simp only [Act.put, List.setIfInBounds_toArray, List.set_cons_zero, List.set_cons_succ]; rfl) | rfl) : wpAnyJ P md ops Q T (fuel + 1) listed a w := by
 subst hl; subst ha
 refine wpAnyJ_first (S := S) hi (Region.noSelect_spec hs) hQ hTi fuel listed a w (fun j oj hj hji hun hno w hT => hTS j ?_ w hT) (Region.free_spec hi hf) (by simpa using hr) (.inl ⟨hw, hy⟩) hS h
 have hjs := (Array.getElem?_eq_some_iff.1 hj).1
 have h1 := List.all_eq_true.1 hok j (List.mem_range.2 hjs)
 rw [Bool.or_eq_true, Bool.or_eq_true, Bool.or_eq_true] at h1
 rcases h1 with ((h1 | h1) | h1) | h1
 · exact absurd (by simpa using h1) hji
 · rw [hun] at h1; cases h1
 · exfalso
   unfold waitsFor at h1
   rw [hj] at h1
   simp only [Array.any_eq_true] at h1
   obtain ⟨k, hk, he⟩ := h1
   rw [Bool.and_eq_true, beq_iff_eq] at he
   exact hno _ (Array.getElem_mem hk) he.1 he.2
 · exact h1
theorem tjO {fuel : Nat} {listed l' : Array Bool} {a : Act} {w : World} {i : Nat} {o : Oper}
 (h : ∀ K' : Act -> World -> Prop, Shut (∀ a w, T i w -> wpAnyJ P md ops Q T fuel l' a w -> K' a w) -> if Region.wanted o (yielded ops a.tmps) = true then Oper.wp P o a w K' Q else K' (a.put o.dst undef) w)
 (hi : ops[i]? = some o) (hl : listed.setIfInBounds i true = l') : wpOp P ops Q i (fun a' w' => T i w' /\ wpAnyJ P md ops Q T fuel (listed.setIfInBounds i true) a' w') a w := by
 subst hl
 exact wpOp_step hi (fun K' hK => h K' (fun a w hS hW => hK a w ⟨hS, hW⟩))
theorem tjC (i : Nat) {o : Oper} {fuel : Nat} {listed l' : Array Bool} {a : Act} {w : World}
 (h : ∀ K' : Act -> World -> Prop, Shut (∀ a w, T i w -> wpAnyJ P md ops Q T fuel l' a w -> K' a w) -> if Region.wanted o (yielded ops a.tmps) = true then Oper.wp P o a w K' Q else K' (a.put o.dst undef) w)
 (hi : ops[i]? = some o := by simp only [List.getElem?_toArray, List.getElem?_cons_succ, List.getElem?_cons_zero]; rfl) (hr : Region.ready md ops listed = [i] := by kernel_rfl)
 (hl : listed.setIfInBounds i true = l' := by first | (simp only [List.setIfInBounds_toArray, List.set_cons_zero, List.set_cons_succ]; rfl) | rfl) : wpAnyJ P md ops Q T (fuel + 1) listed a w :=
 wpAnyJ_all hr (by simp) (fun j hj => by obtain rfl := List.mem_singleton.1 hj; exact tjO h hi hl)
theorem tjB (i j : Nat) {o u : Oper} {fuel : Nat} {listed l1 l2 : Array Bool} {a : Act} {w : World}
 (h : ∀ K' : Act -> World -> Prop, Shut (∀ a w, T i w -> wpAnyJ P md ops Q T fuel l1 a w -> K' a w) -> if Region.wanted o (yielded ops a.tmps) = true then Oper.wp P o a w K' Q else K' (a.put o.dst undef) w)
 (h2 : ∀ K' : Act -> World -> Prop, Shut (∀ a w, T j w -> wpAnyJ P md ops Q T fuel l2 a w -> K' a w) -> if Region.wanted u (yielded ops a.tmps) = true then Oper.wp P u a w K' Q else K' (a.put u.dst undef) w)
 (hi : ops[i]? = some o := by simp only [List.getElem?_toArray, List.getElem?_cons_succ, List.getElem?_cons_zero]; rfl) (hj : ops[j]? = some u := by simp only [List.getElem?_toArray, List.getElem?_cons_succ, List.getElem?_cons_zero]; rfl) (hr : Region.ready md ops listed = [i, j] := by kernel_rfl)
 (hl : listed.setIfInBounds i true = l1 := by first | (simp only [List.setIfInBounds_toArray, List.set_cons_zero, List.set_cons_succ]; rfl) | rfl)
 (hl2 : listed.setIfInBounds j true = l2 := by first | (simp only [List.setIfInBounds_toArray, List.set_cons_zero, List.set_cons_succ]; rfl) | rfl) : wpAnyJ P md ops Q T (fuel + 1) listed a w :=
 wpAnyJ_all hr (by simp) (fun k hk => by
  rcases List.mem_cons.1 hk with rfl | hk
  · exact tjO h hi hl
  · obtain rfl := List.mem_singleton.1 hk; exact tjO h2 hj hl2)
end
end Go.Proofs.YtdpjdifoonfcdaaGreatDoor

namespace Go.Proofs.YtdpjdifoonfcdaaGreatDoor
open Go.RowKit Go.Shelf
structure Rd (B Bx : Nat) (p q : Int) (V : Array Value) (W X : World) (u8 v8 : Value) (n8 : Nat) (xs8 : List Value) (u9 v9 : Value) (n9 : Nat) (xs9 : List Value) : Prop where
 k : KeepsOthers W X
 be : Below B W X
 sz : B + 3 <= X.heap.size
 fam : X.heap[B + 2]? = W.heap[B + 2]?
 b8 : Blk X B 44 #[u8]
 b9 : Blk X (B + 1) 152 #[u9]
 r8 : X.ownsRow (B + 3) 23 2 v8 n8 xs8
 r9 : X.ownsRow (B + 3) 129 65 v9 n9 xs9
 c : Blk X Bx 23 #[.int .i64 p, .int .i64 q]
 x : Blk X (Bx + 1) 129 V
section
variable {B Bx : Nat} {p q : Int} {V : Array Value} {W X Y : World} {u8 v8 : Value} {n8 : Nat} {xs8 : List Value} {u9 v9 : Value} {n9 : Nat} {xs9 : List Value}
theorem Rd.alloc (h : Rd B Bx p q V W X u8 v8 n8 xs8 u9 v9 n9 xs9) (tmp : Obj) : Rd B Bx p q V W (X.alloc tmp) u8 v8 n8 xs8 u9 v9 n9 xs9 :=
 ⟨h.k.trans (KeepsOthers.alloc X tmp), h.be.alloc (by have := h.sz; omega) tmp, by simp; have := h.sz; omega, (hold_old X tmp _ (by have := h.sz; omega)).trans h.fam, h.b8.alloc tmp, h.b9.alloc tmp, h.r8.alloc tmp, h.r9.alloc tmp, h.c.alloc tmp, h.x.alloc tmp⟩
theorem own_keeps {b : Nat} {e : TypeId} {s n : Nat} {v : Value} {xs : List Value} (h : X.ownsRow b e s v n xs) (hg : X.grownBy Y v.ownBlock) : KeepsOthers X Y := by
 refine KeepsOthers.of_grownBy hg fun j o ej hj => ?_
 rcases h.2 with ⟨rfl, _⟩ | ⟨g, cap, cur, rfl, _, hgb, _⟩
 · simp [Value.ownBlock] at ej
 · obtain rfl : g = j := by simpa [Value.ownBlock] using ej
   rw [hgb] at hj; cases hj; rfl
theorem Rd.grow8 {v : Value} {n : Nat} {xs : List Value} (h : Rd B Bx p q V W X u8 v8 n8 xs8 u9 v9 n9 xs9) (ho : Y.ownsRow (B + 3) 23 2 v n xs) (hg : X.grownBy Y v8.ownBlock) (ha : some Bx ≠ v8.ownBlock) : Rd B Bx p q V W Y u8 v n xs u9 v9 n9 xs9 := by
 have ne : ∀ b, b < B + 3 -> some b ≠ v8.ownBlock := fun b hb e => by have := (h.r8.lt b e.symm).1; omega
 exact ⟨h.k.trans (own_keeps h.r8 hg), h.be.grown hg (by have := h.sz; omega) (fun j ej => by have := (h.r8.lt j ej).1; omega), Nat.le_trans h.sz hg.size, (hg.block _ (by have := h.sz; omega) (ne _ (by omega))).trans h.fam, h.b8.kept hg (ne _ (by omega)), h.b9.kept hg (ne _ (by omega)), ho, h.r9.kept hg (own_ne3 h.r9 h.r8 (by decide)), h.c.kept hg ha, h.x.kept hg (own_ne_blk h.r8 h.x (by decide))⟩
theorem Rd.grow9 {v : Value} {n : Nat} {xs : List Value} (h : Rd B Bx p q V W X u8 v8 n8 xs8 u9 v9 n9 xs9) (ho : Y.ownsRow (B + 3) 129 65 v n xs) (hg : X.grownBy Y v9.ownBlock) (ha : some (Bx + 1) ≠ v9.ownBlock) : Rd B Bx p q V W Y u8 v8 n8 xs8 u9 v n xs := by
 have ne : ∀ b, b < B + 3 -> some b ≠ v9.ownBlock := fun b hb e => by have := (h.r9.lt b e.symm).1; omega
 exact ⟨h.k.trans (own_keeps h.r9 hg), h.be.grown hg (by have := h.sz; omega) (fun j ej => by have := (h.r9.lt j ej).1; omega), Nat.le_trans h.sz hg.size, (hg.block _ (by have := h.sz; omega) (ne _ (by omega))).trans h.fam, h.b8.kept hg (ne _ (by omega)), h.b9.kept hg (ne _ (by omega)), h.r8.kept hg (own_ne3 h.r8 h.r9 (by decide)), ho, h.c.kept hg (own_ne_blk h.r9 h.c (by decide)), h.x.kept hg ha⟩
theorem Rd.store8 (h : Rd B Bx p q V W X u8 v8 n8 xs8 u9 v9 n9 xs9) (hB : B + 3 <= Bx) (u : Value) : Rd B Bx p q V W (X.setCell ⟨B, 0, none⟩ u) u v8 n8 xs8 u9 v9 n9 xs9 :=
 ⟨h.k.trans (KeepsOthers.setCell _ _ _), h.be.setCell (p := ⟨B, 0, none⟩) (Nat.le_refl _) u, by simp; exact h.sz, (heap_setCell_other X ⟨B, 0, none⟩ _ _ (by show B + 2 ≠ B; omega)).trans h.fam, h.b8.set0 u, h.b9.other (by omega) _ _, own_set3 h.r8 (fun e => by have := (h.r8.lt _ e).1; simp at this <;> omega), own_set3 h.r9 (fun e => by have := (h.r9.lt _ e).1; simp at this <;> omega), h.c.other (by omega) _ _, h.x.other (by omega) _ _⟩
theorem Rd.store9 (h : Rd B Bx p q V W X u8 v8 n8 xs8 u9 v9 n9 xs9) (hB : B + 3 <= Bx) (u : Value) : Rd B Bx p q V W (X.setCell ⟨B + 1, 0, none⟩ u) u8 v8 n8 xs8 u v9 n9 xs9 :=
 ⟨h.k.trans (KeepsOthers.setCell _ _ _), h.be.setCell (p := ⟨B + 1, 0, none⟩) (Nat.le_succ _) u, by simp; exact h.sz, (heap_setCell_other X ⟨B + 1, 0, none⟩ _ _ (by show B + 2 ≠ B + 1; omega)).trans h.fam, h.b8.other (by omega) _ _, h.b9.set0 u, own_set3 h.r8 (fun e => by have := (h.r8.lt _ e).1; simp at this <;> omega), own_set3 h.r9 (fun e => by have := (h.r9.lt _ e).1; simp at this <;> omega), h.c.other (by omega) _ _, h.x.other (by omega) _ _⟩
end
theorem step_build_one {P : Program} {ops : Array Oper} {o : Oper} {a : Act} {w : World} {K : Act -> World -> Prop} {Q : Exit -> Act -> World -> Prop} {E : Prop} (hgd : o.guard = none) (t elem : TypeId) (x : Operand) (ho : o.op = .buildSlice t 1 #[(0, x)])
 (i : TypeInfo) (V Z : Array Value) (hx : a.eval x = .agg V) (hu : P.underlying t = some (.slice elem)) (hi : P.info? elem = some i) (hz : i.zero = some (.agg Z)) (hsz : i.size = V.size) (hZ : Z.size = V.size) (h0 : V.size ≠ 0) (hm : V.size <= 16777216)
 (h : K (a.put o.dst (.slice (some ⟨w.heap.size, 0, none⟩) 1 1)) (w.alloc (.cells V elem))) : if Region.wanted o (yielded ops a.tmps) = true then Oper.wp P o a w K Q else E := by
 have hw : Region.wanted o (yielded ops a.tmps) = true := by simp [Region.wanted, hgd]
 rw [if_pos hw]
 unfold Oper.wp execOp
 simp only [ho, List.map_toArray, List.map_cons, List.map_nil, hx, Sem.run_bind, run_buildSlice_one t elem i V Z hu hi hz hsz hZ h0 hm, Sem.run_pure, Result.andThen_ok]
 exact h
end Go.Proofs.YtdpjdifoonfcdaaGreatDoor

namespace Go.Proofs.YtdpjdifoonfcdaaGreatDoor
open Go.RowKit Go.Maps
theorem RowsOf.cells_at {w : World} {base : Nat} {e : TypeId} {vs : List Value} {xss : List (List Value)} {j n c : Nat} {a : Option Addr} {xs : List Value} (h : RowsOf w base e vs xss) (hj : xss[j]? = some xs) (hv : vs[j]? = some (.slice a n c)) : Cells w a xs := by
 obtain ⟨a', c', h1, h2⟩ := h.at hj
 rw [hv] at h1
 simp only [Option.some.injEq, Value.slice.injEq] at h1
 rw [h1.1]; exact h2
set_option maxRecDepth 1000000 in
def Loop4B {L : Int} (l : List (Pt L)) (RES : Option (List Nat)) (B4 B6 B8 B9 : Nat) (W : World) (df : List Deferred) (s0 s1 s2 s3 s6 s7 s10 s11 s13 s14 s15 s16 s17 s18 s20 s30 s31 s32 s33 s34 s35 s36 s37 s38 s39 s40 s41 s42 s43 s44 s45 s46 s47 s48 s49 s50 s51 s52 s53 s54 s55 s56 s57 s58 s59 s60 s61 s62 s63 s64 s65 s66 s67 s68 s69 s70 s71 s72 s73 s74 s75 s76 s77 s78 s79 s80 s81 s82 s83 s84 s85 s86 s87 s88 s89 s90 s91 s92 s93 s94 s95 s96 s97 s98 s99 s151 : Value) (a : Act) (w' : World) : Prop :=
 Below B6 W w' /\ ∃ out ov, RES = some out /\ out.length <= 64 /\ w'.ownsRow (B6 + 1) 23 2 ov out.length (prs (pick (pairsOf l) out)) /\ ∃ v4 v5 v22 v23 v24 v25 v26 v27 v28 v29 v100 v101 v102 v103 v104 v105 v106 v107 v108 v109 v110 v111 v112 v113 v114 v115 v116 v117 v118 v119 v120 v121 v122 v123 v124 v125 v126 v127 v128 v129 v130 v131 v132 v133 v134 v135 v136 v137 v138 v139 v140 v141 v142 v143 v144 v145 v146 v147 v148 v149 v150 : Value, a = ⟨#[s0, s1, s2, s3, v4, v5, s6, s7, .pointer (some ⟨B8, 0, none⟩), .pointer (some ⟨B9, 0, none⟩), s10, s11, .slice (some ⟨B4, 0, none⟩) l.length l.length, s13, s14, s15, s16, s17, s18, .map (some B6), s20, ov, v22, v23, v24, v25, v26, v27, v28, v29, s30, s31, s32, s33, s34, s35, s36, s37, s38, s39, s40, s41, s42, s43, s44, s45, s46, s47, s48, s49, s50, s51, s52, s53, s54, s55, s56, s57, s58, s59, s60, s61, s62, s63, s64, s65, s66, s67, s68, s69, s70, s71, s72, s73, s74, s75, s76, s77, s78, s79, s80, s81, s82, s83, s84, s85, s86, s87, s88, s89, s90, s91, s92, s93, s94, s95, s96, s97, s98, s99, v100, v101, v102, v103, v104, v105, v106, v107, v108, v109, v110, v111, v112, v113, v114, v115, v116, v117, v118, v119, v120, v121, v122, v123, v124, v125, v126, v127, v128, v129, v130, v131, v132, v133, v134, v135, v136, v137, v138, v139, v140, v141, v142, v143, v144, v145, v146, v147, v148, v149, v150, s151], df⟩
set_option maxRecDepth 1000000 in
def Loop4R {L : Int} (l : List (Pt L)) (RES : Option (List Nat)) (B4 B6 B8 B9 : Nat) (W : World) (df : List Deferred) (s0 s1 s2 s3 s6 s7 s10 s11 s13 s14 s15 s16 s17 s18 s20 s30 s31 s32 s33 s34 s35 s36 s37 s38 s39 s40 s41 s42 s43 s44 s45 s46 s47 s48 s49 s50 s51 s52 s53 s54 s55 s56 s57 s58 s59 s60 s61 s62 s63 s64 s65 s66 s67 s68 s69 s70 s71 s72 s73 s74 s75 s76 s77 s78 s79 s80 s81 s82 s83 s84 s85 s86 s87 s88 s89 s90 s91 s92 s93 s94 s95 s96 s97 s98 s99 s151 : Value) (a : Act) (w' : World) : Prop :=
 Below B6 W w' /\ RES = none /\ ∃ ov v22 v23 v24 v25 v26 v27 v28 v29 v100 v101 v102 v103 v104 v105 v106 v107 v108 v109 v110 v111 v112 v113 v114 v115 v116 v117 v118 v119 v120 v121 v122 v123 v124 v125 v126 v127 v128 v129 v130 v131 v132 v133 v134 v135 v136 v137 v138 v139 v140 v141 v142 v143 v144 v145 v146 v147 v148 v149 v150 : Value, a = ⟨#[s0, s1, s2, s3, .slice none 0 0, .int .i64 3, s6, s7, .pointer (some ⟨B8, 0, none⟩), .pointer (some ⟨B9, 0, none⟩), s10, s11, .slice (some ⟨B4, 0, none⟩) l.length l.length, s13, s14, s15, s16, s17, s18, .map (some B6), s20, ov, v22, v23, v24, v25, v26, v27, v28, v29, s30, s31, s32, s33, s34, s35, s36, s37, s38, s39, s40, s41, s42, s43, s44, s45, s46, s47, s48, s49, s50, s51, s52, s53, s54, s55, s56, s57, s58, s59, s60, s61, s62, s63, s64, s65, s66, s67, s68, s69, s70, s71, s72, s73, s74, s75, s76, s77, s78, s79, s80, s81, s82, s83, s84, s85, s86, s87, s88, s89, s90, s91, s92, s93, s94, s95, s96, s97, s98, s99, v100, v101, v102, v103, v104, v105, v106, v107, v108, v109, v110, v111, v112, v113, v114, v115, v116, v117, v118, v119, v120, v121, v122, v123, v124, v125, v126, v127, v128, v129, v130, v131, v132, v133, v134, v135, v136, v137, v138, v139, v140, v141, v142, v143, v144, v145, v146, v147, v148, v149, v150, s151], df⟩
set_option maxRecDepth 1000000 in
set_option maxHeartbeats 8000000 in
theorem build_loop4 {L : Int} (l : List (Pt L)) (g : List (List Bool)) (RES : Option (List Nat)) (vs : List Value) (B4 B6 B8 B9 : Nat) (a8 a9 : Option Addr) (e8 e9 : Nat) (W : World) (Q0 : Exit -> Act -> World -> Prop) (df : List Deferred) (s0 s1 s2 s3 s4 s5 s6 s7 s10 s11 s13 s14 s15 s16 s17 s18 s20 s22 s23 s24 s25 s26 s27 s28 s29 s30 s31 s32 s33 s34 s35 s36 s37 s38 s39 s40 s41 s42 s43 s44 s45 s46 s47 s48 s49 s50 s51 s52 s53 s54 s55 s56 s57 s58 s59 s60 s61 s62 s63 s64 s65 s66 s67 s68 s69 s70 s71 s72 s73 s74 s75 s76 s77 s78 s79 s80 s81 s82 s83 s84 s85 s86 s87 s88 s89 s90 s91 s92 s93 s94 s95 s96 s97 s98 s99 s100 s101 s102 s103 s104 s105 s106 s107 s108 s109 s110 s111 s112 s113 s114 s115 s116 s117 s118 s119 s120 s121 s122 s123 s124 s125 s126 s127 s128 s129 s130 s131 s132 s133 s134 s135 s136 s137 s138 s139 s140 s141 s142 s143 s144 s145 s146 s147 s148 s149 s150 s151 : Value)
 (h400 : l.length <= 400) (hW : B6 < W.heap.size) (hvl : vs.length = l.length)
 (HG : Hid (∀ b, b < l.length -> ∃ row, g[b]? = some row /\ row.length = l.length /\ rowAt g b = row))
 (HSF : Hid (∀ m : List Bool, m.length = l.length -> ((bestTo g m l.length).2 = 0 ↔ m.count true = 0)))
 (HRES : Hid (RES = grd g l.length 65 (List.replicate l.length true) []))
 (HK : Hid (∀ ws, Below B6 W ws -> ws.cell? ⟨B8, 0, none⟩ = some (.slice a8 l.length e8) /\ Cells ws a8 (prs (pairsOf l)) /\ ws.cell? ⟨B9, 0, none⟩ = some (.slice a9 l.length e9) /\ Blk ws B4 24 vs.toArray /\ RowsOf ws B4 3 vs (ixC g l.length)))
 (H0 : Hid (∃ D : DataW Unit, W.ownsMap Tryz.prog 3 (plainElem Tryz.prog 4) B6 l.length D /\ MIs D (List.replicate l.length true)))
 (hbreak : ∀ a' w', Loop4B l RES B4 B6 B8 B9 W df s0 s1 s2 s3 s6 s7 s10 s11 s13 s14 s15 s16 s17 s18 s20 s30 s31 s32 s33 s34 s35 s36 s37 s38 s39 s40 s41 s42 s43 s44 s45 s46 s47 s48 s49 s50 s51 s52 s53 s54 s55 s56 s57 s58 s59 s60 s61 s62 s63 s64 s65 s66 s67 s68 s69 s70 s71 s72 s73 s74 s75 s76 s77 s78 s79 s80 s81 s82 s83 s84 s85 s86 s87 s88 s89 s90 s91 s92 s93 s94 s95 s96 s97 s98 s99 s151 a' w' -> Q0 (.exit 8) a' w')
 (hret : ∀ a' w', Loop4R l RES B4 B6 B8 B9 W df s0 s1 s2 s3 s6 s7 s10 s11 s13 s14 s15 s16 s17 s18 s20 s30 s31 s32 s33 s34 s35 s36 s37 s38 s39 s40 s41 s42 s43 s44 s45 s46 s47 s48 s49 s50 s51 s52 s53 s54 s55 s56 s57 s58 s59 s60 s61 s62 s63 s64 s65 s66 s67 s68 s69 s70 s71 s72 s73 s74 s75 s76 s77 s78 s79 s80 s81 s82 s83 s84 s85 s86 s87 s88 s89 s90 s91 s92 s93 s94 s95 s96 s97 s98 s99 s151 a' w' -> Q0 .ret a' w') :
 Code.wp Tryz.prog (Code.loop (buildLoop 3)) Q0 ⟨#[s0, s1, s2, s3, s4, s5, s6, s7, .pointer (some ⟨B8, 0, none⟩), .pointer (some ⟨B9, 0, none⟩), s10, s11, .slice (some ⟨B4, 0, none⟩) l.length l.length, s13, s14, s15, s16, s17, s18, .map (some B6), s20, .slice none 0 0, s22, s23, s24, s25, s26, s27, s28, s29, s30, s31, s32, s33, s34, s35, s36, s37, s38, s39, s40, s41, s42, s43, s44, s45, s46, s47, s48, s49, s50, s51, s52, s53, s54, s55, s56, s57, s58, s59, s60, s61, s62, s63, s64, s65, s66, s67, s68, s69, s70, s71, s72, s73, s74, s75, s76, s77, s78, s79, s80, s81, s82, s83, s84, s85, s86, s87, s88, s89, s90, s91, s92, s93, s94, s95, s96, s97, s98, s99, s100, s101, s102, s103, s104, s105, s106, s107, s108, s109, s110, s111, s112, s113, s114, s115, s116, s117, s118, s119, s120, s121, s122, s123, s124, s125, s126, s127, s128, s129, s130, s131, s132, s133, s134, s135, s136, s137, s138, s139, s140, s141, s142, s143, s144, s145, s146, s147, s148, s149, s150, s151], df⟩ W := by
 have HBR := Lib.hid hbreak; have HRT := Lib.hid hret; have HVL := Lib.hid hvl
 clear hbreak hret hvl
 obtain ⟨i0, hi, hz0, hz1, hz2⟩ := info_parts Tryz.infoChirp
 have HI := Lib.hid hi
 clear hi
 dsimp only
 have hwl : buildLoop 3 = buildLoop 3 := rfl
 conv at hwl => rhs; whnf
 rw [hwl]
 clear hwl
 go_loopw [21] (fun ov ws => ∃ (out : List Nat) (mi : List Bool) (D : DataW Unit), out.length <= 64 /\ mi.length = l.length /\ grd g l.length (65 - out.length) mi out = RES /\ ws.ownsRow (B6 + 1) 23 2 ov out.length (prs (pick (pairsOf l) out)) /\ ws.ownsMap Tryz.prog 3 (plainElem Tryz.prog 4) B6 l.length D /\ MIs D mi /\ Below B6 W ws) (fun ov _ => 65 - vlen ov)
 case atStart =>
  obtain ⟨D, h1, h2⟩ := H0.out
  exact ⟨[], List.replicate l.length true, D, by simp, by simp, HRES.out.symm, World.ownsRow_nil _ _ _ _, h1, h2, Below.refl _ _⟩
 case round =>
  obtain ⟨out, mi, D, ho64, hml, hgrd, hown, hmap, hmi, hbe⟩ := hrel
  obtain ⟨wo, hwo⟩ : ∃ wo, wo = wr := ⟨_, rfl⟩
  subst hwo
  obtain ⟨z8, hps, z9, hblk, hrows⟩ := HK.out wo hbe
  have hst := grd_step g l.length mi out ho64
  rw [hgrd] at hst
  have hvl := own_vlen hown
  have hms := hmi.2.2
  have hsf := HSF.out mi hml
  have hbl := bestTo_le g mi l.length
  have hblt := bestTo_lt g mi l.length
  have hcl : mi.count true <= l.length := by rw [<- hml]; exact List.count_le_length
  obtain ⟨oa, oc, rfl, -⟩ := own_cells hown
  have HST := Lib.hid hst; have HO := Lib.hid hown; have HMP := Lib.hid hmap; have HMI := Lib.hid hmi; have HBE := Lib.hid hbe; have HVV := Lib.hid hvl; have HPS := Lib.hid hps; have HBK := Lib.hid hblk; have HRW := Lib.hid hrows; have HML := Lib.hid hml; have HMS := Lib.hid hms; have HSFF := Lib.hid hsf; have HBL := Lib.hid hbl; have HBT := Lib.hid hblt
  have HOB : Hid (∀ j, (Value.slice oa out.length oc).ownBlock = some j -> B6 + 1 <= j) := fun j e => (hown.lt j e).1
  clear hst hown hmap hmi hbe hgrd hvl hps hblk hrows hms hsf hbl hblt
  by_cases hc0 : mi.count true = 0
  · have hr : RES = some out := by rw [HST.out, if_pos (HSFF.out.2 hc0)]
    have HR := Lib.hid hr
    have e0 : ((Maps.size D : Int) == 0) = true := by rw [HMS.out, hc0]; rfl
    clear hr hml hcl hc0
    go_wp2_with (at_len; refine wpList_len_own _ rfl _ 161 rfl 3 4 Tryz.underlying161 _ B6 l.length D rfl HMP.out ?_)
    refine HBR.out _ _ ⟨HBE.out, out, _, HR.out, ho64, HO.out, ?_⟩
    repeat apply Exists.intro
    rfl
  · have hb0 : (bestTo g mi l.length).2 ≠ 0 := fun h => hc0 (HSFF.out.1 h)
    have hst := HST.out
    rw [if_neg hb0] at hst
    have e0 : ((Maps.size D : Int) == 0) = false := by rw [HMS.out, beq_eq_false_iff_ne]; omega
    by_cases h64 : out.length = 64
    · rw [if_pos h64] at hst
      have HR := Lib.hid hst
      have e1 : ((out.length : Int) == 64) = true := by rw [h64]; rfl
      clear hst hml hcl hc0 hb0 h64
      go_wp2_with (at_len; refine wpList_len_own _ rfl _ 161 rfl 3 4 Tryz.underlying161 _ B6 l.length D rfl HMP.out ?_)
      refine HRT.out _ _ ⟨HBE.out, HR.out, ?_⟩
      repeat apply Exists.intro
      rfl
    · rw [if_neg h64] at hst
      have e1 : ((out.length : Int) == 64) = false := by rw [beq_eq_false_iff_ne]; omega
      have hb1l := HBT.out hb0
      have HR := Lib.hid hst
      have HB0 := Lib.hid hb0
      clear hst hcl hc0 hb0
      go_wp2_with (at_len; refine wpList_len_own _ rfl _ 161 rfl 3 4 Tryz.underlying161 _ B6 l.length D rfl HMP.out ?_)
      go_loopw [22, 23, 108] (fun mv av bv ws => ∃ i : Nat, i <= l.length /\ bv = .int .i64 i /\ mv = .int .i64 (bestTo g mi i).2 /\ av = .int .i64 (atV (bestTo g mi i)) /\ wo = ws) (fun _ _ bv _ => l.length - (intOf bv).toNat)
      case atStart => exact ⟨0, Nat.zero_le _, rfl, rfl, rfl, rfl⟩
      case round =>
       obtain ⟨i, hi, rfl, rfl, rfl, hww⟩ := hrel
       subst hww
       by_cases hlt : i < l.length
       · obtain ⟨row, hrow, hrl, hra⟩ := HG.out i hlt
         obtain ⟨ai, ci, hai, hci⟩ := HRW.out.at (ixC_get (n := l.length) hrow)
         rw [nvs_len] at hai
         have c1 : wo.cell? ⟨B4, i, none⟩ = some (.slice ai (ixT row l.length).length ci) := by rw [Blk.cell HBK.out, List.getElem?_toArray]; exact hai
         have i1 : (i : Int) < (l.length : Int) := by omega
         have i2 : (0 : Int) <= (i : Int) := by omega
         have hks : ∀ a ∈ ixT row l.length, a < l.length := fun a h => ixT_lt h
         have hkl := ixT_len row l.length
         have hgn := cntT_gain (row := row) (m := mi) (by omega) l.length (by omega)
         have hbst : bestTo g mi (i + 1) = if (bestTo g mi i).2 < gainTo row mi l.length then (i, gainTo row mi l.length) else bestTo g mi i := by
          conv => lhs; unfold bestTo
          rw [hra, hml]
         have hbl2 := bestTo_le g mi i
         rw [<- hgn] at hbst
         have hcle := cntT_le mi (ixT row l.length)
         generalize ixT row l.length = ks at *
         have HCI := Lib.hid hci; have HKS := Lib.hid hks; have HBS := Lib.hid hbst
         clear hai hci hks hgn hrow hrl hra hbst
         go_wp2_with fail
         go_loopw [25, 116] (fun nv jv ws => ∃ j : Nat, j <= ks.length /\ jv = .int .i64 j /\ nv = .int .i64 (cntT mi (ks.take j)) /\ wo = ws) (fun _ jv _ => ks.length - (intOf jv).toNat)
         case atStart => exact ⟨0, Nat.zero_le _, rfl, rfl, rfl⟩
         case round =>
          obtain ⟨j, hj, rfl, rfl, hww⟩ := hrel
          subst hww
          by_cases hlj : j < ks.length
          · obtain ⟨a, haj⟩ := get_of_lt hlj
            have hal := HKS.out a (List.mem_of_getElem? haj)
            obtain ⟨q, hq⟩ := get_of_lt (xs := mi) (show a < mi.length by omega)
            have hsn := cntT_snoc haj hq
            have hat := (HMI.out.2.1 a q hq).2
            have hcl := cntT_le mi (ks.take j)
            rw [List.length_take] at hcl
            obtain ⟨bi, oi, rfl⟩ := HCI.out.addr (nvs_ne (by omega))
            have c2 := HCI.out.at (nvs_get haj)
            have j1 : (j : Int) < (ks.length : Int) := by omega
            have j2 : (0 : Int) <= (j : Int) := by omega
            have hkey := keyOf_int_mk Tryz.underlying3 (key_wf (k := a) (by omega))
            have HKEY := Lib.hid hkey; have HAT := Lib.hid hat; have HSN := Lib.hid hsn
            clear hkey hat hsn hq haj
            generalize cntT mi (ks.take j) = cn at *
            cases q with
            | false =>
              rw [if_neg (by decide)] at HSN
              go_wp2_with (at_lookup; refine wpList_lookup_bool _ rfl _ _ 161 rfl 3 4 Tryz.keyInt Tryz.underlying161 Tryz.underlying4 (Tryz.zeroBool _) B6 l.length D rfl HMP.out _ _ rfl HKEY.out false HAT.out ?_)
              go_roundw
              case rel => exact ⟨j + 1, by omega, by go_num, by rw [HSN.out]; simp, by first | rfl | trivial⟩
              case measure => simp [intOf]; omega
            | true =>
              rw [if_pos rfl] at HSN
              go_wp2_with (at_lookup; refine wpList_lookup_bool _ rfl _ _ 161 rfl 3 4 Tryz.keyInt Tryz.underlying161 Tryz.underlying4 (Tryz.zeroBool _) B6 l.length D rfl HMP.out _ _ rfl HKEY.out true HAT.out ?_)
              go_roundw
              case rel => exact ⟨j + 1, by omega, by go_num, by rw [HSN.out]; go_num, by first | rfl | trivial⟩
              case measure => simp [intOf]; omega
          · obtain rfl : j = ks.length := by omega
            rw [List.take_length]
            have hbs := HBS.out
            generalize cntT mi ks = cn at *
            by_cases hgt : (bestTo g mi i).2 < cn
            · rw [if_pos hgt] at hbs
              have HB := Lib.hid hbs
              have hav : atV (i, cn) = i := by unfold atV; rw [if_neg (by simp only; omega)]
              have HAV := Lib.hid hav
              clear hbs hav
              generalize (bestTo g mi i).2 = mo at *
              have g1 : (mo : Int) < (cn : Int) := by omega
              go_wp2_with fail
              go_roundw
              case rel => exact ⟨i + 1, by omega, by go_num, by rw [HB.out], by rw [HB.out, HAV.out], by first | rfl | trivial⟩
              case measure => simp [intOf]; omega
            · rw [if_neg hgt] at hbs
              have HB := Lib.hid hbs
              clear hbs
              generalize bestTo g mi i = pp at *
              generalize hav : atV pp = av at *
              generalize hmo : pp.2 = mo at *
              have HAV := Lib.hid hav; have HMO := Lib.hid hmo
              clear hav hmo
              have g1 : ¬ (mo : Int) < (cn : Int) := by omega
              go_wp2_with fail
              go_roundw
              case rel => exact ⟨i + 1, by omega, by go_num, by rw [HB.out, HMO.out], by rw [HB.out, HAV.out], by first | rfl | trivial⟩
              case measure => simp [intOf]; omega
       · obtain rfl : i = l.length := by omega
         have hav : atV (bestTo g mi l.length) = (bestTo g mi l.length).1 := by unfold atV; rw [if_neg HB0.out]
         rw [hav]
         clear hav HSFF HBL HBT HST HMS e0
         generalize (bestTo g mi l.length).2 = b2 at *
         generalize (bestTo g mi l.length).1 = b1 at *
         clear HB0
         obtain ⟨row, hrow, hrl, hra⟩ := HG.out b1 hb1l
         rw [hra] at HR
         obtain ⟨ai, ci, hai, hci⟩ := HRW.out.at (ixC_get (n := l.length) hrow)
         rw [nvs_len] at hai
         have c1 : wo.cell? ⟨B4, b1, none⟩ = some (.slice ai (ixT row l.length).length ci) := by rw [Blk.cell HBK.out, List.getElem?_toArray]; exact hai
         have i1 : (b1 : Int) < (l.length : Int) := by omega
         have i2 : (0 : Int) <= (b1 : Int) := by omega
         have hks : ∀ a ∈ ixT row l.length, a < l.length := fun a h => ixT_lt h
         have hkl := ixT_len row l.length
         have hrm : row.length = mi.length := by omega
         have hdl : delT mi (ixT row l.length) = strike row mi := by rw [delT_mid hrm _ (by omega), <- hml, midTo_full hrm]
         have hsl : (strike row mi).length = l.length := by rw [strike_len hrm]; exact hml
         have hix := ixC_get (n := l.length) hrow
         generalize ixT row l.length = ks at *
         have HAI := Lib.hid hai; have HKS := Lib.hid hks; have HDL := Lib.hid hdl; have HIX := Lib.hid hix
         clear hai hci hks hrow hrl hra hdl hix
         go_wp2_with fail
         go_loopw [137] (fun jv ws => ∃ (j : Nat) (D' : DataW Unit), j <= ks.length /\ jv = .int .i64 j /\ ws.ownsMap Tryz.prog 3 (plainElem Tryz.prog 4) B6 l.length D' /\ MIs D' (delT mi (ks.take j)) /\ ws.ownsRow (B6 + 1) 23 2 (.slice oa out.length oc) out.length (prs (pick (pairsOf l) out)) /\ Below B6 W ws) (fun jv _ => ks.length - (intOf jv).toNat)
         case atStart => exact ⟨0, D, Nat.zero_le _, rfl, HMP.out, HMI.out, HO.out, HBE.out⟩
         case round =>
          obtain ⟨j, D', hj, rfl, hmap, hmi2, hown, hbe⟩ := hrel
          have hsz := hbe.size
          by_cases hlj : j < ks.length
          · obtain ⟨a, haj⟩ := get_of_lt hlj
            have hal := HKS.out a (List.mem_of_getElem? haj)
            have hdel := hmi2.del (k := a) (by rw [delT_len]; omega)
            rw [<- delT_snoc haj] at hdel
            obtain ⟨y8, -, y9, -, hrw2⟩ := HK.out wr hbe
            have hciw := hrw2.cells_at HIX.out HAI.out
            obtain ⟨bi, oi, rfl⟩ := hciw.addr (nvs_ne (by omega))
            have c2 := hciw.at (nvs_get haj)
            have j1 : (j : Int) < (ks.length : Int) := by omega
            have j2 : (0 : Int) <= (j : Int) := by omega
            have hkey := keyOf_int_mk Tryz.underlying3 (key_wf (k := a) (by omega))
            have HKEY := Lib.hid hkey; have HD := Lib.hid hdel; have HM2 := Lib.hid hmap; have HO2 := Lib.hid hown; have HB2 := Lib.hid hbe
            clear hkey hdel hmap hown hbe hmi2 haj hciw hrw2
            go_wp2_with (at_delete; refine wpList_delete_own _ rfl _ _ 161 3 rfl 4 Tryz.keyInt Tryz.underlying161 _ B6 l.length D' rfl HM2.out _ _ rfl HKEY.out ?_; intro w1 hown1 hturn1; have HO1 := Lib.hid hown1; have HG1 := Lib.hid hturn1.grown; clear hown1 hturn1)
            have hb1 := HB2.out.grown HG1.out (by omega) (fun j e => by cases e; exact Nat.le_refl _)
            have hoz := HO2.out.kept HG1.out (.inr fun e => by have := HOB.out _ e; omega)
            go_wp2_with fail
            go_roundw
            case rel => exact ⟨j + 1, _, by omega, by go_num, HO1.out, HD.out, hoz, hb1⟩
            case measure => simp [intOf]; omega
          · obtain rfl : j = ks.length := by omega
            rw [List.take_length, HDL.out] at hmi2
            obtain ⟨y8, hpcx, y9, -, -⟩ := HK.out wr hbe
            obtain ⟨t, ht⟩ := get_of_lt hb1l
            have htt : (pairsOf l)[b1]? = some t.1 := by rw [pairsOf, List.getElem?_map, ht]; rfl
            have hll : (pairsOf l).length = l.length := by simp [pairsOf]
            obtain ⟨bk, off, rfl⟩ := hpcx.addr (prs_ne (by omega))
            have c1 := hpcx.at (prs_fst htt)
            have c2 := hpcx.at (prs_snd htt)
            rw [<- Nat.add_assoc] at c2
            have hps := pick_snoc out htt
            have HM2 := Lib.hid hmap; have HO2 := Lib.hid hown; have HB2 := Lib.hid hbe; have HMI2 := Lib.hid hmi2; have HPP := Lib.hid hps
            clear hmap hown hbe hmi2 hpcx hps ht htt hll
            go_wp2_with (at_builtin; refine wpList_append_own _ rfl _ _ 44 rfl (B6 + 1) 23 i0 (.agg #[.int .i64 0, .int .i64 0]) 2 16 Tryz.underlying44 HI.out hz0 hz1 hz2 rfl (by decide) _ _ _ rfl (HO2.out.alloc _) ⟨wr.heap.size, 0, none⟩ 1 1 [.int .i64 t.1.1, .int .i64 t.1.2] rfl rfl (World.news_of_block (cs := #[.int .i64 t.1.1, .int .i64 t.1.2]) (t := 23) (fr := (0, 0)) (heap_alloc_new wr _)) (by simp [Value.oneCell']) (by unfold maxLen; omega) (by omega) (by simp; omega) ?_; intro v1 wz hown1 hgrow _; have HOW := Lib.hid hown1; have HGR := Lib.hid hgrow; clear hown1 hgrow)
            have hbz := (HB2.out.alloc (by omega) (.cells #[.int .i64 t.1.1, .int .i64 t.1.2] 23)).grown HGR.out (by simp; omega) (fun j e => by have := HOB.out j e; omega)
            have hmz := (HM2.out.alloc (.cells #[.int .i64 t.1.1, .int .i64 t.1.2] 23)).kept HGR.out (fun e => by have := HOB.out _ e.symm; omega)
            have how := HOW.out
            rw [<- HPP.out] at how
            have hlen1 : (out ++ [b1]).length = out.length + 1 := by simp
            have hvl2 := own_vlen how
            rw [<- hlen1] at how
            have HBZ := Lib.hid hbz; have HMZ := Lib.hid hmz; have HOO := Lib.hid how
            clear hbz hmz how
            go_wp2_with fail
            go_roundw
            case rel => exact ⟨out ++ [b1], strike row mi, D', by omega, hsl, HR.out.symm, HOO.out, HMZ.out, HMI2.out, HBZ.out⟩
            case measure => have h5 := HVV.out; omega
end Go.Proofs.YtdpjdifoonfcdaaGreatDoor

namespace Go.Proofs.YtdpjdifoonfcdaaGreatDoor
open Go.RowKit
theorem matE_zero {L p q r s : Int} (h : matE L p q r s = 0) : waveOK L p q = true /\ waveOK L r s = true /\ silentB (wav L p q) = false /\ silentB (wav L r s) = false := by
 unfold matE at h
 cases h1 : waveOK L p q <;> cases h2 : waveOK L r s <;> cases h3 : silentB (wav L p q) <;> cases h4 : silentB (wav L r s) <;> simp [h1, h2, h3, h4] at h ⊢
theorem matT_of {L p q r s : Int} (h : matE L p q r s = 0) : matT L p q r s = ofT (matN L p q r s * matN L p q r s) ((matD L p q r s).toNat : Nat) := by
 obtain ⟨h1, h2, h3, h4⟩ := matE_zero h
 have hd := matD_pos h1 h2 h3 h4
 unfold matT
 rw [if_pos h]
 show ofT _ _ = _
 rw [Int.toNat_of_nonneg (by omega)]
end Go.Proofs.YtdpjdifoonfcdaaGreatDoor

namespace Go.Proofs.YtdpjdifoonfcdaaGreatDoor
open Go.RowKit
def T2 (p : Nat × Nat) : ByteArray := ofT (p.1 : Int) p.2
def FrOK (p : Nat × Nat) : Prop := p.2 ≠ 0 /\ Nat.gcd p.1 p.2 = 1 /\ p.1 <= p.2 /\ p.2 < 10 ^ 15
def cmpF (p q : Nat × Nat) : Int := if (p.1 : Int) * q.2 = q.1 * p.2 then 0 else if (p.1 : Int) * q.2 < q.1 * p.2 then -1 else 1
theorem redI_ok {p : Nat × Nat} (h : FrOK p) : redI (p.1 : Int) p.2 = (false, p.1, p.2) := by
 unfold redI
 rw [Int.natAbs_natCast, h.2.1, Nat.div_one, Nat.div_one, decide_eq_false (by omega)]
theorem getR_T {p : Nat × Nat} (h : FrOK p) : getR (T2 p) = some (false, p.1, p.2) := by
 obtain ⟨h1, h2, h3, h4⟩ := h
 rw [T2, getR_of h1 (by rw [Int.natAbs_natCast]; omega) (by omega), redI_ok ⟨h1, h2, h3, h4⟩]
theorem cmp_T {p q : Nat × Nat} (hp : FrOK p) (hq : FrOK q) : cmpE (T2 p) (T2 q) = 0 /\ cmpV (T2 p) (T2 q) = cmpF p q := by
 unfold cmpE cmpV
 rw [getR_T hp, getR_T hq]
 exact ⟨rfl, rfl⟩
theorem T2_size {p : Nat × Nat} (h : FrOK p) : (T2 p).size <= 1099511627776 /\ Lib.hasSuffix (T2 p).data.toList [105] = false := by
 obtain ⟨h1, h2, h3, h4⟩ := h
 exact ofT_size (by rw [Int.natAbs_natCast]; omega) (by omega)
theorem getR_empty : getR ⟨#[]⟩ = none := by decide +kernel
theorem T2_ne {p : Nat × Nat} (h : FrOK p) : T2 p ≠ ⟨#[]⟩ := by
 intro e
 have := getR_T h
 rw [e, getR_empty] at this
 cases this
theorem T2_zero : T2 (0, 1) = ⟨#[48]⟩ := ofT_zero
theorem fr01 : FrOK (0, 1) := ⟨by decide, by decide, by decide, by decide⟩
def mFr (L p q r s : Int) : Nat × Nat := (redI (matN L p q r s * matN L p q r s) (matD L p q r s).toNat).2
theorem mFr_ok {L p q r s : Int} (h : matE L p q r s = 0) : FrOK (mFr L p q r s) /\ matT L p q r s = T2 (mFr L p q r s) := by
 obtain ⟨h1, h2, h3, h4⟩ := matE_zero h
 have hL := waveOK_true h1
 have hd := matD_pos h1 h2 h3 h4
 have hn := mat_bd (r := r) (s := s) h1
 have hsq := bestN_sq (wav L p q) (wav L r s) L.toNat (by omega) (by omega)
 rw [Int.toNat_of_nonneg (show 0 <= L by omega)] at hsq
 have hsq' : matN L p q r s * matN L p q r s <= matD L p q r s := hsq
 have m2 := Int.mul_nonneg hn.1 hn.1
 have hT := matT_of h
 unfold mFr
 generalize matN L p q r s * matN L p q r s = n at *
 generalize matD L p q r s = d at *
 have e1 : redI n d.toNat = (false, n.natAbs / Nat.gcd n.natAbs d.toNat, d.toNat / Nat.gcd n.natAbs d.toNat) := by
  unfold redI
  rw [decide_eq_false (by omega)]
 have hg : 0 < Nat.gcd n.natAbs d.toNat := Nat.gcd_pos_of_pos_right _ (by omega)
 have hok : FrOK (redI n d.toNat).2 := by
  rw [e1]
  refine ⟨?_, Nat.gcd_div_gcd_div_gcd_of_pos_right (by omega), Nat.div_le_div_right (by omega), ?_⟩
  · have := Nat.div_pos (Nat.le_of_dvd (by omega) (Nat.gcd_dvd_right n.natAbs d.toNat)) hg
    show d.toNat / _ ≠ 0
    omega
  · exact Nat.lt_of_le_of_lt (Nat.div_le_self _ _) (by omega)
 refine ⟨hok, ?_⟩
 rw [hT, T2, ofT_red, ofT_red, redI_ok hok, e1]
def mostF (L : Int) (x : Int × Int) (cs : List (Int × Int)) : Nat × Nat := cs.foldl (fun m c => if 0 < cmpF (mFr L x.1 x.2 c.1 c.2) m then mFr L x.1 x.2 c.1 c.2 else m) (0, 1)
theorem mostF_snoc (L : Int) (x : Int × Int) (cs : List (Int × Int)) (c : Int × Int) : mostF L x (cs ++ [c]) = if 0 < cmpF (mFr L x.1 x.2 c.1 c.2) (mostF L x cs) then mFr L x.1 x.2 c.1 c.2 else mostF L x cs := by
 unfold mostF
 rw [List.foldl_append]; rfl
theorem pt_match {L : Int} (x : Pt L) {c : Int × Int} (h : chOK L c = true) : matE L x.1.1 x.1.2 c.1 c.2 = 0 := by
 obtain ⟨h1, h2⟩ := x.2
 simp only [chOK, Bool.and_eq_true, Bool.not_eq_true'] at h
 simp [matE, h1, h2, h.1, h.2]
theorem mostF_ok {L : Int} (x : Pt L) {cs : List (Int × Int)} (h : ∀ c ∈ cs, chOK L c = true) : FrOK (mostF L x.1 cs) := by
 unfold mostF
 suffices H : ∀ (cs : List (Int × Int)) (m : Nat × Nat), (∀ c ∈ cs, chOK L c = true) -> FrOK m -> FrOK (cs.foldl (fun m c => if 0 < cmpF (mFr L x.1.1 x.1.2 c.1 c.2) m then mFr L x.1.1 x.1.2 c.1 c.2 else m) m) from H cs _ h fr01
 intro cs
 induction cs with
 | nil => intro m _ hm; exact hm
 | cons c r ih =>
   intro m hc hm
   rw [List.foldl_cons]
   refine ih _ (fun d hd => hc d (by simp [hd])) ?_
   split
   · exact (mFr_ok (pt_match x (hc c (by simp)))).1
   · exact hm
def wrsF (L : Int) (cs : List (Int × Int)) (l : List (Pt L)) : Option (Nat × Nat) := l.foldl (fun w x => match w with | none => some (mostF L x.1 cs) | some v => if cmpF (mostF L x.1 cs) v < 0 then some (mostF L x.1 cs) else some v) none
theorem wrsF_snoc (L : Int) (cs : List (Int × Int)) (l : List (Pt L)) (x : Pt L) : wrsF L cs (l ++ [x]) = match wrsF L cs l with | none => some (mostF L x.1 cs) | some v => if cmpF (mostF L x.1 cs) v < 0 then some (mostF L x.1 cs) else some v := by
 unfold wrsF
 rw [List.foldl_append]; rfl
theorem wrsF_ok {L : Int} {cs : List (Int × Int)} (h : ∀ c ∈ cs, chOK L c = true) (l : List (Pt L)) : ∀ v, wrsF L cs l = some v -> FrOK v := by
 unfold wrsF
 suffices H : ∀ (l : List (Pt L)) (w : Option (Nat × Nat)), (∀ v, w = some v -> FrOK v) -> ∀ v, (l.foldl (fun w x => match w with | none => some (mostF L x.1 cs) | some v => if cmpF (mostF L x.1 cs) v < 0 then some (mostF L x.1 cs) else some v) w) = some v -> FrOK v from H l none (fun v h => by cases h)
 intro l
 induction l with
 | nil => intro w hw v hv; exact hw v hv
 | cons x r ih =>
   intro w hw
   rw [List.foldl_cons]
   refine ih _ (fun v hv => ?_)
   cases w with
   | none =>
     simp only [Option.some.injEq] at hv
     rw [<- hv]; exact mostF_ok x h
   | some u =>
     simp only at hv
     split at hv
     · rw [<- Option.some.inj hv]; exact mostF_ok x h
     · rw [<- Option.some.inj hv]; exact hw u rfl
def worT (o : Option (Nat × Nat)) : ByteArray := match o with | none => ⟨#[]⟩ | some v => T2 v
end Go.Proofs.YtdpjdifoonfcdaaGreatDoor

namespace Go.Proofs.YtdpjdifoonfcdaaGreatDoor
open Go.RowKit Go.Shelf
theorem wpListIn_load_arr {F : Fence} {n : Nat} {P : Program} {ops : Array Oper} {rest : List Oper} {o : Oper} {a : Act} {w : World} {Q : Exit -> Act -> World -> Prop} (hgd : o.guard = none) (ty : TypeId) (x : Operand) (ho : o.op = .load ty x)
 (p : Addr) (hx : a.eval x = .pointer (some p)) (V : Array Value) (d : TypeDesc) (hc : ∀ j v, V[j]? = some v -> w.cell? (p.add j) = some v)
 (hu : P.underlying ty = some d) (hd : (match d with | .struct _ | .array _ _ => true | _ => false) = true) (hi : (P.info? ty).map (·.size) = some V.size)
 (h : wpListIn F n P ops Q rest (a.put o.dst (.agg V)) w) : wpListIn F n P ops Q (o :: rest) a w :=
 wpListIn_plain hgd fun K hK => by
  have hs : ∀ r, Oper.semAt r a.eval o = execOp a.eval o := by
   intro r
   cases r with
   | none => rfl
   | some l => exact Oper.semAt_some l _ o (fun c h => by rw [ho] at h; cases h)
  have he : (execOp a.eval o).run P w = .ok (.value (.agg V)) w := exec_load_arr ty x ho p hx V d hc hu hd hi
  unfold Oper.wpIn
  refine ⟨fun f hf => by simp [Oper.about, ho] at hf, ?_⟩
  rw [hs, he, Oper.uponIn_value]
  exact hK _ _ h
theorem match_call (L p q r s : Int) (h : matE L p q r s = 0) : ∃ n d : Int, (∀ W : World, Calls Tryz.prog 89 #[.agg (shp L (wav L p q)), .agg (shp L (wav L r s))] W fun e w' => e = .returned (.agg #[.int .i64 n, .int .i64 d]) /\ Below W.heap.size W w') /\
 (∀ W : World, Tab W -> Calls Tryz.prog 90 #[.agg #[.int .i64 n, .int .i64 d]] W fun e w' => e = .returned (.tuple #[.string (T2 (mFr L p q r s)), .int .i64 0]) /\ Below W.heap.size W w') := by
 obtain ⟨h1, h2, h3, h4⟩ := matE_zero h
 have hL := waveOK_true h1
 have hd := matD_pos h1 h2 h3 h4
 have hn := mat_bd (r := r) (s := s) h1
 have hsq := bestN_sq (wav L p q) (wav L r s) L.toNat (by omega) (by omega)
 rw [Int.toNat_of_nonneg (show 0 <= L by omega)] at hsq
 have hsq' : matN L p q r s * matN L p q r s <= matD L p q r s := hsq
 have m2 := Int.mul_nonneg hn.1 hn.1
 have hT := (mFr_ok h).2
 refine ⟨matN L p q r s * matN L p q r s, matD L p q r s, fun W => ?_, fun W ht => ?_⟩
 · have hm := matched_any L.toNat (wav L p q) (wav L r s) W (wav_length _ _ _) (wav_length _ _ _) (by omega) (by omega) (wav_bd _ _ _) (wav_bd _ _ _)
   rw [show ((L.toNat : Nat) : Int) = L by omega] at hm
   exact hm
 · have hm := num_any (matN L p q r s * matN L p q r s) (matD L p q r s) W ht (by omega) (by omega) (by omega) (by omega) (by omega)
   unfold matT at hT
   rw [if_pos h] at hT
   rw [<- hT]
   exact hm
theorem bankOK_len9 {L : Int} {cs : List (Int × Int)} (h : bankOK L cs = true) : cs.length <= 64 := by
 simp only [bankOK, Bool.and_eq_true, decide_eq_true_eq] at h
 exact h.1.1
theorem list_empty (s : ByteArray) : s.toList = [] ↔ s = ⟨#[]⟩ := by
 rw [ByteArray.toList_eq]
 constructor
 · intro h
   obtain ⟨d⟩ := s
   obtain ⟨l⟩ := d
   simp only at h
   subst h; rfl
 · rintro rfl; rfl
def worE (o : Option (Nat × Nat)) : Int := match o with | none => 4 | some _ => 0
set_option maxRecDepth 1000000 in
set_option maxHeartbeats 4000000 in
theorem Worst_good (L a b c d : Int) (cs : List (Int × Int)) (ao : Option Addr) (cap : Nat) (w : World) (ht : Tab w) (hc : Cells w ao (prs cs)) (hl : cs.length <= 9223372036854775807) (hcap : cs.length <= cap) (hcap2 : cap <= 9223372036854775807) (hE0 : covE L a b c d cs ⟨#[48]⟩ = 0) :
 Calls Tryz.prog 31 #[.agg #[.int .i64 L, .int .i64 a, .int .i64 b, .int .i64 c, .int .i64 d], .slice ao cs.length cap] w fun e w' => e = .returned (.tuple #[.string (worT (wrsF L cs (ptsAll L a c (d - c + 1).toNat (b - a + 1).toNat))), .int .i64 (worE (wrsF L cs (ptsAll L a c (d - c + 1).toNat (b - a + 1).toNat)))]) /\ Below w.heap.size w w' := by
 obtain ⟨W0, hW0⟩ : ∃ W0, w.alloc (.cells #[.int .i64 L, .int .i64 a, .int .i64 b, .int .i64 c, .int .i64 d] 43) = W0 := ⟨_, rfl⟩
 have hB0 : Below w.heap.size w W0 := by rw [<- hW0]; exact (Below.refl _ w).alloc (Nat.le_refl _) _
 have hs0 : W0.heap.size = w.heap.size + 1 := by rw [<- hW0]; simp
 have q0 : Blk W0 w.heap.size 43 #[.int .i64 L, .int .i64 a, .int .i64 b, .int .i64 c, .int .i64 d] := by rw [<- hW0]; exact Blk.new w _ _
 have ht0 := ht.below hB0 (Nat.le_refl _)
 have hcv := covering_any L a b c d cs ao cap ⟨#[48]⟩ W0 ht0 (by decide) (hc.below hB0 (Nat.le_refl _)) hl hcap hcap2
 have HW0 := Lib.hid hW0; have HCV := Lib.hid hcv; have HB0 := Lib.hid hB0; have HS0 := Lib.hid hs0; have Q0 := Lib.hid q0; have HT0 := Lib.hid ht0
 clear hW0 hcv ht ht0 hc hB0 hs0 q0
 refine (callsIn_wide (n := 8)).1 ?_
 refine callsIn_of_wp_marks Tryz.func31 rfl trivial ?_ rfl
 simp only [Tryz.ntmps31, List.size_toArray, List.length_cons, List.length_nil, Nat.reduceAdd, Nat.reduceSub, Array.replicate_succ, Array.replicate_zero, List.push_toArray, List.append_toArray, List.nil_append, List.cons_append]
 gi_wp2_with (refine ⟨trivial, ?_⟩; gi_at_call 73; rw [HW0.out]; refine (callsIn_wide.2 HCV.out).mono ?_; rintro r w1 ⟨⟨hE, hf, hbk, C, bo, cb, N, D, rfl, hbs, hC, hcs⟩ | ⟨hE, rfl⟩, hb1⟩ <;> refine Hid.out ?_)
 rotate_left
 · exact absurd hE0 hE
 refine Lib.hid ?_
 have hbw := HB0.out.trans (hb1.mono HB0.out.size)
 have hsz := HS0.out
 have hs1 := hb1.size
 obtain ⟨z0, z1, z2, z3, z4⟩ : w1.cell? ⟨w.heap.size, 0, none⟩ = some (.int .i64 L) /\ w1.cell? ⟨w.heap.size, 1, none⟩ = some (.int .i64 a) /\ w1.cell? ⟨w.heap.size, 2, none⟩ = some (.int .i64 b) /\ w1.cell? ⟨w.heap.size, 3, none⟩ = some (.int .i64 c) /\ w1.cell? ⟨w.heap.size, 4, none⟩ = some (.int .i64 d) := by
  have h := Q0.out.below hb1 (by omega)
  exact ⟨h.cell 0, h.cell 1, h.cell 2, h.cell 3, h.cell 4⟩
 have hlt : w.heap.size < w1.heap.size := by omega
 have HCC := Lib.hid hC; have HCS := Lib.hid hcs; have HB1 := Lib.hid hb1; have HBW := Lib.hid hbw; have HE := Lib.hid hE; have HF := Lib.hid hf; have HBK := Lib.hid hbk; have HT1 := Lib.hid (HT0.out.below hb1 (Nat.le_refl _))
 clear hC hcs hb1 hbw hE hE0 hf hbk hbs
 gi_wp2_with (refine ⟨trivial, ?_⟩; gi_at_call 74; refine (callsIn_wide.2 (points_any L a b c d _)).mono ?_; rintro r w2 ⟨rfl, rfl⟩; refine Hid.out ?_)
 refine Lib.hid ?_
 gi_wp2
 clear z0 z1 z2 z3 z4
 obtain ⟨W1, hW1⟩ : ∃ W1, ((w1.alloc (.cells #[.pointer (some ⟨C, 0, none⟩)] 149)).alloc (.cells #[.string ⟨#[]⟩] 34)).alloc (.cells #[.int .i64 L, .int .i64 a, .int .i64 b, .int .i64 c, .int .i64 d] 43) = W1 := ⟨_, rfl⟩
 have hBW1 : Below w1.heap.size w1 W1 := by rw [<- hW1]; exact (((Below.refl _ _).alloc (Nat.le_refl _) _).alloc (by simp) _).alloc (by simp; omega) _
 have hsW1 : W1.heap.size = w1.heap.size + 3 := by rw [<- hW1]; simp
 have y0 : Blk W1 w1.heap.size 149 #[.pointer (some ⟨C, 0, none⟩)] := by unfold Blk; rw [<- hW1, hold_old _ _ _ (by simp; omega)]; exact heap_alloc2_old w1 _ _
 have y1 : Blk W1 (w1.heap.size + 1) 34 #[.string ⟨#[]⟩] := by unfold Blk; rw [<- hW1, hold_old _ _ _ (by simp)]; exact heap_alloc2_new w1 _ _
 have y2 : W1.heap[w1.heap.size + 1 + 1]? = some (.cells #[.int .i64 L, .int .i64 a, .int .i64 b, .int .i64 c, .int .i64 d] 43 (0, 0)) := by
  have h := heap_alloc_new ((w1.alloc (.cells #[.pointer (some ⟨C, 0, none⟩)] 149)).alloc (.cells #[.string ⟨#[]⟩] 34)) (.cells #[.int .i64 L, .int .i64 a, .int .i64 b, .int .i64 c, .int .i64 d] 43)
  rw [show ((w1.alloc (.cells #[.pointer (some ⟨C, 0, none⟩)] 149)).alloc (.cells #[.string ⟨#[]⟩] 34)).heap.size = w1.heap.size + 1 + 1 by simp] at h
  rw [<- hW1]; exact h
 rw [hW1]
 have HW1 := Lib.hid hW1
 clear hW1
 obtain ⟨Z, hZ⟩ : ∃ Z, Z = shp 0 (smp 0 0 0) := ⟨_, rfl⟩
 have z : Tryz.zeroCells129 = Z := by rw [hZ]; exact zero101
 have hZs : Z.size = 65 := by rw [hZ, shp_size, smp_length]
 clear hZ
 refine wpIn_rangeFunc_ownH rfl (by omega) (gf := 141) (lb := #[.pointer (some ⟨w1.heap.size + 1 + 1, 0, none⟩)]) rfl trivial (enters_of Tryz.func141 (by kernel_rfl) rfl)
  (points_stops _ (by omega) (w1.heap.size + 1 + 1) L a b c d HF.out W1 y2) KeepB.trans (keepB_b (by omega)) (Below.refl _ _) (fun _ => rfl)
  (fun pre W => (Blk W w1.heap.size 149 #[.pointer (some ⟨C, 0, none⟩)] /\ Blk W (w1.heap.size + 1) 34 #[.string (worT (wrsF L cs pre))]) /\ Below w1.heap.size w1 W /\ W1.heap.size <= W.heap.size)
  (fun _ _ _ => False)
  (OwnFrom.and (Own.from (fun s A B row hs hg hr => ⟨row_kept hs.1 hg hr, row_kept hs.2 hg hr⟩) _) (OwnFrom.and (ownFrom_below (Nat.le_refl _) (by omega)) (fun _ _ _ _ hs hg _ => Nat.le_trans hs hg.size)))
  (fun _ _ _ _ _ hs _ _ => hs)
  ⟨⟨y0, y1⟩, hBW1, Nat.le_refl _⟩
  (fun x a' W => ∃ Bx, w1.heap.size + 3 <= Bx /\ W.heap[Bx]? = some (.cells (shp L (wav L x.1.1 x.1.2)) 129 (0, 0)) /\ a' = { tmps := #[.agg #[.int .i64 L, .int .i64 a, .int .i64 b, .int .i64 c, .int .i64 d], .slice ao cs.length cap, .pointer (some ⟨w.heap.size, 0, none⟩), undef, .string ⟨#[]⟩, .int .i64 0, .pointer (some ⟨w1.heap.size, 0, none⟩), .int .i64 0, .pointer (some ⟨w1.heap.size + 1, 0, none⟩), undef, .pointer (some ⟨Bx, 0, none⟩), undef, undef, undef, undef, undef, undef, undef, undef, undef, .tuple #[.pointer (some ⟨C, 0, none⟩), .int .i64 0], .agg #[.int .i64 L, .int .i64 a, .int .i64 b, .int .i64 c, .int .i64 d], .slice ao cs.length cap, .tuple #[.pointer (some ⟨C, 0, none⟩), .int .i64 0], .pointer (some ⟨C, 0, none⟩), .int .i64 0, .int .i64 0, .bool false, undef, .agg #[.int .i64 L, .int .i64 a, .int .i64 b, .int .i64 c, .int .i64 d], .func (.func 141) #[] #[.pointer (some ⟨w1.heap.size + 1 + 1, 0, none⟩)], .agg #[.int .i64 x.1.1, .int .i64 x.1.2], .agg (shp L (wav L x.1.1 x.1.2)), undef, undef, undef, undef, undef, undef, undef, undef, undef, undef, undef, undef, undef, undef, undef, undef, undef, undef, undef, undef, undef, undef, undef, undef, undef, undef, undef, undef, undef, undef, undef, undef, undef, undef, undef, undef, undef, undef, undef, undef, undef, undef], defers := [] })
  (fun x a' _ X Y row hs hg hr => by
   obtain ⟨Bx, h1, h2, h3⟩ := hs
   refine ⟨Bx, h1, (hg.block Bx (Array.getElem?_eq_some_iff.1 h2).1 (fun e => ?_)).trans h2, h3⟩
   obtain ⟨_, o, ho, hc⟩ := hr Bx e.symm
   rw [h2] at ho; cases ho; cases hc)
  ?assign ?body ?done ?stop
 case assign =>
  rintro l pre x W K ⟨⟨h1, h2⟩, hB1, hs⟩ hK
  have hst := store_shape (shp L (wav L x.1.1 x.1.2)) Z (by rw [shp_size, wav_length]) hZs shp_mem
  have hVs : (shp L (wav L x.1.1 x.1.2)).size = 65 := by rw [shp_size, wav_length]
  unfold ptV
  generalize shp L (wav L x.1.1 x.1.2) = V at *
  have hne : ¬ V = #[] := by intro h; rw [h] at hVs; simp at hVs
  gi_wp2_with (rw [Oper.semAt_eq _ _ _ (fun c h => by cases h)]; go_simp; try go_bits)
  have hal := (Below.refl W.heap.size W).alloc (Nat.le_refl _) (.cells V 129)
  exact hK _ _ ((KeepsOthers.alloc _ _).from _) (KeepB.of hal (by omega)) ⟨⟨h1.below hal h1.lt, h2.below hal h2.lt⟩, hB1.alloc hB1.size _, by simp; omega⟩ ⟨W.heap.size, by omega, heap_alloc_new _ _, rfl⟩
 case body =>
  rintro l pre x a' W hl ⟨r, hr⟩ ⟨⟨h1, h2⟩, hB, hs⟩ ⟨Bx, hBx, bX, rfl⟩ hlt
  have hb0 := HB1.out.trans (hB.mono hs1)
  have htW := HT1.out.below hB (Nat.le_refl _)
  have i1 := h1.c0
  have i2 := h2.c0
  have f2 := h2.free 0
  have hcC : ∀ W', Below w1.heap.size w1 W' -> W'.cell? ⟨C, 5, none⟩ = some (.slice bo cs.length cb) := fun W' h => cell_keep ((cell_of_row w1 _ 5 _ _ _ HCC.out).trans rfl) h (Nat.le_refl _)
  have i5 := hcC W hB
  have hcB : ∀ W', Below w1.heap.size w1 W' -> Cells W' bo (shpL L (wvs L cs)) := fun W' h => HCS.out.below h (Nat.le_refl _)
  have hVs : (shp L (wav L x.1.1 x.1.2)).size = 65 := by rw [shp_size, wav_length]
  have hinf : (Tryz.prog.info? 129).map (·.size) = some (shp L (wav L x.1.1 x.1.2)).size := by rw [hVs]; kernel_rfl
  have HINF := Lib.hid hinf; have HBX := Lib.hid bX; have HB := Lib.hid hB; have HCB := Lib.hid hcB; have HCC2 := Lib.hid hcC; have H1 := Lib.hid h1; have H2 := Lib.hid h2; have HTW := Lib.hid htW
  clear hinf bX hcB hcC h1 h2 htW
  have hall : ∀ c ∈ cs, chOK L c = true := by
   have h := HBK.out
   simp only [bankOK, Bool.and_eq_true, decide_eq_true_eq, List.all_eq_true] at h
   exact h.1.2
  have HALL := Lib.hid hall
  have hl64 := bankOK_len9 HBK.out
  clear hall
  generalize hVV : shp L (wav L x.1.1 x.1.2) = V at *
  have HVV := Lib.hid hVV
  clear hVV
  gi_wp2_with (rw [Oper.semAt_eq _ _ _ (fun c h => by cases h)]; go_simp; try go_bits)
  gi_loopw [11, 38] (fun v i wr => ∃ k : Nat, k <= cs.length /\ i = .int .i64 k /\ v = .string (T2 (mostF L x.1 (cs.take k))) /\ Below W.heap.size W wr) (fun _ i _ => cs.length - (intOf i).toNat)
  case atStart => exact ⟨0, Nat.zero_le _, rfl, by rw [List.take_zero]; exact (congrArg Value.string T2_zero).symm, Below.refl _ _⟩
  case round =>
   obtain ⟨k, hk, rfl, rfl, hbr⟩ := hrel
   have hsr := hbr.size
   have hBr := HB.out.trans (hbr.mono HB.out.size)
   by_cases hlt : k < cs.length
   · obtain ⟨⟨r, s⟩, hrs⟩ := get_of_lt hlt
     have hy : (wvs L cs)[k]? = some (wav L r s) := by rw [wvs, List.getElem?_map, hrs]; rfl
     have hcb := HCB.out wr hBr
     obtain ⟨bb, ob, rfl⟩ := hcb.addr (by
      intro h
      have h2 := shpL_get (L := L) (fun z hz => by simp only [wvs, List.mem_map] at hz; obtain ⟨c, _, rfl⟩ := hz; exact wav_length _ _ _) hy (j := 0) (v := .int .i64 L) rfl
      rw [h] at h2; simp at h2)
     have hcell : ∀ j v, (shp L (wav L r s))[j]? = some v -> wr.cell? ((⟨bb, ob + k * 65, none⟩ : Addr).add j) = some v := by
      intro j v hv
      rw [Addr.add_lit, Nat.add_assoc]
      exact hcb.at (shpL_get (L := L) (fun z hz => by simp only [wvs, List.mem_map] at hz; obtain ⟨c, _, rfl⟩ := hz; exact wav_length _ _ _) hy hv)
     have hch : chOK L (r, s) = true := HALL.out _ (List.mem_of_getElem? hrs)
     have hm0 := pt_match x hch
     obtain ⟨n, dd, hmt, hnm⟩ := match_call L x.1.1 x.1.2 r s hm0
     rw [HVV.out] at hmt
     have hfr := (mFr_ok hm0).1
     have hmo := mostF_ok x (cs := cs.take k) (fun c hc => HALL.out c (List.mem_of_mem_take hc))
     have hsn := mostF_snoc L x.1 (cs.take k) (r, s)
     rw [show cs.take k ++ [(r, s)] = cs.take (k + 1) by rw [List.take_add_one, hrs]; rfl] at hsn
     simp only at hsn
     generalize mFr L x.1.1 x.1.2 r s = fr at *
     generalize mostF L x.1 (cs.take k) = mo at *
     have hcm := fun (W' : World) (h : Below W.heap.size W W') => cmp_any (T2 fr) (T2 mo) W' (HTW.out.below h (Nat.le_refl _)) (T2_size hfr) (T2_size hmo)
     rw [(cmp_T hfr hmo).1, (cmp_T hfr hmo).2] at hcm
     have hV2 : (shp L (wav L r s)).size = 65 := by rw [shp_size, wav_length]
     have hinf2 : (Tryz.prog.info? 129).map (·.size) = some (shp L (wav L r s)).size := by rw [hV2]; kernel_rfl
     have hst2 := store_shape (shp L (wav L r s)) Z (by rw [shp_size, wav_length]) hZs shp_mem
     generalize shp L (wav L r s) = V2 at *
     have hne2 : ¬ V2 = #[] := by intro h; rw [h] at hV2; simp at hV2
     have k1 : (k : Int) < cs.length := by omega
     have k2 : (0 : Int) <= k := by omega
     have hal := hbr.alloc hsr (.cells V2 129)
     have hx1 : (wr.alloc (.cells V2 129)).heap[Bx]? = some (.cells V 129 (0, 0)) := (hal.block _ (Array.getElem?_eq_some_iff.1 HBX.out).1).trans HBX.out
     have HCE := Lib.hid hcell; have HMT := Lib.hid hmt; have HNM := Lib.hid hnm; have HCM := Lib.hid hcm; have HSN := Lib.hid hsn; have HI2 := Lib.hid hinf2; have HAL := Lib.hid hal; have HX1 := Lib.hid hx1; have HBR := Lib.hid hbr
     clear hcell hmt hnm hcm hsn hinf2 hal hx1 hcb hy hrs hch hm0 hfr hmo hbr hBr
     gi_wp2_with (first
      | (refine wpListIn_load_arr (by rfl) 129 _ (by rfl) ⟨bb, ob + k * 65, none⟩ (by rfl) V2 _ HCE.out Tryz.underlying129 (by rfl) HI2.out ?_)
      | (refine wpListIn_load_row (by rfl) 129 _ (by rfl) Bx (by rfl) _ V _ _ HX1.out Tryz.underlying129 (by rfl) HINF.out ?_)
      | (refine wpListIn_load_row (by rfl) 129 _ (by rfl) wr.heap.size (by rfl) _ V2 _ _ (heap_alloc_new wr _) Tryz.underlying129 (by rfl) HI2.out ?_)
      | (refine ⟨trivial, ?_⟩; gi_at_call 89; refine (CallsIn.inRound l (callsIn_wide.2 (HMT.out _))).mono ?_; rintro r' w2 ⟨rfl, hb2⟩; refine Hid.out ?_)
      | (rw [Oper.semAt_eq _ _ _ (fun c h => by cases h)]; go_simp; try go_bits))
     refine Lib.hid ?_
     have hb02 := HAL.out.trans (hb2.mono HAL.out.size)
     gi_wp2_with (first
      | (refine ⟨trivial, ?_⟩; gi_at_call 90; refine (CallsIn.inRound l (callsIn_wide.2 (HNM.out _ (HTW.out.below hb02 (Nat.le_refl _))))).mono ?_; rintro r' w3 ⟨rfl, hb3⟩; refine Hid.out ?_)
      | (rw [Oper.semAt_eq _ _ _ (fun c h => by cases h)]; go_simp; try go_bits))
     refine Lib.hid ?_
     have hb03 := hb02.trans (hb3.mono hb02.size)
     gi_wp2_with (first
      | (refine ⟨trivial, ?_⟩; gi_at_call 32; refine (CallsIn.inRound l (callsIn_wide.2 (HCM.out _ hb03))).mono ?_; rintro r' w4 ⟨rfl, hb4⟩; refine Hid.out ?_)
      | (rw [Oper.semAt_eq _ _ _ (fun c h => by cases h)]; go_simp; try go_bits))
     refine Lib.hid ?_
     have hb04 := hb03.trans (hb4.mono hb03.size)
     have HB04 := Lib.hid hb04
     clear hb02 hb03 hb04 hb2 hb3 hb4
     by_cases hp : 0 < cmpF fr mo
     · rw [if_pos hp] at HSN
       generalize cmpF fr mo = cv at *
       gi_wp2_with (rw [Oper.semAt_eq _ _ _ (fun c h => by cases h)]; go_simp; try go_bits)
       go_roundw
       case rel => exact ⟨k + 1, by omega, by go_num, by rw [HSN.out], HB04.out⟩
       case measure => simp [intOf]; omega
     · rw [if_neg hp] at HSN
       generalize cmpF fr mo = cv at *
       gi_wp2_with (rw [Oper.semAt_eq _ _ _ (fun c h => by cases h)]; go_simp; try go_bits)
       go_roundw
       case rel => exact ⟨k + 1, by omega, by go_num, by rw [HSN.out], HB04.out⟩
       case measure => simp [intOf]; omega
   · obtain rfl : k = cs.length := by omega
     rw [List.take_length]
     have hmo := mostF_ok x HALL.out
     have hws := wrsF_snoc L cs pre x
     have hwo := wrsF_ok HALL.out pre
     generalize mostF L x.1 cs = mo at *
     generalize wrsF L cs pre = wo at *
     have hsw : (worT wo).size <= 1099511627776 /\ Lib.hasSuffix (worT wo).data.toList [105] = false := by
      cases wo with
      | none => exact ⟨by decide, by decide⟩
      | some v => exact T2_size (hwo v rfl)
     generalize htx : worT wo = tx at *
     have HTX := Lib.hid htx
     clear htx
     have hcm := cmp_any (T2 mo) tx wr (HTW.out.below hbr (Nat.le_refl _)) (T2_size hmo) hsw
     have b1 := H2.out.below hbr H2.out.lt
     have hblk1 := H1.out.below hbr H1.out.lt
     have c1 := b1.c0
     have g1 := b1.free 0
     have l1 := b1.lt
     have HCM := Lib.hid hcm; have HW2 := Lib.hid b1; have HC1 := Lib.hid hblk1; have HBR := Lib.hid hbr; have HBRR := Lib.hid hBr; have HWS := Lib.hid hws
     clear hcm b1 hblk1 hbr hBr hws hsw
     gi_wp2_with (first
      | (refine ⟨trivial, ?_⟩; gi_at_call 32; refine (CallsIn.inRound l (callsIn_wide.2 HCM.out)).mono ?_; rintro r' w4 ⟨rfl, hb4⟩; refine Hid.out ?_)
      | (rw [Oper.semAt_eq _ _ _ (fun c h => by cases h)]; go_simp; try go_bits))
     refine Lib.hid ?_
     have b2 := HW2.out.below hb4 HW2.out.lt
     have hblk2 := HC1.out.below hb4 HC1.out.lt
     have c2 := b2.c0
     have g2 := b2.free 0
     have l2 := b2.lt
     have hb04 := HBR.out.trans (hb4.mono hsr)
     have hbw4 := HBRR.out.trans (hb4.mono HBRR.out.size)
     have hsz4 := hb04.size
     have HB2 := Lib.hid b2; have HK2 := Lib.hid hblk2; have HB04 := Lib.hid hb04; have HBW4 := Lib.hid hbw4
     clear b2 hblk2 hb04 hbw4 hb4 c1 g1 l1
     generalize hcv : cmpV (T2 mo) tx = cv at *
     have HCV2 := Lib.hid hcv
     clear hcv
     cases wo with
     | none =>
       have t0 : tx.toList = [] := (list_empty _).2 HTX.out.symm
       have t1 : tx.toList.isEmpty = true := by rw [t0]; rfl
       gi_wp2_with (rw [Oper.semAt_eq _ _ _ (fun c h => by cases h)]; go_simp; try go_bits)
       have hbs : Below w1.heap.size w1 (w4.setCell ⟨w1.heap.size + 1, 0, none⟩ (.string (T2 mo))) := HBW4.out.setCell (p := ⟨w1.heap.size + 1, 0, none⟩) (Nat.le_succ _) _
       exact ⟨((keepsOthers_below HB04.out).trans (KeepsOthers.setCell w4 _ _)).from _, ⟨(heap_setCell_other w4 ⟨w1.heap.size + 1, 0, none⟩ _ _ (by show w1.heap.size + 1 + 1 ≠ w1.heap.size + 1; omega)).trans (HB04.out.block _ (by omega)), by simp; omega⟩, ⟨HK2.out.other (by omega) _ _, by rw [HWS.out]; exact HB2.out.set0 _⟩, hbs, by simp; omega⟩
     | some v =>
       have hv := hwo v rfl
       have hcv2 : cv = cmpF mo v := by rw [<- HCV2.out, <- HTX.out]; exact (cmp_T hmo hv).2
       have t0 : ¬ tx.toList = [] := fun h => T2_ne hv (HTX.out.trans ((list_empty _).1 h))
       have t1 : tx.toList.isEmpty = false := by
        cases hh : tx.toList with
        | nil => exact absurd hh t0
        | cons _ _ => rfl
       have hws2 : wrsF L cs (pre ++ [x]) = if cv < 0 then some mo else some v := by rw [HWS.out, hcv2]
       clear HWS hcv2
       by_cases hp : cv < 0
       · rw [if_pos hp] at hws2
         have HWS := Lib.hid hws2
         clear hws2
         gi_wp2_with (rw [Oper.semAt_eq _ _ _ (fun c h => by cases h)]; go_simp; try go_bits)
         have hbs : Below w1.heap.size w1 (w4.setCell ⟨w1.heap.size + 1, 0, none⟩ (.string (T2 mo))) := HBW4.out.setCell (p := ⟨w1.heap.size + 1, 0, none⟩) (Nat.le_succ _) _
         exact ⟨((keepsOthers_below HB04.out).trans (KeepsOthers.setCell w4 _ _)).from _, ⟨(heap_setCell_other w4 ⟨w1.heap.size + 1, 0, none⟩ _ _ (by show w1.heap.size + 1 + 1 ≠ w1.heap.size + 1; omega)).trans (HB04.out.block _ (by omega)), by simp; omega⟩, ⟨HK2.out.other (by omega) _ _, by rw [HWS.out]; exact HB2.out.set0 _⟩, hbs, by simp; omega⟩
       · rw [if_neg hp] at hws2
         have HWS := Lib.hid hws2
         clear hws2
         gi_wp2_with (rw [Oper.semAt_eq _ _ _ (fun c h => by cases h)]; go_simp; try go_bits)
         exact ⟨(keepsOthers_below HB04.out).from _, ⟨HB04.out.block _ (by omega), hsz4⟩, ⟨HK2.out, by rw [HWS.out]; show Blk _ _ _ #[.string (worT (some v))]; rw [HTX.out]; exact HB2.out⟩, HBW4.out, by omega⟩
 case done =>
  rintro Dd ys' W hD rfl ⟨⟨h1, h2⟩, hB, hs⟩ hK
  obtain ⟨wo, hwo⟩ : ∃ wo, wrsF L cs (ptsAll L a c (d - c + 1).toNat (b - a + 1).toNat) = wo := ⟨_, rfl⟩
  have hok := wrsF_ok (L := L) (cs := cs) (fun c hc => by
   have h := HBK.out
   simp only [bankOK, Bool.and_eq_true, decide_eq_true_eq, List.all_eq_true] at h
   exact h.1.2 c hc) (ptsAll L a c (d - c + 1).toNat (b - a + 1).toNat)
  rw [hwo] at h2 hok
  have c1 := h2.c0
  have HWO := Lib.hid hwo
  have hbe := (HBW.out.trans (hB.mono (by omega))).trans (belowK_b (w := w) (Nat.le_refl _) W Dd _ (.deferred none) (by omega) hK rfl rfl)
  have HBE := Lib.hid hbe
  clear h1 h2 hB hwo hbe
  cases wo with
  | none =>
    have hw0 : worT none = ⟨#[]⟩ := rfl
    have t0 : (⟨#[]⟩ : ByteArray).toList = [] := (list_empty _).2 rfl
    have t1 : (⟨#[]⟩ : ByteArray).toList.isEmpty = true := by rw [t0]; rfl
    rw [hw0] at c1
    gi_wp2
    refine ⟨by simp, .inl ⟨_, _, rfl, run_takeDeferred hK, ?_⟩⟩
    refine ⟨.tuple #[.string ⟨#[]⟩, .int .i64 4], ?_, by rw [HWO.out]; rfl, HBE.out⟩
    simp [results, Tryz.f31, go_sem]
  | some v =>
    have hv := hok v rfl
    have hw0 : worT (some v) = T2 v := rfl
    rw [hw0] at c1
    have t0 : ¬ (T2 v).toList = [] := fun h => T2_ne hv ((list_empty _).1 h)
    have t1 : (T2 v).toList.isEmpty = false := by
     cases hh : (T2 v).toList with
     | nil => exact absurd hh t0
     | cons _ _ => rfl
    have HV := Lib.hid hv
    generalize htx : T2 v = tx at *
    have HTX := Lib.hid htx
    clear htx hv hok hw0
    gi_wp2
    refine ⟨by simp, .inl ⟨_, _, rfl, run_takeDeferred hK, ?_⟩⟩
    refine ⟨.tuple #[.string tx, .int .i64 0], ?_, by rw [HWO.out, <- HTX.out]; rfl, HBE.out⟩
    simp [results, Tryz.f31, go_sem]
 case stop =>
  rintro Dd cc pre W hD hpre h _
  exact h.elim
end Go.Proofs.YtdpjdifoonfcdaaGreatDoor
