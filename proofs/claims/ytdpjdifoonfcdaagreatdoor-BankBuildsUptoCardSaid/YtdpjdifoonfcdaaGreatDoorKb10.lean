/- Parts of a proof, in build order: YD, YG, YK, V9, LA, LB, LD, LS, LG, LH, LF. -/
import Derived.Test.YtdpjdifoonfcdaaGreatDoorKb9
import Derived.Deep.RegionHeld
import Derived.Deep.Strs
import Derived.Lib.SmallJoins
import Derived.Maps.OwnSet

namespace Go.Proofs.YtdpjdifoonfcdaaGreatDoor
open Go.RowKit Go.Shelf
def covE (L a b c d : Int) (cs : List (Int × Int)) (s : ByteArray) : Int := if famOK L a b c d = false then 71 else if bankOK L cs = false then 72 else if barS s = none then 74 else 0
def CovRes (L a b c d : Int) (cs : List (Int × Int)) (s : ByteArray) (w : World) (e : Ending) (w' : World) : Prop :=
 ((covE L a b c d cs s = 0 /\ famOK L a b c d = true /\ bankOK L cs = true /\ ∃ (C : Nat) (bo : Option Addr) (cb N D : Nat), e = .returned (.tuple #[.pointer (some ⟨C, 0, none⟩), .int .i64 0]) /\ barS s = some (N, D) /\ w'.heap[C]? = some (.cells #[.int .i64 L, .int .i64 a, .int .i64 b, .int .i64 c, .int .i64 d, .slice bo cs.length cb, .int .i64 N, .int .i64 D] 159 (0, 0)) /\ Cells w' bo (shpL L (wvs L cs)))
   ∨ (covE L a b c d cs s ≠ 0 /\ e = .returned (.tuple #[.pointer none, .int .i64 (covE L a b c d cs s)]))) /\ Below w.heap.size w w'
theorem covE_0 {L a b c d : Int} {cs : List (Int × Int)} {s : ByteArray} (h : covE L a b c d cs s = 0) : famOK L a b c d = true /\ bankOK L cs = true /\ ∃ N D, barS s = some (N, D) := by
 unfold covE at h
 split at h
 · cases h
 · rename_i h1
   split at h
   · cases h
   · rename_i h2
     split at h
     · cases h
     · rename_i h3
       refine ⟨by simpa using h1, by simpa using h2, ?_⟩
       rcases hb : barS s with _ | ⟨N, D⟩
       · exact absurd hb h3
       · exact ⟨N, D, rfl⟩
theorem cov_no {L a b c d : Int} {cs : List (Int × Int)} {s : ByteArray} {w w' : World} {v : Int} (h : covE L a b c d cs s = v) (h0 : v ≠ 0) (hb : Below w.heap.size w w') : CovRes L a b c d cs s w (.returned (.tuple #[.pointer none, .int .i64 v])) w' := by subst h; exact ⟨.inr ⟨h0, rfl⟩, hb⟩
set_option maxRecDepth 100000 in
set_option maxHeartbeats 2000000 in
theorem covering_any (L a b c d : Int) (cs : List (Int × Int)) (ao : Option Addr) (cap : Nat) (s : ByteArray) (w : World) (ht : Tab w) (hs : s.size <= 140737488351232) (hc : Cells w ao (prs cs)) (hl : cs.length <= 9223372036854775807) (hcap : cs.length <= cap) (hcap2 : cap <= 9223372036854775807) :
 Calls Tryz.prog 73 #[.agg #[.int .i64 L, .int .i64 a, .int .i64 b, .int .i64 c, .int .i64 d], .slice ao cs.length cap, .string s] w (CovRes L a b c d cs s w) := by
 obtain ⟨W0, hW0⟩ : ∃ W0, w.alloc (.cells #[.int .i64 L, .int .i64 a, .int .i64 b, .int .i64 c, .int .i64 d] 43) = W0 := ⟨_, rfl⟩
 have hB0 : Below w.heap.size w W0 := by rw [<- hW0]; exact (Below.refl _ w).alloc (Nat.le_refl _) _
 have hs0 : W0.heap.size = w.heap.size + 1 := by rw [<- hW0]; simp
 have r0 : Blk W0 w.heap.size 43 #[.int .i64 L, .int .i64 a, .int .i64 b, .int .i64 c, .int .i64 d] := by rw [<- hW0]; exact heap_alloc_new w _
 have HKB : Hid (∀ wx, Below W0.heap.size W0 wx -> Blk wx w.heap.size 43 #[.int .i64 L, .int .i64 a, .int .i64 b, .int .i64 c, .int .i64 d] /\ Below w.heap.size w wx /\ Tab wx /\ Cells wx ao (prs cs)) := Lib.hid (fun wx hb => by
  have hbw := hB0.trans (hb.mono (by omega))
  exact ⟨r0.below hb (by omega), hbw, ht.below hbw (Nat.le_refl _), hc.below hbw (Nat.le_refl _)⟩)
 have hfo := fun W => familyOK_any L a b c d W
 have hwv := fun (W : World) (h : Cells W ao (prs cs)) => waves_any L cs ao cap W h hl hcap hcap2
 have hbr := fun (W : World) (h : Tab W) => barOf_any s W h hs
 have hE : covE L a b c d cs s = if famOK L a b c d = false then 71 else if bankOK L cs = false then 72 else if barS s = none then 74 else 0 := rfl
 have r0' := r0
 have q0 : W0.cell? ⟨w.heap.size, 0, none⟩ = some (.int .i64 L) := r0.cell 0
 have q1 : W0.cell? ⟨w.heap.size, 1, none⟩ = some (.int .i64 a) := r0.cell 1
 have q2 : W0.cell? ⟨w.heap.size, 2, none⟩ = some (.int .i64 b) := r0.cell 2
 have q3 : W0.cell? ⟨w.heap.size, 3, none⟩ = some (.int .i64 c) := r0.cell 3
 have q4 : W0.cell? ⟨w.heap.size, 4, none⟩ = some (.int .i64 d) := r0.cell 4
 have HW0 := Lib.hid hW0; have HWV := Lib.hid hwv; have HBR := Lib.hid hbr; have HE := Lib.hid hE; have HB0 := Lib.hid hB0
 clear hW0 hwv hbr hE r0 r0' hc ht hs hs0 hB0
 cases hf : famOK L a b c d with
 | false =>
   rw [hf] at hfo
   have HFO := Lib.hid hfo; have HF := Lib.hid hf
   clear hfo hf
   go_enter Tryz.func73, Tryz.ntmps73
   go_wp2_with (go_at_call 96; refine (HFO.out _).mono ?_; rintro e w1 ⟨rfl, hb1⟩)
   rw [HW0.out] at hb1
   go_ret2
   exact cov_no (by rw [HE.out, HF.out]; rfl) (by decide) (HB0.out.trans (hb1.mono HB0.out.size))
 | true =>
   rw [hf] at hfo
   have HFO := Lib.hid hfo; have HF := Lib.hid hf
   clear hfo hf
   go_enter Tryz.func73, Tryz.ntmps73
   go_wp2_with fail
   rw [HW0.out]
   refine (HFO.out _).mono ?_
   rintro e w1 ⟨rfl, hb1⟩
   have p0 := cell_keep q0 hb1 (Nat.le_refl _)
   go_wp2_with fail
   refine (HWV.out _ (HKB.out _ hb1).2.2.2).mono ?_
   rintro e w2 ⟨hr2, hb2⟩
   have hb02 := hb1.trans (hb2.mono hb1.size)
   cases hbk : bankOK L cs with
   | false =>
     rw [hbk] at hr2
     obtain rfl : e = _ := hr2
     have HBK := Lib.hid hbk
     clear hbk
     go_wp2_with fail
     go_ret2
     exact cov_no (by rw [HE.out, HF.out, HBK.out]; rfl) (by decide) (HKB.out _ hb02).2.1
   | true =>
     rw [hbk] at hr2
     obtain ⟨bo, cb, rfl, hcs⟩ := hr2
     have HBK := Lib.hid hbk; have HCS := Lib.hid hcs
     clear hbk hcs p0 q0 q1 q2 q3 q4
     go_wp2_with fail
     refine (HBR.out _ (HKB.out _ hb02).2.2.1).mono ?_
     rintro e w3 ⟨hr3, hb3⟩
     have hb03 := hb02.trans (hb3.mono hb02.size)
     cases hbs : barS s with
     | none =>
       rw [hbs] at hr3
       obtain ⟨N, D, rfl⟩ := hr3
       have HBS := Lib.hid hbs
       clear hbs
       go_wp2_with fail
       go_ret2
       have hbw := (HKB.out _ hb03).2.1
       exact cov_no (by rw [HE.out, HF.out, HBK.out, if_neg (by decide), if_neg (by decide), if_pos HBS.out]) (by decide) (hbw.alloc hbw.size _)
     | some t =>
       obtain ⟨N, D⟩ := t
       rw [hbs] at hr3
       obtain rfl : e = _ := hr3
       have HBS := Lib.hid hbs
       obtain ⟨hk, hbw, -, -⟩ := HKB.out _ hb03
       have q0 := hk.cell 0
       have q1 := hk.cell 1
       have q2 := hk.cell 2
       have q3 := hk.cell 3
       have q4 := hk.cell 4
       simp only [List.getElem?_toArray, List.getElem?_cons_succ, List.getElem?_cons_zero] at q0 q1 q2 q3 q4
       have hlt := hk.lt
       have HCS3 := Lib.hid (HCS.out.below hb3 (Nat.le_refl _))
       clear hbs hk hb1 hb2 hb3 hb02 hb03
       go_wp2_with fail
       go_ret2
       have hal : Below w3.heap.size w3 ((w3.alloc (.cells #[.int .i64 N, .int .i64 D] 157)).alloc (.cells #[.int .i64 L, .int .i64 a, .int .i64 b, .int .i64 c, .int .i64 d, .slice bo cs.length cb, .int .i64 N, .int .i64 D] 159)) := ((Below.refl _ _).alloc (Nat.le_refl _) _).alloc (by simp) _
       refine ⟨.inl ⟨?_, HF.out, HBK.out, w3.heap.size + 1, bo, cb, N, D, rfl, HBS.out, heap_alloc2_new w3 _ _, HCS3.out.below hal (Nat.le_refl _)⟩, hbw.trans (hal.mono hbw.size)⟩
       rw [HE.out, HF.out, HBK.out, if_neg (by decide), if_neg (by decide), if_neg (by rw [HBS.out]; intro h; cases h)]
end Go.Proofs.YtdpjdifoonfcdaaGreatDoor

namespace Go.Proofs.YtdpjdifoonfcdaaGreatDoor
open Go.RowKit
theorem upon_in {l n : Nat} {P : Program} {o : Oper} {a : Act} {next : Act -> World -> Prop} {Q : Exit -> Act -> World -> Prop} {r : Result Next} (h : o.upon P a next Q r) :
 o.uponIn (Fence.wide.inRound l) n P a next Q r := by
 cases r with
 | ok x w' =>
   cases x with
   | value v => exact h
   | skip => exact h
   | defer d => exact h
   | enter f args => exact ⟨(fun h => by cases h), CallsIn.inRound l (callsIn_wide.2 h)⟩
   | row r args => exact ⟨(fun h => by cases h), fun c cs _ => let ⟨v, w', hr, s⟩ := h c cs; ⟨v, w', hr, stepsIn_wide.2 s⟩⟩
   | _ => exact h.elim
 | halt x w' =>
   cases x with
   | panic v => exact h
   | _ => exact h.elim
theorem wpOp_in {l n : Nat} {P : Program} {ops : Array Oper} {Q : Exit -> Act -> World -> Prop} {i : Nat} {K K' : Act -> World -> Prop} {a : Act} {w : World} (hd : ∀ o, ops[i]? = some o -> ∀ c, o.op ≠ .defer c) (hq : ¬ LetsOut Q) (hK : ∀ a w, K a w -> K' a w) (h : wpOp P ops Q i K a w) :
 wpOpIn (Fence.wide.inRound l) n P ops Q i K' a w := by
 unfold wpOp at h
 refine wpOpIn_mono hK ?_
 unfold wpOpIn
 cases ho : ops[i]? with
 | none => rw [ho] at h; exact h
 | some o =>
   rw [ho] at h
   simp only at h ⊢
   split
   · rename_i hw
     rw [if_pos hw] at h
     rcases h with h | h
     · refine ⟨fun _ _ => trivial, ?_⟩
       rw [Oper.semAt_eq _ _ _ (hd o ho)]
       exact upon_in h
     · exact absurd h.2 hq
   · rename_i hw
     rw [if_neg hw] at h
     exact ⟨fun _ _ => trivial, h⟩
theorem wpAny_in {l n : Nat} {P : Program} {md : Region.Mode} {ops : Array Oper} {Q : Exit -> Act -> World -> Prop} (hd : ∀ (i : Nat) (o : Oper), ops[i]? = some o -> ∀ c, o.op ≠ .defer c) (hq : ¬ LetsOut Q) : ∀ (fuel : Nat) (listed : Array Bool) (a : Act) (w : World), wpAny P md ops Q fuel listed a w -> wpAnyIn (Fence.wide.inRound l) n P md ops Q fuel listed a w := by
 intro fuel
 induction fuel with
 | zero => intro listed a w h; exact h
 | succ fuel ih =>
   intro listed a w h
   exact ⟨h.1, fun i hi => wpOp_in (hd i) hq (fun a w h => ih _ a w h) (h.2 i hi)⟩
def noDefer (ops : Array Oper) : Bool := ops.all fun o => match o.op with | .defer _ => false | _ => true
theorem noDefer_spec {ops : Array Oper} (h : noDefer ops = true) : ∀ (i : Nat) (o : Oper), ops[i]? = some o -> ∀ c, o.op ≠ .defer c := by
 intro i o ho c hc
 unfold noDefer at h
 rw [Array.all_eq_true] at h
 obtain ⟨hi, hx⟩ := Array.getElem?_eq_some_iff.1 ho
 have := h i hi
 rw [hx, hc] at this
 cases this
end Go.Proofs.YtdpjdifoonfcdaaGreatDoor

namespace Go.Proofs.YtdpjdifoonfcdaaGreatDoor
open Go.RowKit
theorem exec_load_arr {P : Program} {o : Oper} {a : Act} {w' : World} (ty : TypeId) (x : Operand) (ho : o.op = .load ty x) (p : Addr) (hx : a.eval x = .pointer (some p)) (V : Array Value) (d : TypeDesc) (hc : ∀ j v, V[j]? = some v -> w'.cell? (p.add j) = some v)
 (hu : P.underlying ty = some d) (hd : (match d with | .struct _ | .array _ _ => true | _ => false) = true) (hi : (P.info? ty).map (·.size) = some V.size) :
 (execOp a.eval o).run P w' = .ok (.value (.agg V)) w' := by
 unfold execOp
 have h := run_loadVar_list w' p ty V.toList d (fun j v hj => hc j v (by simpa using hj)) hu hd (by simpa using hi)
 simp only [ho, hx, Instr.loadAt, Instr.sureAddr, Sem.run_bind, Sem.run_pure, Result.andThen_ok, h, Array.toArray_toList]
end Go.Proofs.YtdpjdifoonfcdaaGreatDoor

namespace Go.Proofs.YtdpjdifoonfcdaaGreatDoor
open Go.RowKit Go.WideShapes Go.ChangeShapes Go.Deep Go.Joins
section
variable {H : Type} {enc : TypeId × Value -> H} {P : Program} {w : World} {base : Nat} {spare : Nat -> Bool} {held : Bool}
theorem trod_fam {c i : TypeId} {g0 g1 g2 g3 g4 : Field} {n : Nat} {v0 v1 v2 v3 v4 : Value} {x : DataW H × List MemPlace} (hc : P.underlying c = some (.struct #[g0, g1, g2, g3, g4])) (k0 : g0.type = i /\ g0.offset = 0) (k1 : g1.type = i /\ g1.offset = 1) (k2 : g2.type = i /\ g2.offset = 2) (k3 : g3.type = i /\ g3.offset = 3) (k4 : g4.type = i /\ g4.offset = 4)
 (ci : P.cellsOf i = 1) (hi : P.underlying i = some (.int .i64)) (h : DataW.trod enc P w base spare held n c [v0, v1, v2, v3, v4] = some x) :
 ∃ a b c d e : Int, v0 = .int .i64 a /\ v1 = .int .i64 b /\ v2 = .int .i64 c /\ v3 = .int .i64 d /\ v4 = .int .i64 e := by
 obtain ⟨xs, m, _, hx, _, hlen, hfs⟩ := DataW.trod_struct hc h
 match xs, hlen with
 | [y0, y1, y2, y3, y4], _ =>
   have t0 := hfs 0 g0 rfl
   have t1 := hfs 1 g1 rfl
   have t2 := hfs 2 g2 rfl
   have t3 := hfs 3 g3 rfl
   have t4 := hfs 4 g4 rfl
   rw [k0.1, k0.2, ci] at t0
   rw [k1.1, k1.2, ci] at t1
   rw [k2.1, k2.2, ci] at t2
   rw [k3.1, k3.2, ci] at t3
   rw [k4.1, k4.2, ci] at t4
   obtain ⟨a, e0, _, _⟩ := DataW.trod_int hi (show DataW.trod enc P w base spare held m i [v0] = some y0 from t0)
   obtain ⟨b, e1, _, _⟩ := DataW.trod_int hi (show DataW.trod enc P w base spare held m i [v1] = some y1 from t1)
   obtain ⟨c, e2, _, _⟩ := DataW.trod_int hi (show DataW.trod enc P w base spare held m i [v2] = some y2 from t2)
   obtain ⟨d, e3, _, _⟩ := DataW.trod_int hi (show DataW.trod enc P w base spare held m i [v3] = some y3 from t3)
   obtain ⟨e, e4, _, _⟩ := DataW.trod_int hi (show DataW.trod enc P w base spare held m i [v4] = some y4 from t4)
   simp only [List.cons.injEq, and_true] at e0 e1 e2 e3 e4
   exact ⟨a, b, c, d, e, e0, e1, e2, e3, e4⟩
theorem open_fam {r : Reach} {b0 : Nat} {t i : TypeId} {g0 g1 g2 g3 g4 : Field} {v : Value} {d : DataW H} {p : List MemPlace} (hc : P.underlying t = some (.struct #[g0, g1, g2, g3, g4])) (k0 : g0.type = i /\ g0.offset = 0) (k1 : g1.type = i /\ g1.offset = 1) (k2 : g2.type = i /\ g2.offset = 2) (k3 : g3.type = i /\ g3.offset = 3) (k4 : g4.type = i /\ g4.offset = 4)
 (ci : P.cellsOf i = 1) (ct : P.cellsOf t = 5) (hi : P.underlying i = some (.int .i64)) (hv : Value.okWide P w r b0 t v) (h : DataW.Trod enc P w base spare held t v d p) : ∃ a b c d e : Int, v = .agg #[.int .i64 a, .int .i64 b, .int .i64 c, .int .i64 d, .int .i64 e] := by
 obtain ⟨cs, rfl, hsz⟩ := okWide_struct hc hv
 obtain ⟨c0, c1, c2, c3, c4, rfl⟩ := array5 (hsz.trans ct)
 obtain ⟨fuel, hf⟩ := h
 obtain ⟨a, b, c, d, e, rfl, rfl, rfl, rfl, rfl⟩ := trod_fam hc k0 k1 k2 k3 k4 ci hi hf
 exact ⟨a, b, c, d, e, rfl⟩
end
end Go.Proofs.YtdpjdifoonfcdaaGreatDoor

namespace Go.Proofs.YtdpjdifoonfcdaaGreatDoor
open Go.RowKit
def gainTo (r m : List Bool) (k : Nat) : Nat := ((r.take k).zip (m.take k)).countP fun x => x.1 && x.2
theorem gainTo_step {r m : List Bool} {k : Nat} {p q : Bool} (h : r[k]? = some p) (h2 : m[k]? = some q) : gainTo r m (k + 1) = gainTo r m k + if (p && q) = true then 1 else 0 := by
 have h3 := (List.getElem?_eq_some_iff.1 h).1
 have h4 := (List.getElem?_eq_some_iff.1 h2).1
 unfold gainTo
 rw [List.take_add_one, List.take_add_one, h, h2]
 simp only [Option.toList_some]
 rw [List.zip_append (by rw [List.length_take, List.length_take]; omega), List.countP_append]
 simp [List.countP_cons]
theorem gainTo_le (r m : List Bool) (k : Nat) : gainTo r m k <= k := by
 unfold gainTo
 refine Nat.le_trans List.countP_le_length ?_
 rw [List.length_zip, List.length_take]
 omega
theorem bools_at {w : World} {b o k : Nat} {l : List Bool} {p : Bool} (h : Cells w (some ⟨b, o, none⟩) (l.map Value.bool)) (hk : l[k]? = some p) : w.cell? ⟨b, o + k, none⟩ = some (.bool p) := h.at (by rw [List.getElem?_map, hk]; rfl)
theorem bools_ne {l : List Bool} (h : 0 < l.length) : l.map Value.bool ≠ [] := by
 cases l with
 | nil => simp at h
 | cons _ _ => simp
set_option maxRecDepth 100000 in
set_option maxHeartbeats 2000000 in
theorem gain_any (r m : List Bool) (ao bo : Option Addr) (ca cb : Nat) (w : World) (hl : r.length = m.length) (h63 : r.length <= 1000000) (hr : Cells w ao (r.map Value.bool)) (hm : Cells w bo (m.map Value.bool)) :
 Calls Tryz.prog 79 #[.slice ao r.length ca, .slice bo m.length cb] w fun e w' => e = .returned (.int .i64 (gainTo r m r.length)) /\ Below w.heap.size w w' := by
 have HR := Lib.hid hr; have HM := Lib.hid hm
 clear hr hm
 go_enter Tryz.func79, Tryz.ntmps79
 go_wp2_with fail
 go_loopw [5, 6] (fun nv iv wr => ∃ i : Nat, i <= r.length /\ iv = .int .i64 i /\ nv = .int .i64 (gainTo r m i) /\ Below w.heap.size w wr) (fun _ iv _ => r.length - (intOf iv).toNat)
 case atStart => exact ⟨0, Nat.zero_le _, rfl, rfl, Below.refl _ _⟩
 case round =>
  obtain ⟨i, hi, rfl, rfl, hb⟩ := hrel
  by_cases hlt : i < r.length
  · obtain ⟨p, hp⟩ := get_of_lt hlt
    obtain ⟨q, hq⟩ := get_of_lt (xs := m) (show i < m.length by omega)
    have hcr := HR.out.below hb (Nat.le_refl _)
    have hcm := HM.out.below hb (Nat.le_refl _)
    obtain ⟨ba, oa, rfl⟩ := hcr.addr (bools_ne (by omega))
    obtain ⟨bb, ob, rfl⟩ := hcm.addr (bools_ne (by omega))
    have c1 := bools_at hcr hp
    have c2 := bools_at hcm hq
    have hs := gainTo_step hp hq
    have hgl := gainTo_le r m i
    have i1 : (i : Int) < (r.length : Int) := by omega
    have i2 : (0 : Int) <= (i : Int) := by omega
    have i3 : (i : Int) < (m.length : Int) := by omega
    have HS := Lib.hid hs; have HB := Lib.hid hb
    clear hs hp hq hcr hcm hb
    generalize gainTo r m i = g at *
    cases p with
    | false =>
      go_wp2_with fail
      go_roundw
      case rel => exact ⟨i + 1, by omega, by go_num, by rw [HS.out]; simp, HB.out⟩
      case measure => simp [intOf]; omega
    | true =>
      cases q with
      | false =>
        go_wp2_with fail
        go_roundw
        case rel => exact ⟨i + 1, by omega, by go_num, by rw [HS.out]; simp, HB.out⟩
        case measure => simp [intOf]; omega
      | true =>
        go_wp2_with fail
        go_roundw
        case rel => exact ⟨i + 1, by omega, by go_num, by rw [HS.out]; simp, HB.out⟩
        case measure => simp [intOf]; omega
  · obtain rfl : i = r.length := by omega
    have HB := Lib.hid hb
    clear hb
    go_wp2_with fail
    go_ret
    exact ⟨rfl, HB.out⟩
end Go.Proofs.YtdpjdifoonfcdaaGreatDoor

namespace Go.Proofs.YtdpjdifoonfcdaaGreatDoor
open Go.RowKit
theorem own_baseL {w : World} {B B' : Nat} {e : TypeId} {s : Nat} {v : Value} {n : Nat} {xs : List Value} (h : w.ownsRow B e s v n xs) (hB : B' <= B) : w.ownsRow B' e s v n xs := by
 refine ⟨h.1, h.2.imp id ?_⟩
 rintro ⟨g, cap, cur, h1, h2, h3⟩
 exact ⟨g, cap, cur, h1, by omega, h3⟩
def RowsOf (w : World) (base : Nat) (e : TypeId) (vs : List Value) (xss : List (List Value)) : Prop := vs.length = xss.length /\ ∀ (j : Nat) v xs, vs[j]? = some v -> xss[j]? = some xs -> w.ownsRow base e 1 v xs.length xs
theorem RowsOf.nil (w : World) (base : Nat) (e : TypeId) : RowsOf w base e [] [] := ⟨rfl, fun _ _ _ h => by simp at h⟩
theorem RowsOf.below {w w' : World} {base B : Nat} {e : TypeId} {vs : List Value} {xss : List (List Value)} (h : RowsOf w base e vs xss) (hb : Below B w w') (hB : w.heap.size <= B) : RowsOf w' base e vs xss :=
 ⟨h.1, fun j v xs h1 h2 => own_belowK (h.2 j v xs h1 h2) hb hB⟩
theorem RowsOf.kept {w w' : World} {base b' : Nat} {e e' : TypeId} {s n : Nat} {v' : Value} {ys : List Value} {vs : List Value} {xss : List (List Value)} (h : RowsOf w base e vs xss) (hg : w.grownBy w' v'.ownBlock) (ho : w.ownsRow b' e' s v' n ys) (hne : e ≠ e') : RowsOf w' base e vs xss :=
 ⟨h.1, fun j v xs h1 h2 => (h.2 j v xs h1 h2).kept hg (own_ne3 (h.2 j v xs h1 h2) ho hne)⟩
theorem RowsOf.base {w : World} {base base' : Nat} {e : TypeId} {vs : List Value} {xss : List (List Value)} (h : RowsOf w base e vs xss) (hB : base' <= base) : RowsOf w base' e vs xss := ⟨h.1, fun j v xs h1 h2 => own_baseL (h.2 j v xs h1 h2) hB⟩
theorem RowsOf.at {w : World} {base : Nat} {e : TypeId} {vs : List Value} {xss : List (List Value)} (h : RowsOf w base e vs xss) {j : Nat} {xs : List Value} (hj : xss[j]? = some xs) : ∃ a c, vs[j]? = some (.slice a xs.length c) /\ Cells w a xs := by
 obtain ⟨v, hv⟩ := get_of_lt (xs := vs) (show j < vs.length by have := (List.getElem?_eq_some_iff.1 hj).1; have := h.1; omega)
 obtain ⟨a, c, rfl, hc⟩ := own_cells (h.2 j v xs hv hj)
 exact ⟨a, c, hv, hc⟩
theorem RowsOf.snoc {w : World} {base : Nat} {e : TypeId} {vs : List Value} {xss : List (List Value)} {v : Value} {xs : List Value} (h : RowsOf w base e vs xss) (hv : w.ownsRow base e 1 v xs.length xs) : RowsOf w base e (vs ++ [v]) (xss ++ [xs]) := by
 refine ⟨by simp [h.1], fun j u ys h1 h2 => ?_⟩
 by_cases hj : j < vs.length
 · rw [List.getElem?_append_left hj] at h1
   rw [List.getElem?_append_left (by rw [<- h.1]; exact hj)] at h2
   exact h.2 j u ys h1 h2
 · have hj2 : j = vs.length := by
    have := (List.getElem?_eq_some_iff.1 h1).1
    simp at this; omega
   subst hj2
   rw [List.getElem?_append_right (Nat.le_refl _), Nat.sub_self] at h1
   rw [List.getElem?_append_right (by rw [h.1]; exact Nat.le_refl _), h.1, Nat.sub_self] at h2
   simp only [List.getElem?_cons_zero, Option.some.injEq] at h1 h2
   subst h1; subst h2; exact hv
theorem Tryz.infoBool : (Tryz.prog.info? 4).map (fun i => (i.zero, i.size, i.bytes)) = some (some (.bool false), 1, 1) := by kernel_rfl
abbrev bvs (l : List Bool) : List Value := l.map Value.bool
theorem bvs_len (l : List Bool) : (bvs l).length = l.length := List.length_map _
theorem Blk.boolAt {w : World} {b j : Nat} {T : TypeId} {l : List Bool} {p : Bool} (h : Blk w b T (bvs l).toArray) (hj : l[j]? = some p) : w.cell? ⟨b, j, none⟩ = some (.bool p) := by
 rw [h.cell, List.getElem?_toArray, List.getElem?_map, hj]; rfl
theorem Blk.setBool {w : World} {b : Nat} {T : TypeId} {l : List Bool} (h : Blk w b T (bvs l).toArray) (j : Nat) (p : Bool) : Blk (w.setCell ⟨b, j, none⟩ (.bool p)) b T (bvs (l.set j p)).toArray := by
 have := h.setAt j (.bool p)
 rwa [List.setIfInBounds_toArray, <- List.map_set] at this
theorem Blk.ownB {w : World} {b base : Nat} {T : TypeId} {l : List Bool} (h : Blk w b T (bvs l).toArray) (hb : base <= b) (hl : l.length <= 100000) : w.ownsRow base T 1 (.slice (some ⟨b, 0, none⟩) l.length l.length) l.length (bvs l) :=
 ⟨by simp, .inr ⟨b, l.length, _, rfl, hb, h, Nat.le_refl _, by unfold maxLen; omega, by simp, by rw [Nat.mul_one, List.take_of_length_le (by simp)]⟩⟩
theorem run_make_bools {n : Nat} {z : Int} (hz : z = n) (h : n <= 100000) (w : World) : (Instr.makeSlice 169 (.int .i64 z) (.int .i64 z)).run Tryz.prog w = .ok (.slice (some ⟨w.heap.size, 0, none⟩) n n) (w.alloc (.cells (bvs (List.replicate n false)).toArray 4)) := by
 subst hz
 obtain ⟨i0, hi, hz0, hz1, hz2⟩ := info_parts Tryz.infoBool
 have hr := run_make (P := Tryz.prog) w 169 4 i0 (.bool false) Tryz.underlying169 hi hz0 .i64 .i64 n n (by omega) (by omega) (by rw [hz2]; omega) (by omega)
 rw [hr, hz1]
 simp only [Int.toNat_natCast, Nat.mul_one]
 have : madeCells (Value.bool false).cells n = (bvs (List.replicate n false)).toArray := by
  apply Array.ext
  · simp [madeCells]
  · intro i h1 h2
    simp [madeCells, Value.cells, Nat.mod_one]
 rw [this]
def rowTo {α : Type} (f : α -> Bool) (l : List α) (k : Nat) : List Bool := (l.take k).map f ++ List.replicate (l.length - k) false
theorem rowTo_len {α : Type} (f : α -> Bool) (l : List α) {k : Nat} (h : k <= l.length) : (rowTo f l k).length = l.length := by
 unfold rowTo
 rw [List.length_append, List.length_map, List.length_take, List.length_replicate]; omega
theorem rowTo_zero {α : Type} (f : α -> Bool) (l : List α) : rowTo f l 0 = List.replicate l.length false := by simp [rowTo]
theorem rowTo_full {α : Type} (f : α -> Bool) (l : List α) : rowTo f l l.length = l.map f := by simp [rowTo]
theorem rowTo_set {α : Type} {f : α -> Bool} {l : List α} {k : Nat} {x : α} (h : l[k]? = some x) : (rowTo f l k).set k (f x) = rowTo f l (k + 1) := by
 have hk := (List.getElem?_eq_some_iff.1 h).1
 unfold rowTo
 rw [List.take_add_one, h, List.set_append_right _ _ (by rw [List.length_map, List.length_take]; omega), List.length_map, List.length_take, Nat.min_eq_left (by omega), Nat.sub_self]
 rw [show l.length - k = (l.length - (k + 1)) + 1 by omega, List.replicate_succ, List.set_cons_zero]
 simp
end Go.Proofs.YtdpjdifoonfcdaaGreatDoor

namespace Go.Proofs.YtdpjdifoonfcdaaGreatDoor
open Go.RowKit
def rowAt (g : List (List Bool)) (i : Nat) : List Bool := (g[i]?).getD []
def bestTo (g : List (List Bool)) (m : List Bool) : Nat -> Nat × Nat
 | 0 => (0, 0)
 | k + 1 => if (bestTo g m k).2 < gainTo (rowAt g k) m m.length then (k, gainTo (rowAt g k) m m.length) else bestTo g m k
theorem bestTo_lt (g : List (List Bool)) (m : List Bool) (k : Nat) : (bestTo g m k).2 ≠ 0 -> (bestTo g m k).1 < k := by
 induction k with
 | zero => intro h; exact absurd rfl h
 | succ k ih =>
   intro h
   unfold bestTo at h ⊢
   split
   · exact Nat.lt_succ_self k
   · rename_i hc
     rw [if_neg hc] at h
     exact Nat.lt_succ_of_lt (ih h)
theorem bestTo_le (g : List (List Bool)) (m : List Bool) (k : Nat) : (bestTo g m k).2 <= m.length := by
 induction k with
 | zero => exact Nat.zero_le _
 | succ k ih =>
   unfold bestTo
   split
   · exact gainTo_le _ _ _
   · exact ih
def strike (row m : List Bool) : List Bool := List.zipWith (fun x y => x && !y) m row
theorem strike_len {row m : List Bool} (h : row.length = m.length) : (strike row m).length = m.length := by
 unfold strike
 rw [List.length_zipWith]; omega
def midTo (row m : List Bool) (k : Nat) : List Bool := (strike row m).take k ++ m.drop k
theorem midTo_zero (row m : List Bool) : midTo row m 0 = m := by simp [midTo]
theorem midTo_full {row m : List Bool} (h : row.length = m.length) : midTo row m m.length = strike row m := by
 unfold midTo
 rw [List.take_of_length_le (by rw [strike_len h]; exact Nat.le_refl _), List.drop_of_length_le (Nat.le_refl _), List.append_nil]
theorem midTo_get {row m : List Bool} (h : row.length = m.length) {k : Nat} (hk : k < m.length) : (midTo row m k)[k]? = m[k]? := by
 unfold midTo
 rw [List.getElem?_append_right (by rw [List.length_take, strike_len h]; omega), List.length_take, strike_len h, Nat.min_eq_left (by omega), Nat.sub_self, List.getElem?_drop, Nat.add_zero]
theorem midTo_set {row m : List Bool} (h : row.length = m.length) {k : Nat} {p q : Bool} (hq : m[k]? = some q) (hp : row[k]? = some p) : (midTo row m k).set k (q && !p) = midTo row m (k + 1) := by
 have hk := (List.getElem?_eq_some_iff.1 hq).1
 have hs : (strike row m)[k]? = some (q && !p) := by
  unfold strike
  rw [List.getElem?_zipWith, hq, hp]
 unfold midTo
 rw [List.set_append_right _ _ (by rw [List.length_take, strike_len h]; omega), List.length_take, strike_len h, Nat.min_eq_left (by omega), Nat.sub_self]
 rw [List.take_add_one, hs, List.drop_eq_getElem_cons hk, List.set_cons_zero]
 simp
def grd (g : List (List Bool)) (p : Nat) : Nat -> List Bool -> List Nat -> Option (List Nat)
 | 0, _, _ => none
 | f + 1, m, out => if (bestTo g m p).2 = 0 then some out else if out.length = 64 then none else grd g p f (strike (rowAt g (bestTo g m p).1) m) (out ++ [(bestTo g m p).1])
theorem grd_step (g : List (List Bool)) (p : Nat) (m : List Bool) (out : List Nat) (h : out.length <= 64) : grd g p (65 - out.length) m out = if (bestTo g m p).2 = 0 then some out else if out.length = 64 then none else grd g p (65 - (out ++ [(bestTo g m p).1]).length) (strike (rowAt g (bestTo g m p).1) m) (out ++ [(bestTo g m p).1]) := by
 rw [show 65 - out.length = (64 - out.length) + 1 by omega, grd]
 rw [List.length_append, List.length_singleton, show 65 - (out.length + 1) = 64 - out.length by omega]
end Go.Proofs.YtdpjdifoonfcdaaGreatDoor

namespace Go.Proofs.YtdpjdifoonfcdaaGreatDoor
open Go.RowKit
theorem Tryz.infoInts : (Tryz.prog.info? 24).map (fun i => (i.zero, i.size, i.bytes)) = some (some (.slice none 0 0), 1, 24) := by kernel_rfl
theorem Tryz.infoBools : (Tryz.prog.info? 169).map (fun i => (i.zero, i.size, i.bytes)) = some (some (.slice none 0 0), 1, 24) := by kernel_rfl
def svB (n d L : Int) (xb xa : Int × Int) : Bool := (srv n d L.toNat (wav L xa.1 xa.2) (wav L xb.1 xb.2)).isSome
def svM (n d L : Int) (l xs : List (Pt L)) : List (List Bool) := xs.map fun xb => l.map fun xa => svB n d L xb.1 xa.1
theorem svM_snoc (n d L : Int) (l xs : List (Pt L)) (x : Pt L) : (svM n d L l (xs ++ [x])).map bvs = (svM n d L l xs).map bvs ++ [bvs (l.map fun xa => svB n d L x.1 xa.1)] := by simp [svM]
def pick (ps : List (Int × Int)) (out : List Nat) : List (Int × Int) := out.map fun i => (ps[i]?).getD (0, 0)
theorem pick_snoc {ps : List (Int × Int)} (out : List Nat) {i : Nat} {t : Int × Int} (h : ps[i]? = some t) : prs (pick ps (out ++ [i])) = prs (pick ps out) ++ [.int .i64 t.1, .int .i64 t.2] := by simp [pick, prs, h]
def vlen : Value -> Nat
 | .slice _ n _ => n
 | _ => 0
theorem own_vlen {w : World} {b : Nat} {e : TypeId} {s n : Nat} {v : Value} {xs : List Value} (h : w.ownsRow b e s v n xs) : vlen v = n := by
 obtain ⟨a, c, rfl, -⟩ := own_cells h
 rfl
theorem Blk.cellsB {w : World} {b : Nat} {T : TypeId} {l : List Bool} (h : Blk w b T (bvs l).toArray) : Cells w (some ⟨b, 0, none⟩) (bvs l) := .inr ⟨b, 0, rfl, fun j u hj => by rw [Nat.zero_add, h.cell, List.getElem?_toArray]; exact hj⟩
theorem svM_len (n d L : Int) (l : List (Pt L)) : (svM n d L l l).length = l.length := List.length_map _
theorem svM_row {n d L : Int} {l : List (Pt L)} {i : Nat} (h : i < l.length) : ∃ row, (svM n d L l l)[i]? = some row /\ row.length = l.length /\ rowAt (svM n d L l l) i = row := by
 obtain ⟨x, hx⟩ := get_of_lt h
 refine ⟨l.map fun xa => svB n d L x.1 xa.1, ?_, List.length_map _, ?_⟩
 · rw [svM, List.getElem?_map, hx]; rfl
 · unfold rowAt
   rw [svM, List.getElem?_map, hx]; rfl
def bldO (n m : Nat) (L : Int) (l : List (Pt L)) : Option (List Nat) := grd (svM n m L l l) l.length 65 (l.map fun _ => true) []
def bldL (L : Int) (l : List (Pt L)) (o : Option (List Nat)) : List (Int × Int) := match o with | some out => pick (pairsOf l) out | none => []
def bldX (o : Option (List Nat)) : Int := match o with | some _ => 0 | none => 3
def buiR (L a b c d : Int) (s : ByteArray) : List (Int × Int) := if covE L a b c d [] s = 0 then (match barS s with | some (n, m) => bldL L (ptsAll L a c (d - c + 1).toNat (b - a + 1).toNat) (bldO n m L (ptsAll L a c (d - c + 1).toNat (b - a + 1).toNat)) | none => []) else []
def buiE (L a b c d : Int) (s : ByteArray) : Int := if covE L a b c d [] s = 0 then (match barS s with | some (n, m) => bldX (bldO n m L (ptsAll L a c (d - c + 1).toNat (b - a + 1).toNat)) | none => 0) else covE L a b c d [] s
theorem bui_yes {L a b c d : Int} {s : ByteArray} {n m : Nat} (h : covE L a b c d [] s = 0) (hb : barS s = some (n, m)) : buiR L a b c d s = bldL L (ptsAll L a c (d - c + 1).toNat (b - a + 1).toNat) (bldO n m L (ptsAll L a c (d - c + 1).toNat (b - a + 1).toNat)) /\ buiE L a b c d s = bldX (bldO n m L (ptsAll L a c (d - c + 1).toNat (b - a + 1).toNat)) := by
 unfold buiR buiE
 rw [if_pos h, if_pos h, hb]
 exact ⟨rfl, rfl⟩
theorem bui_no {L a b c d : Int} {s : ByteArray} (h : covE L a b c d [] s ≠ 0) : buiR L a b c d s = [] /\ buiE L a b c d s = covE L a b c d [] s := by
 unfold buiR buiE
 rw [if_neg h, if_neg h]
 exact ⟨rfl, rfl⟩
end Go.Proofs.YtdpjdifoonfcdaaGreatDoor

namespace Go.Proofs.YtdpjdifoonfcdaaGreatDoor
open Go.RowKit
theorem svB_self {n d L : Int} (x : Pt L) (hd : n <= d) : svB n d L x.1 x.1 = true := by
 obtain ⟨h1, h2⟩ := x.2
 have hL := waveOK_true h1
 have hp := norm_pos h2
 unfold svB srv fstS
 rw [List.find?_isSome]
 refine ⟨mkS (1 - (L.toNat : Int) + ((L.toNat - 1 : Nat) : Int)), List.mem_map.2 ⟨L.toNat - 1, List.mem_range.2 (by omega), rfl⟩, ?_⟩
 have h0 : 1 - (L.toNat : Int) + ((L.toNat - 1 : Nat) : Int) = 0 := by omega
 rw [h0, mkS_val (by omega) (by omega)]
 unfold rchB
 rw [show ((L.toNat : Nat) : Int) = L by omega]
 generalize ovl (wav L x.1.1 x.1.2) (wav L x.1.1 x.1.2) L 0 = N at *
 have hN : 0 <= N * N := Int.mul_nonneg (by omega) (by omega)
 rw [Bool.and_eq_true, decide_eq_true_eq, decide_eq_true_eq]
 exact ⟨by omega, Int.mul_le_mul_of_nonneg_left hd hN⟩
theorem gainTo_mono {r m : List Bool} {k : Nat} : ∀ j, gainTo r m k <= gainTo r m (k + j) := by
 intro j
 unfold gainTo
 refine List.Sublist.countP_le ?_
 have h1 : (r.take k).zip (m.take k) = (r.zip m).take k := by rw [List.zip_eq_zipWith, List.zip_eq_zipWith, List.take_zipWith]
 have h2 : (r.take (k + j)).zip (m.take (k + j)) = (r.zip m).take (k + j) := by rw [List.zip_eq_zipWith, List.zip_eq_zipWith, List.take_zipWith]
 rw [h1, h2]
 exact (List.take_prefix_take_left (by omega)).sublist
theorem gainTo_pos {r m : List Bool} {a k : Nat} (h1 : r[a]? = some true) (h2 : m[a]? = some true) (hk : a < k) : 0 < gainTo r m k := by
 have hs := gainTo_step h1 h2
 simp only [Bool.and_self, if_true] at hs
 have := gainTo_mono (r := r) (m := m) (k := a + 1) (k - (a + 1))
 rw [show a + 1 + (k - (a + 1)) = k by omega] at this
 omega
theorem gainTo_none {r m : List Bool} (h : m.count true = 0) (k : Nat) : gainTo r m k = 0 := by
 unfold gainTo
 rw [List.countP_eq_zero]
 rintro ⟨x, y⟩ hx
 have hy := (List.of_mem_zip hx).2
 have hm : y ∈ m := List.mem_of_mem_take hy
 simp only [Bool.and_eq_true, not_and, Bool.not_eq_true]
 intro _
 cases y
 · rfl
 · have := List.count_pos_iff.2 hm; omega
theorem bestTo_ge (g : List (List Bool)) (m : List Bool) : ∀ k i, i < k -> gainTo (rowAt g i) m m.length <= (bestTo g m k).2 := by
 intro k
 induction k with
 | zero => intro i h; omega
 | succ k ih =>
   intro i hi
   unfold bestTo
   by_cases hik : i = k
   · subst hik
     split
     · exact Nat.le_refl _
     · omega
   · have := ih i (by omega)
     split
     · simp only; omega
     · exact this
theorem bestTo_none {g : List (List Bool)} {m : List Bool} (h : m.count true = 0) (k : Nat) : (bestTo g m k).2 = 0 := by
 induction k with
 | zero => rfl
 | succ k ih =>
   unfold bestTo
   rw [gainTo_none h, if_neg (by omega)]
   exact ih
theorem most_zero {g : List (List Bool)} {m : List Bool} (hself : ∀ a, a < m.length -> (rowAt g a)[a]? = some true) : (bestTo g m m.length).2 = 0 ↔ m.count true = 0 := by
 constructor
 · intro h
   refine Nat.eq_zero_of_not_pos fun hc => ?_
   obtain ⟨a, ha, hma⟩ := List.mem_iff_getElem.1 (List.count_pos_iff.1 hc)
   have h1 := gainTo_pos (hself a ha) (show m[a]? = some true by rw [List.getElem?_eq_getElem ha, hma]) ha
   have h2 := bestTo_ge g m m.length a ha
   omega
 · exact fun h => bestTo_none h _
theorem svM_self {n d L : Int} {l : List (Pt L)} (hd : n <= d) {a : Nat} (ha : a < l.length) : (rowAt (svM n d L l l) a)[a]? = some true := by
 obtain ⟨x, hx⟩ := get_of_lt ha
 unfold rowAt svM
 rw [List.getElem?_map, hx]
 simp only [Option.map_some, Option.getD_some]
 rw [List.getElem?_map, hx]
 simp only [Option.map_some]
 rw [svB_self x hd]
end Go.Proofs.YtdpjdifoonfcdaaGreatDoor

namespace Go.Proofs.YtdpjdifoonfcdaaGreatDoor
open Go.RowKit
theorem strike_get {row m : List Bool} {a : Nat} {p q : Bool} (hp : row[a]? = some p) (hq : m[a]? = some q) : (strike row m)[a]? = some (q && !p) := by
 unfold strike
 rw [List.getElem?_zipWith, hq, hp]
theorem get_some_of_lt {l : List Bool} {a : Nat} (h : a < l.length) : ∃ b, l[a]? = some b := ⟨_, List.getElem?_eq_getElem h⟩
structure GInv (g : List (List Bool)) (p : Nat) (m : List Bool) (out : List Nat) : Prop where
 len : m.length = p
 lt : ∀ i ∈ out, i < p
 nd : out.Nodup
 cov : ∀ a : Nat, m[a]? = some false -> ∃ i ∈ out, (rowAt g i)[a]? = some true
 done : ∀ i ∈ out, ∀ a : Nat, (rowAt g i)[a]? = some true -> m[a]? = some false
theorem gain_witness {r m : List Bool} {k : Nat} (h : gainTo r m k ≠ 0) : ∃ a : Nat, r[a]? = some true /\ m[a]? = some true := by
 unfold gainTo at h
 obtain ⟨x, hx, hp⟩ := List.countP_pos_iff.1 (Nat.pos_of_ne_zero h)
 obtain ⟨a, ha, he⟩ := List.mem_iff_getElem.1 hx
 have h2 := List.getElem?_eq_getElem ha
 rw [he, List.getElem?_zip_eq_some] at h2
 obtain ⟨h3, h4⟩ := h2
 simp only [Bool.and_eq_true] at hp
 rw [hp.1] at h3
 rw [hp.2] at h4
 have hk : a < k := by
  have := (List.getElem?_eq_some_iff.1 h3).1
  rw [List.length_take] at this; omega
 rw [List.getElem?_take_of_lt hk] at h3 h4
 exact ⟨a, h3, h4⟩
theorem bestTo_gain (g : List (List Bool)) (m : List Bool) (k : Nat) : (bestTo g m k).2 ≠ 0 -> gainTo (rowAt g (bestTo g m k).1) m m.length = (bestTo g m k).2 := by
 induction k with
 | zero => intro h; exact absurd rfl h
 | succ k ih =>
   unfold bestTo
   split
   · intro _; rfl
   · exact ih
theorem GInv.step {g : List (List Bool)} {p : Nat} {m : List Bool} {out : List Nat} (h : GInv g p m out) (hrow : ∀ i, i < p -> (rowAt g i).length = p) (hb : (bestTo g m p).2 ≠ 0) : GInv g p (strike (rowAt g (bestTo g m p).1) m) (out ++ [(bestTo g m p).1]) := by
 have hlt := bestTo_lt g m p hb
 have hr := hrow _ hlt
 have hl := h.len
 have hgn := bestTo_gain g m p hb
 obtain ⟨a0, ha1, ha2⟩ := gain_witness (r := rowAt g (bestTo g m p).1) (m := m) (k := m.length) (by omega)
 generalize (bestTo g m p).1 = b at *
 have hsl : (strike (rowAt g b) m).length = p := by rw [strike_len (by omega)]; exact hl
 refine ⟨hsl, fun i hi => ?_, ?_, fun a ha => ?_, fun i hi a ha => ?_⟩
 · rcases List.mem_append.1 hi with hi | hi
   · exact h.lt i hi
   · rw [List.mem_singleton.1 hi]; exact hlt
 · rw [List.nodup_append]
   refine ⟨h.nd, List.nodup_cons.2 ⟨List.not_mem_nil, List.nodup_nil⟩, fun x hx y hy e => ?_⟩
   rw [List.mem_singleton.1 hy] at e
   subst e
   have := h.done _ hx a0 ha1
   rw [ha2] at this
   cases this
 · have hap : a < p := by have := (List.getElem?_eq_some_iff.1 ha).1; omega
   obtain ⟨q, hq⟩ := get_some_of_lt (show a < m.length by omega)
   obtain ⟨r, hr2⟩ := get_some_of_lt (show a < (rowAt g b).length by omega)
   have hs := strike_get hr2 hq
   rw [hs] at ha
   cases q with
   | false =>
     obtain ⟨i, hi, hc⟩ := h.cov a hq
     exact ⟨i, List.mem_append_left _ hi, hc⟩
   | true =>
     cases r with
     | true => exact ⟨b, by simp, hr2⟩
     | false => cases ha
 · have hip : i < p := by
    rcases List.mem_append.1 hi with hi | hi
    · exact h.lt i hi
    · rw [List.mem_singleton.1 hi]; exact hlt
   have hap : a < p := by have := (List.getElem?_eq_some_iff.1 ha).1; rw [hrow i hip] at this; exact this
   obtain ⟨q, hq⟩ := get_some_of_lt (show a < m.length by omega)
   obtain ⟨r, hr2⟩ := get_some_of_lt (show a < (rowAt g b).length by omega)
   rw [strike_get hr2 hq]
   rcases List.mem_append.1 hi with hi | hi
   · have := h.done i hi a ha
     rw [hq] at this
     cases this; rfl
   · rw [List.mem_singleton.1 hi, hr2] at ha
     cases ha
     rw [Bool.not_true, Bool.and_false]
theorem grd_ok {g : List (List Bool)} {p : Nat} (hrow : ∀ i, i < p -> (rowAt g i).length = p) (hself : ∀ a : Nat, a < p -> (rowAt g a)[a]? = some true) : ∀ (f : Nat) (m : List Bool) (out res : List Nat), GInv g p m out -> out.length <= 64 -> grd g p f m out = some res -> (∀ a : Nat, a < p -> ∃ i ∈ res, (rowAt g i)[a]? = some true) /\ (∀ i ∈ res, i < p) /\ res.Nodup /\ res.length <= 64 := by
 intro f
 induction f with
 | zero => intro m out res _ _ h; cases h
 | succ f ih =>
   intro m out res hi ho h
   unfold grd at h
   by_cases hz : (bestTo g m p).2 = 0
   · rw [if_pos hz] at h
     cases h
     have hl := hi.len
     have hc : m.count true = 0 := (most_zero (g := g) (m := m) (by rw [hl]; exact hself)).1 (by rw [hl]; exact hz)
     refine ⟨fun a ha => ?_, hi.lt, hi.nd, ho⟩
     obtain ⟨q, hq⟩ := get_some_of_lt (show a < m.length by omega)
     cases q with
     | false => exact hi.cov a hq
     | true =>
       have := List.count_pos_iff.2 (List.mem_of_getElem? hq)
       omega
   · rw [if_neg hz] at h
     by_cases h64 : out.length = 64
     · rw [if_pos h64] at h; cases h
     · rw [if_neg h64] at h
       exact ih _ _ _ (hi.step hrow hz) (by simp; omega) h
theorem bldO_ok {n m : Nat} {L : Int} {l : List (Pt L)} (h : n <= m) {res : List Nat} (hr : bldO n m L l = some res) : (∀ a : Nat, a < l.length -> ∃ i ∈ res, (rowAt (svM n m L l l) i)[a]? = some true) /\ (∀ i ∈ res, i < l.length) /\ res.Nodup /\ res.length <= 64 := by
 refine grd_ok (g := svM n m L l l) (p := l.length) (fun i hi => ?_) (fun a ha => svM_self (by omega) ha) 65 (l.map fun _ => true) [] res ⟨by simp, by simp, List.nodup_nil, fun a ha => ?_, by simp⟩ (by simp) hr
 · obtain ⟨row, _, h1, h2⟩ := svM_row (n := (n : Int)) (d := m) hi
   rw [h2]; exact h1
 · rw [List.getElem?_map] at ha
   cases hh : l[a]? with
   | none => rw [hh] at ha; cases ha
   | some x => rw [hh] at ha; cases ha
end Go.Proofs.YtdpjdifoonfcdaaGreatDoor

namespace Go.Proofs.YtdpjdifoonfcdaaGreatDoor
open Go.RowKit Go.Maps Go.ChangeMaps Go.MapKept
def MIs (D : DataW Unit) (m : List Bool) : Prop := Maps.Tidy D /\ (∀ (i : Nat) (b : Bool), m[i]? = some b -> Maps.has D (.int .i64 i) = b /\ D.atKey (.int .i64 i) (.lit (.bool false)) = .lit (.bool b)) /\ Maps.size D = m.count true
theorem key_int (i : Nat) : WideAt.IsKeyLit (.int .i64 i) := by
 first | exact .int _ _ | trivial | (unfold WideAt.IsKeyLit; trivial) | decide
theorem MIs.nil (n : Nat) : MIs (.map []) (List.replicate n false) := by
 refine ⟨Maps.tidy_empty, fun i b h => ?_, ?_⟩
 · rw [List.getElem?_replicate] at h
   split at h
   · cases h; exact ⟨rfl, rfl⟩
   · cases h
 · simp [Maps.size, List.count_replicate]
theorem MIs.put {D : DataW Unit} {m : List Bool} {k : Nat} (h : MIs D m) (hk : m[k]? = some false) : MIs (D.put (.int .i64 k) (.lit (.bool true))) (m.set k true) := by
 obtain ⟨h0, h1, h2⟩ := h
 have hl := (List.getElem?_eq_some_iff.1 hk)
 obtain ⟨hl, he⟩ := hl
 refine ⟨h0.put (key_int k) _, fun i b hi => ?_, ?_⟩
 · by_cases hik : i = k
   · subst hik
     rw [List.getElem?_set_self hl] at hi
     cases hi
     exact ⟨Maps.has_put_same h0.isMap (key_int _) _, Maps.atKey_put_same h0.isMap (key_int _) _ _⟩
   · rw [List.getElem?_set_ne (fun e => hik e.symm)] at hi
     have hne : (Lit.int .i64 i) ≠ .int .i64 k := fun e => hik (by injection e with _ e; omega)
     obtain ⟨a1, a2⟩ := h1 i b hi
     exact ⟨(Maps.has_put_other hne _).trans a1, (Maps.atKey_put_other hne _ _).trans a2⟩
 · rw [Maps.size_put h0, (h1 k false hk).1, if_neg (by decide), h2, List.count_set hl, he]
   simp
theorem MIs.del {D : DataW Unit} {m : List Bool} {k : Nat} (h : MIs D m) (hl : k < m.length) : MIs (D.del (.int .i64 k)) (m.set k false) := by
 obtain ⟨h0, h1, h2⟩ := h
 refine ⟨h0.del _, fun i b hi => ?_, ?_⟩
 · by_cases hik : i = k
   · subst hik
     rw [List.getElem?_set_self hl] at hi
     cases hi
     exact ⟨Maps.has_del_same, Maps.atKey_del_same _⟩
   · rw [List.getElem?_set_ne (fun e => hik e.symm)] at hi
     have hne : (Lit.int .i64 i) ≠ .int .i64 k := fun e => hik (by injection e with _ e; omega)
     obtain ⟨a1, a2⟩ := h1 i b hi
     exact ⟨(Maps.has_del_other hne).trans a1, (Maps.atKey_del_other hne _).trans a2⟩
 · have hs := Maps.size_del (k := .int .i64 k) h0
   have hb := (h1 k (m[k]) (List.getElem?_eq_getElem hl)).1
   rw [hb, h2] at hs
   rw [List.count_set hl]
   have hc : m[k] = true -> 0 < m.count true := fun e => List.count_pos_iff.2 (by rw [<- e]; exact List.getElem_mem hl)
   generalize m[k] = q at *
   cases q
   · simp at hs ⊢; omega
   · have := hc rfl; simp at hs ⊢; omega
theorem plainElem_bool_inv {P : Program} {e : TypeId} (he : P.underlying e = some .bool) {v : Value} {z : DataW Unit × List MemPlace} (h : plainElem P e v = some z) : ∃ x, v = .bool x /\ z = (.lit (.bool x), []) := by
 unfold plainElem at h
 rw [he] at h
 cases v <;> simp at h
 exact ⟨_, rfl, h.symm⟩
theorem wpList_lookup_bool {P : Program} (w : World) {ops : Array Oper} {rest : List Oper} {o : Oper} {a : Act} {Q : Exit -> Act -> World -> Prop}
 (hg : o.guard = none) (m x : Operand) (t : TypeId) (hop : o.op = Op.lookup t m x false)
 (k e : TypeId) (K : Maps.Keyed P k) (ht : P.underlying t = some (.map k e)) (he : P.underlying e = some .bool) (hz : (zeroValue e).run P w = .ok (.bool false) w) (b n : Nat) (D : DataW Unit)
 (hm : a.eval m = .map (some b)) (hown : w.ownsMap P k (plainElem P e) b n D) (key : Value) (kl : Lit) (hx : a.eval x = key) (hkey : keyOf P k key = some kl) (c : Bool) (hat : D.atKey kl (.lit (.bool false)) = .lit (.bool c))
 (hK : wpList P ops Q rest (a.put o.dst (.bool c)) w) :
 wpList P ops Q (o :: rest) a w := by
 refine wpList_plain hg fun K' hK' => ?_
 obtain ⟨v, ps, hrun, hv⟩ := hown.lookup K ht hz (plainElem_bool he false) hkey
 obtain ⟨c', rfl, hc⟩ := plainElem_bool_inv he hv
 simp only [Prod.mk.injEq] at hc
 rw [hat] at hc
 have hcc : c = c' := by have := hc.1; injection this with h; injection h
 subst hcc
 unfold Oper.wp
 simp [execOp, hop, hm, hx, hrun, Result.andThen]
 exact hK' _ _ hK
end Go.Proofs.YtdpjdifoonfcdaaGreatDoor
