/- Parts of a proof, in build order: VB. -/
import Derived.Test.YtdpjdifoonfcdaaGreatDoorKr10
import Derived.Deep.Slices
import Derived.Lib.SmallJoins

namespace Go.Proofs.YtdpjdifoonfcdaaGreatDoor
open Go.RowKit Go.WideShapes Go.ChangeShapes Go.Deep Go.Joins
section
variable {H : Type} {enc : TypeId × Value -> H} {P : Program} {w : World} {base : Nat} {spare : Nat -> Bool} {held : Bool}
theorem array9 {α : Type} {cs : Array α} (h : cs.size = 9) : ∃ c0 c1 c2 c3 c4 c5 c6 c7 c8, cs = #[c0, c1, c2, c3, c4, c5, c6, c7, c8] := by
 obtain ⟨l⟩ := cs
 match l, h with
 | [c0, c1, c2, c3, c4, c5, c6, c7, c8], _ => exact ⟨c0, c1, c2, c3, c4, c5, c6, c7, c8, rfl⟩
theorem open_sig {r : Reach} {b0 : Nat} {t i sc ch si : TypeId} {f0 f1 f2 f3 f4 f5 f6 f7 f8 h0 h1 : Field} {v : Value} {d : DataW H} {p : List MemPlace} (hs : P.underlying t = some (.struct #[f0, f1, f2, f3, f4, f5, f6, f7, f8])) (j0 : f0.type = i /\ f0.offset = 0) (j1 : f1.type = sc /\ f1.offset = 1) (j2 : f2.type = i /\ f2.offset = 2) (j3 : f3.type = i /\ f3.offset = 3) (j4 : f4.type = i /\ f4.offset = 4) (j5 : f5.type = si /\ f5.offset = 5) (j6 : f6.type = i /\ f6.offset = 6) (j7 : f7.type = i /\ f7.offset = 7) (j8 : f8.type = i /\ f8.offset = 8)
 (hi : P.underlying i = some (.int .i64)) (hsc : P.underlying sc = some (.slice ch)) (hch : P.underlying ch = some (.struct #[h0, h1])) (l0 : h0.type = i /\ h0.offset = 0) (l1 : h1.type = i /\ h1.offset = 1) (hsi : P.underlying si = some (.slice i)) (ci : P.cellsOf i = 1) (csc : P.cellsOf sc = 1) (cch : P.cellsOf ch = 2) (csi : P.cellsOf si = 1) (ct : P.cellsOf t = 9)
 (hv : Value.okWide P w r b0 t v) (h : DataW.Trod enc P w base spare held t v d p) :
 ∃ (n0 n2 n3 n4 n6 n7 n8 : Int) (ao : Option Addr) (cs : List (Int × Int)) (cap : Nat) (na : Option Addr) (ns : List Int) (nc : Nat) (dd : DataW H), v = .agg #[.int .i64 n0, .slice ao cs.length cap, .int .i64 n2, .int .i64 n3, .int .i64 n4, .slice na ns.length nc, .int .i64 n6, .int .i64 n7, .int .i64 n8] /\ (Cells w ao (prs cs) /\ cs.length <= cap /\ cap <= 9223372036854775807) /\ (Cells w na (ns.map (Value.int .i64)) /\ ns.length <= nc /\ ns.length <= dlen dd /\ (na = none -> nc = 0) /\ nc <= 9223372036854775807) /\ (∀ n ∈ dd.weights P si, n ∈ d.weights P t) := by
 obtain ⟨vs, rfl, hsz⟩ := okWide_struct hs hv
 obtain ⟨c0, c1, c2, c3, c4, c5, c6, c7, c8, rfl⟩ := array9 (hsz.trans ct)
 obtain ⟨fuel, hf⟩ := h
 obtain ⟨xs, n, _, hx, _, hlen, hfs⟩ := DataW.trod_struct hs hf
 match xs, hlen with
 | [y0, y1, y2, y3, y4, y5, y6, y7, y8], _ =>
   have t0 := hfs 0 f0 rfl
   have t1 := hfs 1 f1 rfl
   have t2 := hfs 2 f2 rfl
   have t3 := hfs 3 f3 rfl
   have t4 := hfs 4 f4 rfl
   have t5 := hfs 5 f5 rfl
   have t6 := hfs 6 f6 rfl
   have t7 := hfs 7 f7 rfl
   have t8 := hfs 8 f8 rfl
   rw [j0.1, j0.2, ci] at t0
   rw [j1.1, j1.2, csc] at t1
   rw [j2.1, j2.2, ci] at t2
   rw [j3.1, j3.2, ci] at t3
   rw [j4.1, j4.2, ci] at t4
   rw [j5.1, j5.2, csi] at t5
   rw [j6.1, j6.2, ci] at t6
   rw [j7.1, j7.2, ci] at t7
   rw [j8.1, j8.2, ci] at t8
   obtain ⟨n0, e0, _, _⟩ := DataW.trod_int hi (show DataW.trod enc P w base spare held n i [c0] = some y0 from t0)
   obtain ⟨ao, zs, cap, e1, hc, hl, hl2, _⟩ := rd_pairs hsc hch cch l0.2 l1.2 (by rw [l0.1]; exact ci) (by rw [l1.1]; exact ci) (by rw [l0.1]; exact hi) (by rw [l1.1]; exact hi) (show DataW.trod enc P w base spare held n sc [c1] = some y1 from t1)
   obtain ⟨n2, e2, _, _⟩ := DataW.trod_int hi (show DataW.trod enc P w base spare held n i [c2] = some y2 from t2)
   obtain ⟨n3, e3, _, _⟩ := DataW.trod_int hi (show DataW.trod enc P w base spare held n i [c3] = some y3 from t3)
   obtain ⟨n4, e4, _, _⟩ := DataW.trod_int hi (show DataW.trod enc P w base spare held n i [c4] = some y4 from t4)
   obtain ⟨na, us, nc, e5, hn, hnl, hcp, _, hdl, hnn⟩ := rd_ints2 hsi hi ci (show DataW.trod enc P w base spare held n si [c5] = some y5 from t5)
   obtain ⟨n6, e6, _, _⟩ := DataW.trod_int hi (show DataW.trod enc P w base spare held n i [c6] = some y6 from t6)
   obtain ⟨n7, e7, _, _⟩ := DataW.trod_int hi (show DataW.trod enc P w base spare held n i [c7] = some y7 from t7)
   obtain ⟨n8, e8, _, _⟩ := DataW.trod_int hi (show DataW.trod enc P w base spare held n i [c8] = some y8 from t8)
   simp only [List.cons.injEq, and_true] at e0 e1 e2 e3 e4 e5 e6 e7 e8
   simp only [Prod.mk.injEq] at hx
   refine ⟨n0, n2, n3, n4, n6, n7, n8, ao, zs, cap, na, us, nc, y5.1, by rw [e0, e1, e2, e3, e4, e5, e6, e7, e8], ⟨hc, hl, hl2⟩, ⟨hn, hnl, hdl, hnn, hcp⟩, fun m hm => ?_⟩
   rw [hx.1]
   have e' : (DataW.agg ([y0, y1, y2, y3, y4, y5, y6, y7, y8].map (·.1))).weights P t = DataW.weightsEach P ((#[f0, f1, f2, f3, f4, f5, f6, f7, f8] : Array Field).toList.map (·.type)) ([y0, y1, y2, y3, y4, y5, y6, y7, y8].map (·.1)) := by simp [DataW.weights, hs]
   rw [e']
   exact DataW.weights_mem_each (j := 5) (t := si) (d := y5.1) (by show some f5.type = some si; rw [j5.1]) rfl m hm
end
end Go.Proofs.YtdpjdifoonfcdaaGreatDoor
