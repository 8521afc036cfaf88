/- Parts of a proof, in build order: V1, V4, V6, Cx, V7, Y3, I2. -/
import Derived.Test.YtdpjdifoonfcdaaGreatDoorKh7
import Derived.ProofKit
import Derived.OpenShut
import Derived.ReadAgain
import Derived.Deep.Slices
import Derived.Deep.SlicePairs
import Derived.Lib.SmallJoins
import Derived.Below
import Derived.ChangeSame
import Derived.Test.YtdpjdifoonfcdaaGreatDoorRows
import Derived.SizedLaws
import Derived.Lib.LaidTab
import Derived.Deep.Strs

namespace Go.Proofs.YtdpjdifoonfcdaaGreatDoor
open Go.RowKit Go.WideShapes Go.ChangeShapes Go.Deep Go.Joins
section
variable {H : Type} {enc : TypeId × Value -> H} {P : Program}
theorem sameAt_below {W W' : World} (hb : Below W.heap.size W W') {p : MemPlace} (hp : p.block < W.heap.size) : W.sameAt W' p := by
 cases p with
 | cell b off => exact hb.cell (p := ⟨b, off, none⟩) hp
 | map b => exact hb.block b hp
theorem trodAll_carry {W W' : World} {base : Nat} {sp : Nat -> Bool} {held : Bool} : ∀ {ts : List TypeId} {vs : List Value} {ds : List (DataW H)} {ps : List MemPlace}, DataW.TrodAll enc P W base sp held ts vs ds ps -> (∀ p ∈ ps, W.sameAt W' p) -> DataW.TrodAll enc P W' base sp held ts vs ds ps
 | [], [], [], _, h, _ => h
 | _ :: _, _ :: _, _ :: _, _, ⟨p, q, ⟨n, h1⟩, h2, e⟩, hs => ⟨p, q, ⟨n, DataW.trod_carry n _ _ _ h1 fun x hx => hs x (by rw [e]; exact List.mem_append_left _ hx)⟩, trodAll_carry h2 fun x hx => hs x (by rw [e]; exact List.mem_append_right _ hx), e⟩
theorem law_post {f : Func} {s : ChangeSpec} {W W' : World} {args : Array Value} {ds : List (DataW H)} {before : List MemPlace} (K : Kids P (· < P.types.size))
 (full : ∀ t e, t < P.types.size -> P.underlying t = some (.slice e) -> 0 < P.cellsOf e) (hT : ∀ t ∈ f.params.toList, t < P.types.size) (hv : s.vars = [])
 (hW : DataW.Whole enc P f.params.toList s.vars false W args.toList ds [] before) (hA : DataW.TrodAll enc P W 0 (fun _ => true) true f.params.toList args.toList ds before)
 (hfn : s.fn H (ds ++ []) = { results := [.lit (.bool true)], args := ds }) (hr : f.resultTypes = #[4]) (hu : P.underlying 4 = some .bool) (hb : Below W.heap.size W W') :
 s.post enc P f false true false false W args (.bool true) W' := by
 have hlt : ∀ p ∈ before, p.block < W.heap.size := fun p hp => hW.lt p hp
 have hold : ∀ p ∈ before, (fun b => decide (b < W.heap.size)) p.block = true := fun p hp => by simpa using hlt p hp
 have hargs : ∀ sp : Nat -> Bool, (∀ p ∈ before, sp p.block = true) -> DataW.TrodAll enc P W' 0 sp true f.params.toList args.toList (s.fn H (ds ++ [])).args before := by
  intro sp hsp
  rw [hfn]
  exact trodAll_carry (DataW.TrodAll.respare K full hT hA hsp) fun p hp => sameAt_below hb (hlt p hp)
 have hres : ∀ (b : Nat) (sp : Nat -> Bool) (hd : Bool), DataW.TrodAll enc P W' b sp hd f.resultTypes.toList ((Value.bool true).resultList f.resultTypes.size) (s.fn H (ds ++ [])).results [] := by
  intro b sp hd
  rw [hfn, hr]
  exact trodAll_cons_mk (shut_bool hu _) trodAll_mk0
 have hvars : ∀ sp : Nat -> Bool, DataW.TrodVars enc P W' sp s.vars (s.fn H (ds ++ [])).vars [] := by
  intro sp
  rw [hfn, hv]
  rfl
 refine ⟨ds, [], before, [], before, [], hW, hres _ _ _, hargs _ hold, hvars _, World.keptBut_mono (fun p hp => ⟨hp, Or.inr (Or.inl hp)⟩) (hb.frame (· ∈ before)), fun _ => ?_⟩
 obtain ⟨_, _, _, _, _, hz, hn⟩ := hW
 refine ⟨?_, _, _, ([] ++ before) ++ [], ⟨[] ++ before, [], trodAll_append (hargs _ (fun _ _ => rfl)) (hres _ _ _), hvars _, rfl, ?_, ?_⟩, ?_⟩
 · exact ok_one hr rfl (okWide_bool_mk hu _)
 · intro b off hp
   have hin : MemPlace.cell b off ∈ before := by simpa using hp
   rw [hb.frozen (hlt _ hin)]
   exact hz b off hin
 · intro ha
   have := hn ha
   simpa using this
 · intro p hp _
   simpa using hp
theorem rd_ints {W : World} {base : Nat} {sp : Nat -> Bool} {held : Bool} {t e : TypeId} {fuel : Nat} {cs : List Value} {x : DataW H × List MemPlace} (ht : P.underlying t = some (.slice e)) (he : P.underlying e = some (.int .i64)) (hc : P.cellsOf e = 1)
 (h : DataW.trod enc P W base sp held fuel t cs = some x) :
 ∃ (ao : Option Addr) (xs : List Int) (cap : Nat), cs = [.slice ao xs.length cap] /\ Cells W ao (xs.map (Value.int .i64)) /\ xs.length <= cap /\ cap <= 9223372036854775807 /\ ∀ x ∈ xs, (Lit.int .i64 x).wf = true := by
 rcases open_ints ht he hc h with ⟨rfl, _⟩ | ⟨a, len, cap, zs, rfl, _, hl, hm, hz, _, hcell, hwf⟩
 · exact ⟨none, [], 0, rfl, .inl rfl, Nat.le_refl _, by decide, by simp⟩
 · have hzl : len <= zs.length := by rw [hz]; split <;> omega
   have htl : (zs.take len).length = len := by simp; omega
   refine ⟨some a, zs.take len, cap, by rw [htl], ?_, by omega, by unfold maxLen at hm; omega, fun x hx => hwf x (List.mem_of_mem_take hx)⟩
   rcases Nat.eq_zero_or_pos len with h0 | h0
   · subst h0; exact .inl (by simp)
   · have hsp := World.cell?_spot (hcell 0 (by omega))
     simp only [Addr.add] at hsp
     obtain ⟨b, off, spot⟩ := a
     simp at hsp
     subst hsp
     refine .inr ⟨b, off, rfl, fun j u hu => ?_⟩
     rw [List.getElem?_map] at hu
     obtain ⟨y, hy, rfl⟩ := Option.map_eq_some_iff.1 hu
     have hj : j < len := by have := (List.getElem?_eq_some_iff.1 hy).1; omega
     have := hcell j (by omega)
     rw [Addr.add_lit] at this
     rw [this]
     have hg : zs.getD j 0 = y := by
      rw [List.getElem?_take] at hy
      rw [if_pos hj] at hy
      rw [List.getD_eq_getElem?_getD, hy]; rfl
     rw [hg]
end
end Go.Proofs.YtdpjdifoonfcdaaGreatDoor

namespace Go.Proofs.YtdpjdifoonfcdaaGreatDoor
open Go.RowKit Go.WideShapes Go.ChangeShapes Go.Deep Go.Joins
section
variable {H : Type} {enc : TypeId × Value -> H} {P : Program}
def dlen : DataW H -> Nat
 | .slice elems _ => elems.length
 | _ => 0
end
end Go.Proofs.YtdpjdifoonfcdaaGreatDoor

namespace Go.Proofs.YtdpjdifoonfcdaaGreatDoor
open Go.RowKit Go.WideShapes Go.ChangeShapes Go.Deep Go.Joins
section
variable {H : Type} {enc : TypeId × Value -> H} {P : Program}
theorem rd_ints2 {W : World} {base : Nat} {sp : Nat -> Bool} {held : Bool} {t e : TypeId} {fuel : Nat} {cs : List Value} {x : DataW H × List MemPlace} (ht : P.underlying t = some (.slice e)) (he : P.underlying e = some (.int .i64)) (hc : P.cellsOf e = 1)
 (h : DataW.trod enc P W base sp held fuel t cs = some x) :
 ∃ (ao : Option Addr) (xs : List Int) (cap : Nat), cs = [.slice ao xs.length cap] /\ Cells W ao (xs.map (Value.int .i64)) /\ xs.length <= cap /\ cap <= 9223372036854775807 /\ (∀ x ∈ xs, (Lit.int .i64 x).wf = true) /\ xs.length <= dlen x.1 /\ (ao = none -> cap = 0) := by
 obtain ⟨a0, xs0, c0, h1, h2, h3, h4, h5⟩ := rd_ints ht he hc h
 refine ⟨a0, xs0, c0, h1, h2, h3, h4, h5, ?_⟩
 rcases open_ints ht he hc h with ⟨rfl, _⟩ | ⟨a, len, cap, zs, rfl, _, hl, hm, hz, hx, hcell, hwf⟩
 · simp only [List.cons.injEq, Value.slice.injEq, and_true] at h1
   obtain ⟨rfl, h6, rfl⟩ := h1
   exact ⟨by omega, fun _ => rfl⟩
 · simp only [List.cons.injEq, Value.slice.injEq, and_true] at h1
   obtain ⟨rfl, h6, rfl⟩ := h1
   have hzl : len <= zs.length := by rw [hz]; split <;> omega
   refine ⟨?_, fun h => by cases h⟩
   rw [hx]
   simp [dlen, lits]
   omega
end
theorem pow10_data : (Rows.laid_internal_strconv_uint64pow10 : DataW Unit) = Lib.tabData .u64 Lib.pow10Tab := rfl
theorem pow10_global : Tryz.prog.globalNamed "internal/strconv.uint64pow10" = some 3 := by kernel_rfl
theorem pow10_type : (Tryz.prog.globals[3]?).map (·.type) = some 430 := by kernel_rfl
theorem tab_of_laid {W : World} (h : laidMet Tryz.prog [("math/bits.deBruijn32tab", Rows.laid_math_bits_deBruijn32tab), ("math/bits.deBruijn64tab", Rows.laid_math_bits_deBruijn64tab), ("internal/strconv.uint64pow10", Rows.laid_internal_strconv_uint64pow10)] W) : Tab W := by
 obtain ⟨_, ⟨_, _, _, _, _, _, _, _, _, _, ⟨_, _, _, _, _, _, _, _, _, _, ⟨g', t', cs, fuel, p, q, hg', ht', hvar, hd, _, _⟩, _⟩, _⟩, _⟩ := h
 obtain rfl := Option.some.inj (pow10_global.symm.trans hg')
 obtain rfl := Option.some.inj (pow10_type.symm.trans ht')
 unfold Tab Lib.TabIs
 rw [hvar]
 rw [pow10_data] at hd
 rw [<- Lib.cells_of_tab Tryz.underlying430 Tryz.underlying208 (by kernel_rfl) (by kernel_rfl) hd]
end Go.Proofs.YtdpjdifoonfcdaaGreatDoor

namespace Go.Proofs.YtdpjdifoonfcdaaGreatDoor
open Go.RowKit
set_option maxRecDepth 100000 in
theorem negative_any (v : Value) (s : Bool) (n d : Nat) (w : World) (hv : RatV w v s n d) :
 Calls Tryz.prog 163 #[v] w (RatRes (!s && decide (n ≠ 0)) n d w) := by
 obtain ⟨a, c, a2, c2, rfl, h1, h2⟩ := hv.slices
 have hb : Below w.heap.size w ((w.alloc (.cells #[.bool s, .slice a (dig n).length c, .slice a2 (dig d).length c2] 146)).alloc (.cells #[.bool (!s && decide (n ≠ 0)), .slice a (dig n).length c, .slice a2 (dig d).length c2] 146)) := ((Below.refl _ _).alloc (Nat.le_refl _) _).alloc (by simp) _
 have hfin : RatRes (!s && decide (n ≠ 0)) n d w (.returned (.agg #[.bool (!s && decide (n ≠ 0)), .slice a (dig n).length c, .slice a2 (dig d).length c2])) ((w.alloc (.cells #[.bool s, .slice a (dig n).length c, .slice a2 (dig d).length c2] 146)).alloc (.cells #[.bool (!s && decide (n ≠ 0)), .slice a (dig n).length c, .slice a2 (dig d).length c2] 146)) :=
  ⟨⟨_, rfl, _, _, rfl, h1.below hb (Nat.le_refl _), h2.below hb (Nat.le_refl _)⟩, hb⟩
 have hln := dig_len_pos (n := n)
 cases s
 · by_cases h0 : n = 0
   · have e : (!false && decide (n ≠ 0)) = false := by simp [h0]
     rw [e] at hfin ⊢
     have hl : (dig n).length = 0 := hln.2 h0
     have hl2 : decide (0 < (dig n).length) = false := by rw [hl]; rfl
     have HF := Lib.hid hfin
     clear hfin hv h1 h2 hb hln h0 hl e
     generalize (dig n).length = k at *
     go_enter Tryz.func163, Tryz.ntmps163
     go_wp2
     exact bodyPost_ret (v := .agg #[.bool false, .slice a k c, .slice a2 (dig d).length c2]) (by simp [results, Tryz.results163, go_sem]) rfl HF.out
   · have e : (!false && decide (n ≠ 0)) = true := by simp [h0]
     rw [e] at hfin ⊢
     have hl : decide (0 < (dig n).length) = true := by have := mt hln.1 h0; rw [decide_eq_true_iff]; omega
     have HF := Lib.hid hfin
     clear hfin hv h1 h2 hb hln h0 e
     generalize (dig n).length = k at *
     go_enter Tryz.func163, Tryz.ntmps163
     go_wp2
     exact bodyPost_ret (v := .agg #[.bool true, .slice a k c, .slice a2 (dig d).length c2]) (by simp [results, Tryz.results163, go_sem]) rfl HF.out
 · have e : (!true && decide (n ≠ 0)) = false := rfl
   rw [e] at hfin ⊢
   have HF := Lib.hid hfin
   clear hfin hv h1 h2 hb hln e
   go_enter Tryz.func163, Tryz.ntmps163
   go_wp2
   exact bodyPost_ret (v := .agg #[.bool false, .slice a (dig n).length c, .slice a2 (dig d).length c2]) (by simp [results, Tryz.results163, go_sem]) rfl HF.out
end Go.Proofs.YtdpjdifoonfcdaaGreatDoor

namespace Go.Proofs.YtdpjdifoonfcdaaGreatDoor
open Go.RowKit Go.WideShapes Go.ChangeShapes Go.Deep Go.Joins
section
variable {H : Type} {enc : TypeId × Value -> H} {P : Program} {w : World} {base : Nat} {spare : Nat -> Bool} {held : Bool}
theorem trod_pair {c i : TypeId} {g0 g1 : Field} {n : Nat} {a b : Value} {x : DataW H × List MemPlace} (hc : P.underlying c = some (.struct #[g0, g1])) (k0 : g0.type = i /\ g0.offset = 0) (k1 : g1.type = i /\ g1.offset = 1) (ci : P.cellsOf i = 1) (hi : P.underlying i = some (.int .i64))
 (h : DataW.trod enc P w base spare held n c [a, b] = some x) : ∃ p q : Int, a = .int .i64 p /\ b = .int .i64 q := by
 obtain ⟨y0, y1, m, _, _, h0, h1⟩ := trod_struct2 hc h
 rw [k0.1, k0.2, ci] at h0
 rw [k1.1, k1.2, ci] at h1
 obtain ⟨p, e0, _, _⟩ := DataW.trod_int hi (show DataW.trod enc P w base spare held m i [a] = some y0 from h0)
 obtain ⟨q, e1, _, _⟩ := DataW.trod_int hi (show DataW.trod enc P w base spare held m i [b] = some y1 from h1)
 simp only [List.cons.injEq, and_true] at e0 e1
 exact ⟨p, q, e0, e1⟩
end
end Go.Proofs.YtdpjdifoonfcdaaGreatDoor

namespace Go.Proofs.YtdpjdifoonfcdaaGreatDoor
open Go.RowKit Go.Shelf
theorem own_ne3 {w : World} {b1 b2 : Nat} {e1 e2 : TypeId} {s1 s2 n1 n2 : Nat} {v1 v2 : Value} {x1 x2 : List Value} (h1 : w.ownsRow b1 e1 s1 v1 n1 x1) (h2 : w.ownsRow b2 e2 s2 v2 n2 x2) (he : e1 ≠ e2) : v1.ownBlock = none ∨ v1.ownBlock ≠ v2.ownBlock := by
 rcases h1.2 with ⟨rfl, _⟩ | ⟨g, cap, cur, rfl, _, hg, _⟩
 · exact .inl rfl
 · right
   intro hv
   replace hv := hv.symm
   rcases h2.2 with ⟨rfl, _⟩ | ⟨g', cap', cur', rfl, _, hg', _⟩
   · simp [Value.ownBlock] at hv
   · simp [Value.ownBlock] at hv
     subst hv
     rw [hg'] at hg
     simp at hg
     exact he hg.2.symm
structure Fts (B1 B2 B3 BF BP n0 : Nat) (fam : Array Value) (C : Addr) (vp vm : Value) (P : List (Int × Int)) (M : List Int) (i : Int) (W : World) : Prop where
 bp : Blk W B1 58 #[vp]
 rp : W.ownsRow n0 182 2 vp P.length (prs P)
 bm : Blk W B2 24 #[vm]
 rm : W.ownsRow n0 3 1 vm M.length (M.map (Value.int .i64))
 bi : Blk W B3 3 #[.int .i64 i]
 bf : Blk W BF 43 fam
 bc : Blk W BP 149 #[.pointer (some C)]
theorem Fts.below {B1 B2 B3 BF BP n0 : Nat} {fam : Array Value} {C : Addr} {vp vm : Value} {P : List (Int × Int)} {M : List Int} {i : Int} {W W' : World} (h : Fts B1 B2 B3 BF BP n0 fam C vp vm P M i W) (hb : Below W.heap.size W W') : Fts B1 B2 B3 BF BP n0 fam C vp vm P M i W' :=
 ⟨h.bp.below hb h.bp.lt, own_belowK h.rp hb (Nat.le_refl _), h.bm.below hb h.bm.lt, own_belowK h.rm hb (Nat.le_refl _), h.bi.below hb h.bi.lt, h.bf.below hb h.bf.lt, h.bc.below hb h.bc.lt⟩
end Go.Proofs.YtdpjdifoonfcdaaGreatDoor

namespace Go.Proofs.YtdpjdifoonfcdaaGreatDoor
open Go.RowKit
def nrmV (L p q : Int) : Int := if waveOK L p q then ovl (wav L p q) (wav L p q) L 0 else 0
set_option maxRecDepth 100000 in
set_option maxHeartbeats 2000000 in
theorem Norm_any (L p q : Int) (w : World) :
 Calls Tryz.prog 24 #[.int .i64 L, .agg #[.int .i64 p, .int .i64 q]] w fun e w' => e = .returned (.tuple #[.int .i64 (nrmV L p q), .int .i64 (wavE L p q)]) /\ Below w.heap.size w w' := by
 have hw := fun w => wave_any L p q w
 obtain ⟨Z, hZ⟩ : ∃ Z, Z = shp 0 (smp 0 0 0) := ⟨_, rfl⟩
 have z : Tryz.zeroCells129 = Z := by rw [hZ]; exact zero101
 have hZs : Z.size = 65 := by rw [hZ, shp_size, smp_length]
 have hst := store_shape (waveV L p q) Z (waveV_size L p q) hZs (waveV_one L p q)
 have hs1 := waveV_size L p q
 have hnn : waveOK L p q = true -> ∀ w, Calls Tryz.prog 81 #[.agg (waveV L p q)] w fun e w' => e = .returned (.int .i64 (nrmV L p q)) /\ Below w.heap.size w w' := by
  intro h w
  have hL := waveOK_true h
  have := norm_any L (wav L p q) w (wav_length _ _ _) (by omega) (by omega) (wav_bd _ _ _)
  have e1 : waveV L p q = shp L (wav L p q) := by simp [waveV, h]
  have e2 : nrmV L p q = ovl (wav L p q) (wav L p q) L 0 := by simp [nrmV, h]
  rw [e1, e2]; exact this
 have hE : wavE L p q = if waveOK L p q then 0 else 70 := rfl
 have hV0 : waveOK L p q = false -> nrmV L p q = 0 := fun h => by simp [nrmV, h]
 generalize waveV L p q = V at *
 generalize nrmV L p q = N at *
 generalize wavE L p q = E at *
 have hne : ¬ V = #[] := by intro h; rw [h] at hs1; simp at hs1
 have hi : (Tryz.prog.info? 129).map (·.size) = some V.size := by rw [hs1]; kernel_rfl
 have HI := Lib.hid hi
 have HW := Lib.hid hw; clear hw hZ hi
 cases h : waveOK L p q
 · have HE : Hid (E = 70) := by rw [hE, h]; exact Lib.hid rfl
   have HV : Hid (N = 0) := Lib.hid (hV0 h)
   rw [h] at HW
   clear hE h hV0 hnn
   go_enter Tryz.func24, Tryz.ntmps24
   go_wp2_with (go_at_call 63; refine (HW.out _).mono ?_; rintro e w1 ⟨rfl, hb1⟩)
   have g1 := ((Below.refl w.heap.size w).alloc (Nat.le_refl _) _).trans (hb1.mono (by simp))
   go_ret2
   exact ⟨by rw [HE.out, HV.out]; rfl, g1.alloc g1.size _⟩
 · have HE : Hid (E = 0) := by rw [hE, h]; exact Lib.hid rfl
   have HN := Lib.hid (hnn h)
   rw [h] at HW
   clear hE h hV0 hnn
   go_enter Tryz.func24, Tryz.ntmps24
   go_wp2_with fail
   refine (HW.out _).mono ?_
   rintro e w1 ⟨rfl, hb1⟩
   have g1 := ((Below.refl w.heap.size w).alloc (Nat.le_refl _) _).trans (hb1.mono (by simp))
   have g2 : Below w.heap.size w (w1.alloc (.cells V 129)) := g1.alloc g1.size _
   go_wp2_with (first
    | (refine wpList_load_row (by rfl) 129 _ (by rfl) w1.heap.size (by rfl) _ V _ _ (heap_alloc_new _ _) Tryz.underlying129 (by rfl) HI.out ?_)
    | (go_at_call 81; refine (HN.out _).mono ?_; rintro e w2 ⟨rfl, hb2⟩))
   go_ret2
   exact ⟨by rw [HE.out]; rfl, g2.trans (hb2.mono g2.size)⟩
end Go.Proofs.YtdpjdifoonfcdaaGreatDoor
