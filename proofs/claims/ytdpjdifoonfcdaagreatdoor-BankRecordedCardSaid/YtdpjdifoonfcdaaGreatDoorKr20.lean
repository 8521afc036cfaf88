/- Parts of a proof, in build order: Dd, De, Df, XR, Dm, P3. -/
import Derived.Test.YtdpjdifoonfcdaaGreatDoorKr14
import Derived.Test.YtdpjdifoonfcdaaGreatDoorKr19
import Derived.Deep.RegionHeld3

namespace Go.Proofs.YtdpjdifoonfcdaaGreatDoor
open Go.RowKit
def TKeep (P : TypeId -> Prop) (w w' : World) : Prop := w.heap.size <= w'.heap.size /\ ∀ k T cs, P T -> Blk w k T cs -> Blk w' k T cs
theorem TKeep.refl (P : TypeId -> Prop) (w : World) : TKeep P w w := ⟨Nat.le_refl _, fun _ _ _ _ h => h⟩
theorem TKeep.trans {P : TypeId -> Prop} {a b c : World} (h : TKeep P a b) (k : TKeep P b c) : TKeep P a c := ⟨Nat.le_trans h.1 k.1, fun i T cs hp hb => k.2 i T cs hp (h.2 i T cs hp hb)⟩
theorem TKeep.of_grown {P : TypeId -> Prop} {w w' : World} {row : Option Nat} (hg : w.grownBy w' row) (hr : ∀ k, row = some k -> ∃ T cs, Blk w k T cs /\ ¬ P T) : TKeep P w w' := by
 refine ⟨hg.size, fun k T cs hp hb => hb.kept hg (fun e => ?_)⟩
 obtain ⟨T', cs', hb', hn⟩ := hr k e.symm
 have h1 : w.heap[k]? = _ := hb
 have h2 : w.heap[k]? = _ := hb'
 rw [h1] at h2
 simp at h2
 exact hn (by rw [<- h2.2]; exact hp)
theorem TKeep.of_own {P : TypeId -> Prop} {w w' : World} {b : Nat} {T : TypeId} {s n : Nat} {v : Value} {xs : List Value} (ho : w.ownsRow b T s v n xs) (hg : w.grownBy w' v.ownBlock) (hn : ¬ P T) : TKeep P w w' :=
 .of_grown hg (fun k e => by obtain ⟨cs, hb⟩ := own_type ho e; exact ⟨T, cs, hb, hn⟩)
theorem TKeep.of_below {P : TypeId -> Prop} {w w' : World} (hb : Below w.heap.size w w') : TKeep P w w' := ⟨hb.size, fun _ _ _ _ h => h.below hb h.lt⟩
theorem TKeep.own {P : TypeId -> Prop} {w w' : World} {b : Nat} {T : TypeId} {s n : Nat} {v : Value} {xs : List Value} (h : TKeep P w w') (hp : P T) (ho : w.ownsRow b T s v n xs) : w'.ownsRow b T s v n xs := by
 refine ⟨ho.1, ?_⟩
 rcases ho.2 with hn | ⟨g, cap, cur, rfl, hb, hg, rest⟩
 · exact .inl hn
 · exact .inr ⟨g, cap, cur, rfl, hb, h.2 g T cur hp hg, rest⟩
theorem TKeep.frO {P : TypeId -> Prop} {w w' : World} {b : Nat} {v : Value} {xss : List (List Int)} (h : TKeep P w w') (h1 : P 3) (h2 : P 24) (hf : FrO b w v xss) : FrO b w' v xss := by
 obtain ⟨vs, e1, e2, e3⟩ := hf
 exact ⟨vs, e1, h.own h2 e2, fun i x xs hx hxs => h.own h1 (e3 i x xs hx hxs)⟩
theorem TKeep.frsO {P : TypeId -> Prop} {w w' : World} {b : Nat} {v : Value} {l : List Frm} (h : TKeep P w w') (h1 : P 3) (h2 : P 24) (h3 : P 108) (hf : FrsO b w v l) : FrsO b w' v l :=
 ⟨h.own h3 hf.1, fun f hm => h.frO h1 h2 (hf.2 f hm)⟩
def SpT (T : TypeId) : Prop := T = 287 ∨ T = 112
def NSpT (T : TypeId) : Prop := ¬ SpT T
theorem joinS_snoc (ss : List (Int × Int)) (p : Int × Int) (i : Nat) : joinS (ss ++ [p]) i = if p.2 = (i : Int) then ss ++ [(p.1, (i : Int) + 1)] else ss ++ [p] ++ [((i : Int), (i : Int) + 1)] := by
 unfold joinS; simp
theorem prs_last (ss : List (Int × Int)) (p : Int × Int) (u : Int) : (prs (ss ++ [p])).set (ss.length * 2 + 1) (.int .i64 u) = prs (ss ++ [(p.1, u)]) := by
 rw [prs_append, prs_append, List.set_append_right _ _ (by rw [prs_length]; omega), prs_length, show ss.length * 2 + 1 - ss.length * 2 = 1 from by omega]
 rfl
set_option maxRecDepth 100000 in
set_option maxHeartbeats 1000000 in
theorem spans1_any (base bO : Nat) (hO : base <= bO) (i : Nat) (ss : List (Int × Int)) (v : Value) (w : World) (hi : i <= 1099511627776) (hl : ss.length <= 1099511627776) (hb : Blk w bO 112 #[v]) (ho : w.ownsRow base 287 2 v ss.length (prs ss)) :
 Calls Tryz.prog 188 #[.int .i64 (i : Nat), .pointer (some ⟨bO, 0, none⟩)] w fun e w' => e = .returned (.tuple #[]) /\ (∃ v', Blk w' bO 112 #[v'] /\ w'.ownsRow base 287 2 v' (joinS ss i).length (prs (joinS ss i))) /\ Below base w w' /\ TKeep NSpT w w' := by
 have hsz : base <= w.heap.size := by have := hb.lt; omega
 have c1 := hb.c0
 have f1 := hb.free 0
 obtain ⟨i0, hi0, hz0, hz1, hz2⟩ := info_parts Tryz.infoSpan
 have HB := Lib.hid hb; have HO := Lib.hid ho
 have happ : ∀ (gg cp : Nat) (wz : World), (w.alloc (.cells #[.int .i64 i, .int .i64 ((i : Int) + 1)] 287)).grownBy wz v.ownBlock -> wz.ownsRow base 287 2 (.slice (some ⟨gg, 0, none⟩) (ss.length + 1) cp) (ss.length + 1) (prs ss ++ [.int .i64 i, .int .i64 ((i : Int) + 1)]) ->
  wz.cell? ⟨bO, 0, none⟩ = some v /\ wz.frozen? ⟨bO, 0, none⟩ = false /\ Blk (wz.setCell ⟨bO, 0, none⟩ (.slice (some ⟨gg, 0, none⟩) (ss.length + 1) cp)) bO 112 #[.slice (some ⟨gg, 0, none⟩) (ss.length + 1) cp] /\ (wz.setCell ⟨bO, 0, none⟩ (.slice (some ⟨gg, 0, none⟩) (ss.length + 1) cp)).ownsRow base 287 2 (.slice (some ⟨gg, 0, none⟩) (ss.length + 1) cp) (ss ++ [((i : Int), (i : Int) + 1)]).length (prs (ss ++ [((i : Int), (i : Int) + 1)])) /\
  Below base w (wz.setCell ⟨bO, 0, none⟩ (.slice (some ⟨gg, 0, none⟩) (ss.length + 1) cp)) /\ TKeep NSpT w (wz.setCell ⟨bO, 0, none⟩ (.slice (some ⟨gg, 0, none⟩) (ss.length + 1) cp)) := by
  intro gg cp wz hg hown
  have k2 := (HB.out.alloc (.cells #[.int .i64 i, .int .i64 ((i : Int) + 1)] 287)).kept hg (fun e => blk_own_ne HB.out HO.out (by decide) e.symm)
  have t2 := blk_own_ne k2 hown (by decide)
  have ha := World.grownBy_alloc w (.cells #[.int .i64 i, .int .i64 ((i : Int) + 1)] 287)
  refine ⟨k2.c0, k2.free 0, k2.set0 _, ?_, ?_, ?_⟩
  · rw [List.length_append, prs_append]; exact own_set_other hown t2
  · exact (((Below.refl base w).alloc hsz (.cells #[.int .i64 i, .int .i64 ((i : Int) + 1)] 287)).grown hg (by simp; omega) (fun j e => (HO.out.lt j e).1)).setCell (p := ⟨bO, 0, none⟩) hO _
  · refine ((TKeep.of_grown (ha none) (fun k e => by simp at e)).trans (TKeep.of_own (HO.out.alloc _) hg (by simp [NSpT, SpT]))).trans (TKeep.of_grown (grown_set wz ⟨bO, 0, none⟩ _) (fun k e => ?_))
    obtain rfl : bO = k := by simpa using e
    exact ⟨_, _, k2, by simp [NSpT, SpT]⟩
 have HAPP := Lib.hid happ
 clear hb ho happ
 rcases List.eq_nil_or_concat ss with rfl | ⟨ss', p, rfl⟩
 · have HJ : Hid (joinS [] i = [((i : Int), (i : Int) + 1)]) := Lib.hid rfl
   obtain ⟨va, vc, rfl, -⟩ := own_cells HO.out
   have hlw : (([] : List (Int × Int)).length : Int) - 1 = -1 := rfl
   go_enter Tryz.func188, Tryz.ntmps188
   go_wp2_with (at_builtin; refine wpList_append_lies _ rfl _ _ _ rfl base 287 i0 (.agg #[.int .i64 0, .int .i64 0]) 2 16 Tryz.underlying112 hi0 hz0 hz1 hz2 rfl (by decide) (.slice va 0 vc) 0 (prs []) rfl (HO.out.alloc _) ⟨w.heap.size, 0, none⟩ 1 1 [.int .i64 (i : Nat), .int .i64 ((i : Int) + 1)] rfl rfl (World.news_of_block (cs := #[.int .i64 (i : Nat), .int .i64 ((i : Int) + 1)]) (t := 287) (fr := (0, 0)) (heap_alloc_new w _)) (by simp [Value.oneCell']) (by omega) (by unfold maxLen; omega) (by omega) (by simp; omega) (w.heap.size + 1) (by simp) ?_)
   intro gg cp wz hown1 hgrow hat hlt1
   obtain ⟨z2, g2, y1, y2, y3, y4⟩ := HAPP.out gg cp wz hgrow hown1
   have Y1 := Lib.hid y1; have Y2 := Lib.hid y2; have Y4 := Lib.hid y4
   clear hown1 hgrow hat hlt1 y1 y2 y4
   go_wp2
   go_end0
   exact ⟨rfl, ⟨_, Y1.out, Y2.out⟩, y3, Y4.out⟩
 · rw [List.concat_eq_append] at *
   have hlen : (ss' ++ [p]).length = ss'.length + 1 := by simp
   obtain ⟨g, vc, rfl, -, -⟩ := HO.out.form (by omega)
   rw [hlen] at HO HAPP c1 HB hl
   have hcl : w.cell? ⟨g, ss'.length * 2 + 1, none⟩ = some (.int .i64 p.2) := by
    rw [HO.out.cellAt (ss'.length * 2 + 1) (by omega), prs_snd (i := ss'.length) (t := p) (by simp)]
   have hfl := HO.out.frozenAt (ss'.length * 2 + 1)
   have q1 : IntKind.i64.wrap ((ss'.length : Int) + 1 - 1) = (ss'.length : Int) := by rw [IntWalk.i64_in _ (by omega)]; omega
   have q2 : IntKind.i64.wrap (ss'.length : Int) = (ss'.length : Int) := IntWalk.i64_in _ (by omega)
   have q3 : (0 : Int) <= ss'.length := by omega
   have q4 : (ss'.length : Int) < (ss'.length : Int) + 1 := by omega
   by_cases hp : p.2 = (i : Int)
   · have hj : joinS (ss' ++ [p]) i = ss' ++ [(p.1, (i : Int) + 1)] := by rw [joinS_snoc, if_pos hp]
     have hsto := HO.out.stored (ss'.length * 2 + 1) (.int .i64 ((i : Int) + 1))
     rw [prs_last] at hsto
     obtain ⟨cur, hcur⟩ := own_type HO.out (k := g) rfl
     have hne := blk_own_ne HB.out HO.out (by decide)
     have hbk := HB.out.other (B' := g) (by intro e; exact hne (by rw [e]; rfl)) (ss'.length * 2 + 1) (.int .i64 ((i : Int) + 1))
     have hlt := HO.out.lt g rfl
     have hbl : Below base w (w.setCell ⟨g, ss'.length * 2 + 1, none⟩ (.int .i64 ((i : Int) + 1))) := (Below.refl base w).setCell hlt.1 _
     have htk : TKeep NSpT w (w.setCell ⟨g, ss'.length * 2 + 1, none⟩ (.int .i64 ((i : Int) + 1))) := TKeep.of_grown hsto.2 (fun k e => by
      obtain rfl : g = k := by simpa using e
      exact ⟨_, _, hcur, by simp [NSpT, SpT]⟩)
     have HJ := Lib.hid hj; have HST := Lib.hid hsto.1; have HBK := Lib.hid hbk; have HTK := Lib.hid htk
     rw [hp] at hcl
     clear hj hsto hcur hne hbk htk hlt HAPP
     go_enter Tryz.func188, Tryz.ntmps188
     go_wp2_with fail
     refine bodyPost_ret (results_none rfl _ _ _) rfl ?_
     refine ⟨rfl, ⟨_, HBK.out, ?_⟩, hbl, HTK.out⟩
     rw [HJ.out, List.length_append]; exact HST.out
   · have hj : joinS (ss' ++ [p]) i = ss' ++ [p] ++ [((i : Int), (i : Int) + 1)] := by rw [joinS_snoc, if_neg hp]
     have HJ := Lib.hid hj
     have hpb : (p.2 == (i : Int)) = false := by rw [beq_eq_false_iff_ne]; exact hp
     clear hj
     go_enter Tryz.func188, Tryz.ntmps188
     go_wp2_with (at_builtin; refine wpList_append_lies _ rfl _ _ _ rfl base 287 i0 (.agg #[.int .i64 0, .int .i64 0]) 2 16 Tryz.underlying112 hi0 hz0 hz1 hz2 rfl (by decide) (.slice (some ⟨g, 0, none⟩) (ss'.length + 1) vc) (ss'.length + 1) (prs (ss' ++ [p])) rfl (HO.out.alloc _) ⟨w.heap.size, 0, none⟩ 1 1 [.int .i64 (i : Nat), .int .i64 ((i : Int) + 1)] rfl rfl (World.news_of_block (cs := #[.int .i64 (i : Nat), .int .i64 ((i : Int) + 1)]) (t := 287) (fr := (0, 0)) (heap_alloc_new w _)) (by simp [Value.oneCell']) (by omega) (by unfold maxLen; omega) (by omega) (by simp; omega) (w.heap.size + 1) (by simp) ?_)
     intro gg cp wz hown1 hgrow hat hlt1
     obtain ⟨z2, g2, y1, y2, y3, y4⟩ := HAPP.out gg cp wz hgrow hown1
     have Y1 := Lib.hid y1; have Y2 := Lib.hid y2; have Y4 := Lib.hid y4
     clear hown1 hgrow hat hlt1 y1 y2 y4 hcl hfl
     go_wp2
     go_end0
     exact ⟨rfl, ⟨_, Y1.out, by rw [HJ.out]; exact Y2.out⟩, y3, Y4.out⟩
def lostP (p : Nat -> Bool) : Nat -> List (Int × Int)
 | 0 => []
 | i + 1 => if p i then joinS (lostP p i) i else lostP p i
theorem lostP_length (p : Nat -> Bool) (i : Nat) : (lostP p i).length <= i := by
 induction i with
 | zero => simp [lostP]
 | succ i ih =>
   rw [lostP]
   split
   · have := joinS_length (lostP p i) i; omega
   · omega
set_option maxRecDepth 100000 in
set_option maxHeartbeats 1000000 in
theorem spans_any (F : FuncId) (capd : Array Value) (p : Nat -> Bool) (J : Nat -> World -> Prop) (n : Nat) (w : World) (hn : n <= 1099511627776)
 (hcf : ∀ (vs : Array Value) (wx : World), Sem.run Tryz.prog (callFunc F vs) wx = .ok (.enter F vs) wx)
 (hJ0 : J 0 w)
 (hJk : ∀ i wx wy, J i wx -> w.heap.size <= wx.heap.size -> Below w.heap.size wx wy -> TKeep NSpT wx wy -> J i wy)
 (hF : ∀ i wx, i < n -> J i wx -> Calls Tryz.prog F (#[.int .i64 (i : Nat)] ++ capd) wx fun e w' => e = .returned (.bool (p i)) /\ J (i + 1) w' /\ TKeep SpT wx w') :
 Calls Tryz.prog 117 #[.int .i64 0, .int .i64 (n : Nat), .func (.func F) #[] capd] w fun e w' => (∃ v, e = .returned v /\ w'.ownsRow w.heap.size 287 2 v (lostP p n).length (prs (lostP p n))) /\ J n w' /\ w.heap.size <= w'.heap.size := by
 have HJ0 := Lib.hid hJ0; have HJK := Lib.hid hJk; have HF := Lib.hid hF
 have hb0 := Blk.new w 112 #[.slice none 0 0]
 have hj1 := hJk 0 w (w.alloc (.cells #[.slice none 0 0] 112)) hJ0 (Nat.le_refl _) ((Below.refl _ _).alloc (Nat.le_refl _) _) (TKeep.of_grown (World.grownBy_alloc w _ none) (fun k e => by simp at e))
 have HB0 := Lib.hid hb0; have HJ1 := Lib.hid hj1
 clear hJ0 hJk hF hb0 hj1
 go_enter Tryz.func117, Tryz.ntmps117
 go_wp2_with fail
 go_loopw [9] (fun i wr => ∃ k : Nat, k <= n /\ i = .int .i64 k /\ J k wr /\ w.heap.size < wr.heap.size /\ ∃ v, Blk wr w.heap.size 112 #[v] /\ wr.ownsRow w.heap.size 287 2 v (lostP p k).length (prs (lostP p k))) (fun i _ => n - (intOf i).toNat)
 case atStart => exact ⟨0, Nat.zero_le _, rfl, HJ1.out, by simp, _, HB0.out, World.ownsRow_nil _ _ _ _⟩
 case round =>
  clear HJ1 HB0
  obtain ⟨k, hk, rfl, hj, hz, v, hb, ho⟩ := hrel
  have HB := Lib.hid hb; have HO := Lib.hid ho
  by_cases hlt : k < n
  · have hf := HF.out k wr hlt hj
    have HFK := Lib.hid hf
    have hll := lostP_length p k
    clear hf hj hb ho
    go_wp2_with fail
    refine HFK.out.mono ?_
    rintro e w1 ⟨rfl, hj1, htk⟩
    have hb1 := htk.2 _ _ _ (.inr rfl) HB.out
    have ho1 := htk.own (.inl rfl) HO.out
    have hz1 := htk.1
    cases hp : p k with
    | false =>
      have HJ1 := Lib.hid hj1; have HB1 := Lib.hid hb1; have HO1 := Lib.hid ho1
      have HL : Hid (lostP p (k + 1) = lostP p k) := Lib.hid (by rw [lostP, hp]; rfl)
      clear hj1 hb1 ho1 htk hp
      go_wp2
      go_roundw
      case rel => exact ⟨k + 1, by omega, by go_num, HJ1.out, by omega, v, HB1.out, by rw [HL.out]; exact HO1.out⟩
      case measure => simp [intOf]; omega
    | true =>
      have HJ1 := Lib.hid hj1
      have HL : Hid (lostP p (k + 1) = joinS (lostP p k) k) := Lib.hid (by rw [lostP, hp]; rfl)
      have hs := spans1_any w.heap.size w.heap.size (Nat.le_refl _) k (lostP p k) v w1 (by omega) (by omega) hb1 ho1
      have HS := Lib.hid hs
      clear hj1 hb1 ho1 htk hp hs
      go_wp2_with fail
      refine HS.out.mono ?_
      rintro e w2 ⟨rfl, ⟨v', hb2, ho2⟩, hbe, htk⟩
      have hj2 := HJK.out (k + 1) w1 w2 HJ1.out (by omega) hbe htk
      have hz2 := htk.1
      have HJ2 := Lib.hid hj2; have HB2 := Lib.hid hb2; have HO2 := Lib.hid ho2
      clear hj2 hb2 ho2 htk hbe
      go_wp2
      go_roundw
      case rel => exact ⟨k + 1, by omega, by go_num, HJ2.out, by omega, v', HB2.out, by rw [HL.out]; exact HO2.out⟩
      case measure => simp [intOf]; omega
  · obtain rfl : k = n := by omega
    have c0 := hb.c0
    have HJ := Lib.hid hj
    clear hj hb ho
    go_wp2
    go_ret
    exact ⟨⟨v, rfl, HO.out⟩, HJ.out, by omega⟩
end Go.Proofs.YtdpjdifoonfcdaaGreatDoor

namespace Go.Proofs.YtdpjdifoonfcdaaGreatDoor
open Go.RowKit
structure SalJ (w0 : World) (ao : Option Addr) (bs : List Chan) (cap : Nat) (ac : Option Addr) (l : List Nat) (cc : Nat) (N M : Nat) (i : Nat) (wr : World) : Prop where
 below : Below w0.heap.size w0 wr
 bk : Blk wr N 105 #[.slice ao bs.length cap]
 cd : Blk wr (N + 1) 109 #[.slice ac l.length cc]
 bh : Blk wr M 3 #[.int .i64 ((salTo bs l i).2 : Nat)]
 bt : Blk wr (M + 1) 3 #[.int .i64 (lastR (salTo bs l i).1)]
 fr : ∃ v fs, fs.map frm = (salTo bs l i).1 /\ Blk wr (N + 2) 106 #[v] /\ FrsO (M + 2) wr v fs
theorem SalJ.keep {w0 : World} {ao : Option Addr} {bs : List Chan} {cap : Nat} {ac : Option Addr} {l : List Nat} {cc N M i : Nat} {wx wy : World} (h : SalJ w0 ao bs cap ac l cc N M i wx) (hb : Below w0.heap.size wx wy) (hk : TKeep NSpT wx wy) : SalJ w0 ao bs cap ac l cc N M i wy := by
 obtain ⟨v, fs, e1, e2, e3⟩ := h.fr
 exact ⟨h.below.trans hb, hk.2 _ _ _ (by simp [NSpT, SpT]) h.bk, hk.2 _ _ _ (by simp [NSpT, SpT]) h.cd, hk.2 _ _ _ (by simp [NSpT, SpT]) h.bh, hk.2 _ _ _ (by simp [NSpT, SpT]) h.bt,
  v, fs, e1, hk.2 _ _ _ (by simp [NSpT, SpT]) e2, hk.frsO (by simp [NSpT, SpT]) (by simp [NSpT, SpT]) (by simp [NSpT, SpT]) e3⟩
theorem SalJ.next {w0 : World} {ao : Option Addr} {bs : List Chan} {cap : Nat} {ac : Option Addr} {l : List Nat} {cc N M i : Nat} {wx : World} (h : SalJ w0 ao bs cap ac l cc N M i wx) (he : salTo bs l (i + 1) = salTo bs l i) : SalJ w0 ao bs cap ac l cc N M (i + 1) wx := by
 obtain ⟨h1, h2, h3, h4, h5, h6⟩ := h
 exact ⟨h1, h2, h3, by rw [he]; exact h4, by rw [he]; exact h5, by rw [he]; exact h6⟩
theorem SalJ.bel {w0 : World} {ao : Option Addr} {bs : List Chan} {cap : Nat} {ac : Option Addr} {l : List Nat} {cc N M i : Nat} {wx wy : World} (h : SalJ w0 ao bs cap ac l cc N M i wx) (hb : Below wx.heap.size wx wy) : SalJ w0 ao bs cap ac l cc N M i wy := by
 obtain ⟨v, fs, e1, e2, e3⟩ := h.fr
 exact ⟨h.below.trans (hb.mono h.below.size), h.bk.below hb h.bk.lt, h.cd.below hb h.cd.lt, h.bh.below hb h.bh.lt, h.bt.below hb h.bt.lt, v, fs, e1, e2.below hb e2.lt, e3.below hb⟩
theorem FrsO.kept_lt {base k : Nat} {w w' : World} {v : Value} {l : List Frm} (h : FrsO base w v l) (hg : w.grownBy w' (some k)) (hk : k < base) : FrsO base w' v l :=
 ⟨h.1.kept hg (.inr fun e => by have := (h.1.lt k e).1; omega), fun f hf => (h.2 f hf).kept hg (fun j e hj => by simp at e; omega)⟩
theorem TKeep.set {P : TypeId -> Prop} {w : World} {b : Nat} {T : TypeId} {cs : Array Value} (h : Blk w b T cs) (i : Nat) (u : Value) (hn : ¬ P T) : TKeep P w (w.setCell ⟨b, i, none⟩ u) :=
 .of_grown (grown_set w ⟨b, i, none⟩ u) (fun k e => by
  obtain rfl : b = k := by simpa using e
  exact ⟨T, cs, h, hn⟩)
theorem SalJ.done {w0 : World} {ao : Option Addr} {bs : List Chan} {cap : Nat} {ac : Option Addr} {l : List Nat} {cc N M i : Nat} {W : World} {u3 u4 v : Value} {fs : List Frm} {x y : Int} (hN : w0.heap.size <= N) (hNM : N + 2 < M) (hb : Below w0.heap.size w0 W) (h0 : Blk W N 105 #[.slice ao bs.length cap]) (h1 : Blk W (N + 1) 109 #[.slice ac l.length cc]) (h3 : Blk W M 3 #[u3]) (h4 : Blk W (M + 1) 3 #[u4])
 (h2 : Blk W (N + 2) 106 #[v]) (hf : FrsO (M + 2) W v fs) (hfm : fs.map frm = (salTo bs l i).1) (hx : x = ((salTo bs l i).2 : Nat)) (hy : y = lastR (salTo bs l i).1) :
 (SalJ w0 ao bs cap ac l cc N M i ((W.setCell ⟨M, 0, none⟩ (.int .i64 x)).setCell ⟨M + 1, 0, none⟩ (.int .i64 y)) /\ TKeep SpT W ((W.setCell ⟨M, 0, none⟩ (.int .i64 x)).setCell ⟨M + 1, 0, none⟩ (.int .i64 y))) /\
 (SalJ w0 ao bs cap ac l cc N M i ((W.setCell ⟨M + 1, 0, none⟩ (.int .i64 y)).setCell ⟨M, 0, none⟩ (.int .i64 x)) /\ TKeep SpT W ((W.setCell ⟨M + 1, 0, none⟩ (.int .i64 y)).setCell ⟨M, 0, none⟩ (.int .i64 x))) := by
 subst hx; subst hy
 have g3 := fun (w : World) (u : Value) => grown_set w ⟨M, 0, none⟩ u
 have g4 := fun (w : World) (u : Value) => grown_set w ⟨M + 1, 0, none⟩ u
 refine ⟨⟨⟨(hb.setCell (p := ⟨M, 0, none⟩) (by simp; omega) _).setCell (p := ⟨M + 1, 0, none⟩) (by simp; omega) _, (h0.other (by omega) _ _).other (by omega) _ _, (h1.other (by omega) _ _).other (by omega) _ _, (h3.set0 _).other (by omega) _ _, (h4.other (by omega) _ _).set0 _, v, fs, hfm, (h2.other (by omega) _ _).other (by omega) _ _, (hf.kept_lt (k := M) (g3 _ _) (by omega)).kept_lt (k := M + 1) (g4 _ _) (by omega)⟩, ?_⟩,
  ⟨⟨(hb.setCell (p := ⟨M + 1, 0, none⟩) (by simp; omega) _).setCell (p := ⟨M, 0, none⟩) (by simp; omega) _, (h0.other (by omega) _ _).other (by omega) _ _, (h1.other (by omega) _ _).other (by omega) _ _, (h3.other (by omega) _ _).set0 _, (h4.set0 _).other (by omega) _ _, v, fs, hfm, (h2.other (by omega) _ _).other (by omega) _ _, (hf.kept_lt (k := M + 1) (g4 _ _) (by omega)).kept_lt (k := M) (g3 _ _) (by omega)⟩, ?_⟩⟩
 · exact (TKeep.set h3 _ _ (by simp [SpT])).trans (TKeep.set (h4.other (by omega) _ _) _ _ (by simp [SpT]))
 · exact (TKeep.set h4 _ _ (by simp [SpT])).trans (TKeep.set (h3.other (by omega) _ _) _ _ (by simp [SpT]))
theorem held2_next {w wx : World} {b c : Nat} {u v : Value} (h : w.cell? ⟨b, 0, none⟩ = some u /\ w.cell? ⟨c, 0, none⟩ = some v) (hb : Below w.heap.size w wx) : wx.cell? ⟨b, 0, none⟩ = some u /\ wx.cell? ⟨c, 0, none⟩ = some v :=
 ⟨cell_keep h.1 hb (Nat.le_refl _), cell_keep h.2 hb (Nat.le_refl _)⟩
set_option maxRecDepth 100000 in
set_option maxHeartbeats 4000000 in
theorem salvage1_any (w0 : World) (ao : Option Addr) (bs : List Chan) (cap : Nat) (b off : Nat) (l : List Nat) (cc N M i : Nat) (w : World) (hN : w0.heap.size <= N) (hNM : N + 2 < M) (hok : bookOK bs = true) (hb : BookIn w0 ao bs cap) (hc : ByIn w0 (some ⟨b, off, none⟩) l cc) (hi : i < l.length) (h : SalJ w0 ao bs cap (some ⟨b, off, none⟩) l cc N M i w) :
 Calls Tryz.prog 118 #[.int .i64 (i : Nat), .pointer (some ⟨M, 0, none⟩), .pointer (some ⟨N + 2, 0, none⟩), .pointer (some ⟨N, 0, none⟩), .pointer (some ⟨N + 1, 0, none⟩), .pointer (some ⟨M + 1, 0, none⟩)] w fun e w' => e = .returned (.bool (salP bs l (salTo bs l i) i).2) /\ SalJ w0 ao bs cap (some ⟨b, off, none⟩) l cc N M (i + 1) w' /\ TKeep SpT w w' := by
 have HJ := Lib.hid h
 have hlc := hc.len
 have hcp := hc.lecap
 have hcp2 := hc.cap2
 have hst : salTo bs l (i + 1) = (salP bs l (salTo bs l i) i).1 := rfl
 have hbd := salTo_bd bs l i (by omega)
 obtain ⟨hbe, hbk, hcd, hbh, hbt, v, fs, hfm, hbl, hfs⟩ := h
 obtain ⟨fa, fc, rfl, -⟩ := hfs.recIn
 have HST := Lib.hid hst
 have hfl : fs.length = (salTo bs l i).1.length := by rw [<- hfm]; simp
 have c1 := hbh.c0
 have c2 := hbl.c0
 have c3 := hbk.c0
 have c4 := hcd.c0
 have c5 := hbt.c0
 have HFM := Lib.hid hfm; have HFL := Lib.hid hfl
 clear hst hfl
 generalize hsto : salTo bs l i = S at *
 obtain ⟨out, beh⟩ := S
 simp only at hbh hbt hfm c1 c5 hbd HFM HFL
 have HSTO := Lib.hid hsto
 clear hsto hfm
 by_cases hin : i < beh
 · have hs := salP_in (bs := bs) (l := l) (s := (out, beh)) (i := i) hin
   have hj := HJ.out.next (by rw [HST.out, HSTO.out, hs])
   have HS := Lib.hid hs; have HJ2 := Lib.hid hj
   clear hs hj hbk hcd hbh hbt hbl hfs hbe
   go_enter Tryz.func118, Tryz.ntmps118
   go_wp2
   go_ret
   exact ⟨ret_bool (by rw [HS.out]), HJ2.out, TKeep.refl _ _⟩
 · by_cases h64 : out.length < 64
   · have h64i : fs.length < 64 := by have := HFL.out; omega
     have hbw := hb.below hbe (Nat.le_refl _)
     have hcd2 : ByIn w0 (some ⟨b, off + i, none⟩) (l.drop i) (cc - i) := by
      refine ⟨.inr ⟨b, off + i, rfl, fun j u hu => ?_⟩, fun d hd => hc.byte d (List.mem_of_mem_drop hd), by rw [List.length_drop]; omega, by rw [List.length_drop]; omega, by omega⟩
      rw [Nat.add_assoc]
      refine hc.cells.at ?_
      rw [<- hu, bys, bys, List.map_drop, List.getElem?_drop]
     have hfc := fun (wx : World) (hx : Below w0.heap.size w0 wx) => first_code ao bs cap (some ⟨b, off + i, none⟩) (l.drop i) (cc - i) wx (hb.below hx (Nat.le_refl _)) hok (hcd2.below hx (Nat.le_refl _)).cells hcd2.byte hcd2.len hcd2.lecap hcd2.cap2
     rw [List.length_drop] at hfc
     have HFC := Lib.hid hfc
     have hbd0 : Below w0.heap.size w0 w.drew := hbe.drew
     have hbd1 : Below w0.heap.size w0 (w.alloc (.cells #[.int .i64 0, .slice none 0 0] 108)).drew := (hbe.alloc hbe.size _).drew
     have HD0 := Lib.hid hbd0; have HD1 := Lib.hid hbd1
     have hb0 := (Below.refl w.heap.size w).alloc (Nat.le_refl _) (.cells #[.int .i64 0, .slice none 0 0] 108)
     have c3a := cell_keep c3 hb0 (Nat.le_refl _)
     have c4a := cell_keep c4 hb0 (Nat.le_refl _)
     have hz0 := hbe.size
     have hNl := hbt.lt
     have k1 : (i : Int) <= l.length := by omega
     have k2 : (l.length : Int) <= cc := by omega
     have k3 : ¬ cc = i := by omega
     have k4 : ¬ (cc - i = 0) := by omega
     have k5 : ¬ cc <= i := by omega
     have k6 : i <= l.length := by omega
     have k7 : l.length <= cc := by omega
     have HBE := Lib.hid hbe
     clear hfc hcd2 hbe hbd0 hbd1 hb0
     cases hfi : firstR bs (l.drop i) with
     | none =>
       have hs := salP_none (bs := bs) (l := l) (s := (out, beh)) (i := i) hin h64 hfi
       have hj := HJ.out.next (by rw [HST.out, HSTO.out, hs])
       have HS := Lib.hid hs; have HJ2 := Lib.hid hj
       rw [hfi] at HFC
       clear hs hj hbk hcd hbh hbt hbl hfs hfi
       go_enter Tryz.func118, Tryz.ntmps118
       go_wp2_with fail
       go_region_held3 (fun w' => w'.cell? ⟨N, 0, none⟩ = some (.slice ao bs.length cap) /\ w'.cell? ⟨N + 1, 0, none⟩ = some (.slice (some ⟨b, off, none⟩) l.length cc))
        (first
         | exact held2_next ⟨c3, c4⟩ ((Below.refl w.heap.size w).drew)
         | exact held2_next ⟨c3, c4⟩ hbz
         | exact held2_next ⟨c3, c4⟩ (hbz.alloc hbz.size _)
         | exact held2_next ⟨c3, c4⟩ (((Below.refl w.heap.size w).drew).alloc (Nat.le_refl _) _)
         | exact held2_next ⟨c3, c4⟩ ((hbz.setCell (p := ⟨w.heap.size, 0, none⟩) (Nat.le_refl _) _).setCell (p := ⟨w.heap.size, 1, none⟩) (Nat.le_refl _) _)
         | go_keep)
        (first
        | (go_at_call 119; refine (HFC.out w.drew HD0.out).mono ?_; rintro e w2 ⟨hres, hb2⟩; obtain rfl : e = .returned (.tuple #[.agg #[.int .i64 0, .slice none 0 0], .slice none 0 0, .bool false]) := hres; have hbz : Below w.heap.size w w2 := ((Below.refl w.heap.size w).drew).trans hb2; clear hb2)
        | (go_at_call 119; refine (HFC.out (w.alloc (.cells #[.int .i64 0, .slice none 0 0] 108)).drew HD1.out).mono ?_; rintro e w2 ⟨hres, hb2⟩; obtain rfl : e = .returned (.tuple #[.agg #[.int .i64 0, .slice none 0 0], .slice none 0 0, .bool false]) := hres; have hbx := Blk.below (Blk.new w 108 #[.int .i64 0, .slice none 0 0]) (W' := w2) ⟨hb2.os, hb2.tape, hb2.output, hb2.size, hb2.block⟩ (by simp); have x0 := hbx.c0; have x1 := hbx.c1; have y0 := hbx.free 0; have y1 := hbx.free 1; have hbz : Below w.heap.size w w2 := (((Below.refl w.heap.size w).alloc (Nat.le_refl _) (.cells #[.int .i64 0, .slice none 0 0] 108)).drew).trans (hb2.mono (by simp)); have HBX := Lib.hid hbx; clear hb2 hbx))
       · have hbz2 := hbz.alloc hbz.size (.cells #[.int .i64 0, .slice none 0 0] 108)
         go_wp2
         go_ret
         exact ⟨ret_bool (by rw [HS.out]), HJ2.out.bel hbz2, TKeep.of_below hbz2⟩
       · have hbz2 := (hbz.setCell (p := ⟨w.heap.size, 0, none⟩) (Nat.le_refl _) (.int .i64 0)).setCell (p := ⟨w.heap.size, 1, none⟩) (Nat.le_refl _) (.slice none 0 0)
         go_wp2
         go_ret
         exact ⟨ret_bool (by rw [HS.out]), HJ2.out.bel hbz2, TKeep.of_below hbz2⟩
     | some p =>
       obtain ⟨⟨st, xss⟩, n⟩ := p
       rw [hfi] at HFC
       have hbo : ∀ k, (Value.slice fa fs.length fc).ownBlock = some k -> k < w.heap.size := fun k e => (hfs.1.lt k e).2
       have HBO := Lib.hid hbo
       have HALL := Lib.hid (And.intro hbk (And.intro hcd (And.intro hbh (And.intro hbt (And.intro hbl hfs)))))
       obtain ⟨i0, hi0, hy0, hy1, hy2⟩ := info_parts Tryz.infoFrame
       clear hbk hcd hbh hbt hbl hfs hbo
       go_enter Tryz.func118, Tryz.ntmps118
       go_wp2_with fail
       go_region_held3 (fun w' => w'.cell? ⟨N, 0, none⟩ = some (.slice ao bs.length cap) /\ w'.cell? ⟨N + 1, 0, none⟩ = some (.slice (some ⟨b, off, none⟩) l.length cc))
        (first
         | exact held2_next ⟨c3, c4⟩ ((Below.refl w.heap.size w).drew)
         | exact held2_next ⟨c3, c4⟩ hbz
         | exact held2_next ⟨c3, c4⟩ (hbz.alloc hbz.size _)
         | exact held2_next ⟨c3, c4⟩ (((Below.refl w.heap.size w).drew).alloc (Nat.le_refl _) _)
         | exact held2_next ⟨c3, c4⟩ ((hbz.setCell (p := ⟨w.heap.size, 0, none⟩) (Nat.le_refl _) _).setCell (p := ⟨w.heap.size, 1, none⟩) (Nat.le_refl _) _)
         | go_keep)
        (first
        | (go_at_call 119; refine (HFC.out w.drew HD0.out).mono ?_; rintro e w2 ⟨hres, hb2⟩; obtain ⟨vv, c6, rfl, hfo⟩ := hres; obtain ⟨a, c, vs, rfl, -, -, -⟩ := hfo.cells; have HFO := Lib.hid hfo; clear hfo; have hbz : Below w.heap.size w w2 := ((Below.refl w.heap.size w).drew).trans hb2; clear hb2)
        | (go_at_call 119; refine (HFC.out (w.alloc (.cells #[.int .i64 0, .slice none 0 0] 108)).drew HD1.out).mono ?_; rintro e w2 ⟨hres, hb2⟩; obtain ⟨vv, c6, rfl, hfo⟩ := hres; obtain ⟨a, c, vs, rfl, -, -, -⟩ := hfo.cells; have HFO := Lib.hid hfo; clear hfo; have hbx := Blk.below (Blk.new w 108 #[.int .i64 0, .slice none 0 0]) (W' := w2) ⟨hb2.os, hb2.tape, hb2.output, hb2.size, hb2.block⟩ (by simp); have x0 := hbx.c0; have x1 := hbx.c1; have y0 := hbx.free 0; have y1 := hbx.free 1; have hbz : Below w.heap.size w w2 := (((Below.refl w.heap.size w).alloc (Nat.le_refl _) (.cells #[.int .i64 0, .slice none 0 0] 108)).drew).trans (hb2.mono (by simp)); have HBX := Lib.hid hbx; clear hb2 hbx))
       · have hq1 := Blk.new w2 108 #[.int .i64 st, .slice a xss.length c]
         have hq2 := hbz.alloc hbz.size (.cells #[.int .i64 st, .slice a xss.length c] 108)
         have hq3 := hbz.size
         have hq4 := (HFO.out.base (show M + 2 <= w.drew.heap.size by simp; omega)).kept (World.grownBy_alloc w2 (.cells #[.int .i64 st, .slice a xss.length c] 108) none) (fun k e => by simp at e)
         have HQ4 := Lib.hid hq4; have HQ1 := Lib.hid hq1; have HQ2 := Lib.hid hq2
         clear hq4 HFO hbz hq1 hq2
         generalize w2.alloc (.cells #[.int .i64 st, .slice a xss.length c] 108) = W3 at *
         generalize w2.heap.size = q at *
         obtain ⟨a0, a1, a3, a4, a2, af⟩ := HALL.out
         have b0 := a0.below HQ2.out a0.lt
         have b1 := a1.below HQ2.out a1.lt
         have b2 := a2.below HQ2.out a2.lt
         have b3 := a3.below HQ2.out a3.lt
         have b4 := a4.below HQ2.out a4.lt
         have bf := af.below HQ2.out
         have z0 := HQ1.out.c0
         have z1 := HQ1.out.c1
         have y3 := b2.c0
         have y4 := b2.free 0
         have y5 := b4.c0
         have hz3 := HQ2.out.size
         have hfl : fs.length = out.length := HFL.out
         have HFL2 := Lib.hid hfl
         have hfl64 : fs.length < 64 := h64i
         have HB0 := Lib.hid b0; have HB1 := Lib.hid b1; have HB2 := Lib.hid b2; have HB3 := Lib.hid b3; have HB4 := Lib.hid b4; have HBF := Lib.hid bf
         clear a0 a1 a2 a3 a4 af b0 b1 b2 b3 b4 bf hfl
         by_cases hnew : lastR out < st
         · have hs := salP_new (bs := bs) (l := l) (s := (out, beh)) (i := i) (x := (st, xss)) (n := n) hin h64 hfi hnew
           have he : salTo bs l (i + 1) = (out ++ [(st, xss)], i + n) := by rw [HST.out, hs]
           obtain ⟨-, -, hnl, -, -⟩ := firstR_sound hfi
           rw [List.length_drop] at hnl
           have HE := Lib.hid he; have HS := Lib.hid hs
           have q5 : IntKind.i64.wrap ((i : Int) + n) = (i : Int) + n := IntWalk.i64_in _ (by omega)
           clear hs he
           go_wp2_with (at_builtin; refine wpList_append_lies _ rfl _ _ _ rfl (M + 2) 108 i0 (.agg #[.int .i64 0, .slice none 0 0]) 2 32 Tryz.underlying106 hi0 hy0 hy1 hy2 rfl (by decide) (.slice fa fs.length fc) fs.length (frs fs) rfl (HBF.out.1.alloc _) ⟨W3.heap.size, 0, none⟩ 1 1 [.int .i64 st, .slice a xss.length c] rfl rfl (World.news_of_block (cs := #[.int .i64 st, .slice a xss.length c]) (t := 108) (fr := (0, 0)) (heap_alloc_new W3 _)) (by simp [Value.oneCell']) (by omega) (by unfold maxLen; omega) (by omega) (by simp; omega) (W3.heap.size + 1) (by simp) ?_)
           intro gg cp w5 hown1 hgrow hat hlt1
           have d0 := (HB0.out.alloc (.cells #[.int .i64 st, .slice a xss.length c] 108)).kept hgrow (fun e => blk_own_ne HB0.out HBF.out.1 (by decide) e.symm)
           have d1 := (HB1.out.alloc (.cells #[.int .i64 st, .slice a xss.length c] 108)).kept hgrow (fun e => blk_own_ne HB1.out HBF.out.1 (by decide) e.symm)
           have d2 := (HB2.out.alloc (.cells #[.int .i64 st, .slice a xss.length c] 108)).kept hgrow (fun e => blk_own_ne HB2.out HBF.out.1 (by decide) e.symm)
           have d3 := (HB3.out.alloc (.cells #[.int .i64 st, .slice a xss.length c] 108)).kept hgrow (fun e => blk_own_ne HB3.out HBF.out.1 (by decide) e.symm)
           have d4 := (HB4.out.alloc (.cells #[.int .i64 st, .slice a xss.length c] 108)).kept hgrow (fun e => blk_own_ne HB4.out HBF.out.1 (by decide) e.symm)
           have dq := (HQ1.out.alloc (.cells #[.int .i64 st, .slice a xss.length c] 108)).kept hgrow (fun e => by have := HBO.out _ e.symm; omega)
           have df := FrsO.snoc (w := W3.alloc (.cells #[.int .i64 st, .slice a xss.length c] 108)) (w' := w5) (f := ⟨st, a, c, xss⟩) (HBF.out.alloc _) (HQ4.out.kept (World.grownBy_alloc W3 _ none) (fun k e => by simp at e)) hgrow hown1
           have hk5 : TKeep SpT w w5 := ((TKeep.of_below HQ2.out).trans (TKeep.of_grown (World.grownBy_alloc W3 (.cells #[.int .i64 st, .slice a xss.length c] 108) none) (fun k e => by simp at e))).trans (TKeep.of_own (HBF.out.1.alloc _) hgrow (by simp [SpT]))
           have hw5 : Below w0.heap.size w0 w5 := ((HJ.out.below.trans (HQ2.out.mono HJ.out.below.size)).alloc (by have := HJ.out.below.size; omega) (.cells #[.int .i64 st, .slice a xss.length c] 108)).grown hgrow (by have := HJ.out.below.size; simp; omega) (fun j e => by have := (HBF.out.1.lt j e).1; omega)
           have u2 := d2.c0
           have u3 := d2.free 0
           have hv2 : ∀ u, FrsO (M + 2) (w5.setCell ⟨N + 2, 0, none⟩ u) (.slice (some ⟨gg, 0, none⟩) (fs.length + 1) cp) (fs ++ [⟨st, a, c, xss⟩]) := fun u => by
            have := df.kept_lt (k := N + 2) (grown_set w5 ⟨N + 2, 0, none⟩ u) (by omega)
            simpa using this
           have hdn := SalJ.done (w0 := w0) (ao := ao) (bs := bs) (cap := cap) (ac := some ⟨b, off, none⟩) (l := l) (cc := cc) (N := N) (M := M) (i := i + 1) (W := (w5.setCell ⟨N + 2, 0, none⟩ (.slice (some ⟨gg, 0, none⟩) (fs.length + 1) cp)).drew) (x := (i : Int) + n) (y := st) hN hNM ((hw5.setCell (p := ⟨N + 2, 0, none⟩) (by simp; omega) _).drew) (d0.other (by omega) _ _) (d1.other (by omega) _ _) (d3.other (by omega) _ _) (d4.other (by omega) _ _) (d2.set0 _) (hv2 _) (by rw [HE.out]; simp [HFM.out, frm]) (by rw [HE.out]; simp) (by rw [HE.out, lastR_snoc])
           have hk6 : TKeep SpT w (w5.setCell ⟨N + 2, 0, none⟩ (.slice (some ⟨gg, 0, none⟩) (fs.length + 1) cp)).drew := hk5.trans (TKeep.set d2 0 _ (by simp [SpT]))
           have s0 := (dq.other (B' := N + 2) (by omega) 0 (.slice (some ⟨gg, 0, none⟩) (fs.length + 1) cp)).c0
           have s3 := (d3.other (B' := N + 2) (by omega) 0 (.slice (some ⟨gg, 0, none⟩) (fs.length + 1) cp)).c0
           have s4 := (d4.other (B' := N + 2) (by omega) 0 (.slice (some ⟨gg, 0, none⟩) (fs.length + 1) cp)).c0
           have t3 := (d3.other (B' := N + 2) (by omega) 0 (.slice (some ⟨gg, 0, none⟩) (fs.length + 1) cp)).free 0
           have t4 := (d4.other (B' := N + 2) (by omega) 0 (.slice (some ⟨gg, 0, none⟩) (fs.length + 1) cp)).free 0
           have HDN := Lib.hid hdn; have HK6 := Lib.hid hk6
           clear d0 d1 d2 d3 d4 dq df hk5 hw5 hv2 hdn hk6 hown1 hgrow hat hlt1 z0 z1 y3 y4 y5
           go_wp2
           go_region
           all_goals
            go_wp2
            go_ret
            first
             | exact ⟨ret_bool (by rw [HS.out]), HDN.out.1.1, HK6.out.trans HDN.out.1.2⟩
             | exact ⟨ret_bool (by rw [HS.out]), HDN.out.2.1, HK6.out.trans HDN.out.2.2⟩
         · have hs := salP_old (bs := bs) (l := l) (s := (out, beh)) (i := i) (x := (st, xss)) (n := n) hin h64 hfi hnew
           have hj := HJ.out.next (by rw [HST.out, HSTO.out, hs])
           have HS := Lib.hid hs; have HJ2 := Lib.hid hj
           clear hs hj
           go_wp2
           go_ret
           exact ⟨ret_bool (by rw [HS.out]), HJ2.out.bel HQ2.out, TKeep.of_below HQ2.out⟩
       · have hq1 := (HBX.out.set0 (.int .i64 st)).set1 (.slice a xss.length c)
         have hq2 := (hbz.setCell (p := ⟨w.heap.size, 0, none⟩) (Nat.le_refl _) (.int .i64 st)).setCell (p := ⟨w.heap.size, 1, none⟩) (Nat.le_refl _) (.slice a xss.length c)
         have hq3 := Nat.le_refl w.heap.size
         have hq4 := ((HFO.out.base (show M + 2 <= (w.alloc (.cells #[.int .i64 0, .slice none 0 0] 108)).drew.heap.size by simp; omega)).kept_blk (grown_set w2 ⟨w.heap.size, 0, none⟩ (.int .i64 st)) HBX.out (by decide) (by decide)).kept_blk (grown_set (w2.setCell ⟨w.heap.size, 0, none⟩ (.int .i64 st)) ⟨w.heap.size, 1, none⟩ (.slice a xss.length c)) (HBX.out.set0 _) (by decide) (by decide)
         have HQ4 := Lib.hid hq4; have HQ1 := Lib.hid hq1; have HQ2 := Lib.hid hq2
         clear hq4 HFO HBX hbz x0 x1 y0 y1 hq1 hq2
         generalize ((w2.setCell ⟨w.heap.size, 0, none⟩ (.int .i64 st)).setCell ⟨w.heap.size, 1, none⟩ (.slice a xss.length c)) = W3 at *
         obtain ⟨a0, a1, a3, a4, a2, af⟩ := HALL.out
         have b0 := a0.below HQ2.out a0.lt
         have b1 := a1.below HQ2.out a1.lt
         have b2 := a2.below HQ2.out a2.lt
         have b3 := a3.below HQ2.out a3.lt
         have b4 := a4.below HQ2.out a4.lt
         have bf := af.below HQ2.out
         have z0 := HQ1.out.c0
         have z1 := HQ1.out.c1
         have y3 := b2.c0
         have y4 := b2.free 0
         have y5 := b4.c0
         have hz3 := HQ2.out.size
         have hfl : fs.length = out.length := HFL.out
         have HFL2 := Lib.hid hfl
         have hfl64 : fs.length < 64 := h64i
         have HB0 := Lib.hid b0; have HB1 := Lib.hid b1; have HB2 := Lib.hid b2; have HB3 := Lib.hid b3; have HB4 := Lib.hid b4; have HBF := Lib.hid bf
         clear a0 a1 a2 a3 a4 af b0 b1 b2 b3 b4 bf hfl
         by_cases hnew : lastR out < st
         · have hs := salP_new (bs := bs) (l := l) (s := (out, beh)) (i := i) (x := (st, xss)) (n := n) hin h64 hfi hnew
           have he : salTo bs l (i + 1) = (out ++ [(st, xss)], i + n) := by rw [HST.out, hs]
           obtain ⟨-, -, hnl, -, -⟩ := firstR_sound hfi
           rw [List.length_drop] at hnl
           have HE := Lib.hid he; have HS := Lib.hid hs
           have q5 : IntKind.i64.wrap ((i : Int) + n) = (i : Int) + n := IntWalk.i64_in _ (by omega)
           clear hs he
           go_wp2_with (at_builtin; refine wpList_append_lies _ rfl _ _ _ rfl (M + 2) 108 i0 (.agg #[.int .i64 0, .slice none 0 0]) 2 32 Tryz.underlying106 hi0 hy0 hy1 hy2 rfl (by decide) (.slice fa fs.length fc) fs.length (frs fs) rfl (HBF.out.1.alloc _) ⟨W3.heap.size, 0, none⟩ 1 1 [.int .i64 st, .slice a xss.length c] rfl rfl (World.news_of_block (cs := #[.int .i64 st, .slice a xss.length c]) (t := 108) (fr := (0, 0)) (heap_alloc_new W3 _)) (by simp [Value.oneCell']) (by omega) (by unfold maxLen; omega) (by omega) (by simp; omega) (W3.heap.size + 1) (by simp) ?_)
           intro gg cp w5 hown1 hgrow hat hlt1
           have d0 := (HB0.out.alloc (.cells #[.int .i64 st, .slice a xss.length c] 108)).kept hgrow (fun e => blk_own_ne HB0.out HBF.out.1 (by decide) e.symm)
           have d1 := (HB1.out.alloc (.cells #[.int .i64 st, .slice a xss.length c] 108)).kept hgrow (fun e => blk_own_ne HB1.out HBF.out.1 (by decide) e.symm)
           have d2 := (HB2.out.alloc (.cells #[.int .i64 st, .slice a xss.length c] 108)).kept hgrow (fun e => blk_own_ne HB2.out HBF.out.1 (by decide) e.symm)
           have d3 := (HB3.out.alloc (.cells #[.int .i64 st, .slice a xss.length c] 108)).kept hgrow (fun e => blk_own_ne HB3.out HBF.out.1 (by decide) e.symm)
           have d4 := (HB4.out.alloc (.cells #[.int .i64 st, .slice a xss.length c] 108)).kept hgrow (fun e => blk_own_ne HB4.out HBF.out.1 (by decide) e.symm)
           have dq := (HQ1.out.alloc (.cells #[.int .i64 st, .slice a xss.length c] 108)).kept hgrow (fun e => by have := HBO.out _ e.symm; omega)
           have df := FrsO.snoc (w := W3.alloc (.cells #[.int .i64 st, .slice a xss.length c] 108)) (w' := w5) (f := ⟨st, a, c, xss⟩) (HBF.out.alloc _) (HQ4.out.kept (World.grownBy_alloc W3 _ none) (fun k e => by simp at e)) hgrow hown1
           have hk5 : TKeep SpT w w5 := ((TKeep.of_below HQ2.out).trans (TKeep.of_grown (World.grownBy_alloc W3 (.cells #[.int .i64 st, .slice a xss.length c] 108) none) (fun k e => by simp at e))).trans (TKeep.of_own (HBF.out.1.alloc _) hgrow (by simp [SpT]))
           have hw5 : Below w0.heap.size w0 w5 := ((HJ.out.below.trans (HQ2.out.mono HJ.out.below.size)).alloc (by have := HJ.out.below.size; omega) (.cells #[.int .i64 st, .slice a xss.length c] 108)).grown hgrow (by have := HJ.out.below.size; simp; omega) (fun j e => by have := (HBF.out.1.lt j e).1; omega)
           have u2 := d2.c0
           have u3 := d2.free 0
           have hv2 : ∀ u, FrsO (M + 2) (w5.setCell ⟨N + 2, 0, none⟩ u) (.slice (some ⟨gg, 0, none⟩) (fs.length + 1) cp) (fs ++ [⟨st, a, c, xss⟩]) := fun u => by
            have := df.kept_lt (k := N + 2) (grown_set w5 ⟨N + 2, 0, none⟩ u) (by omega)
            simpa using this
           have hdn := SalJ.done (w0 := w0) (ao := ao) (bs := bs) (cap := cap) (ac := some ⟨b, off, none⟩) (l := l) (cc := cc) (N := N) (M := M) (i := i + 1) (W := (w5.setCell ⟨N + 2, 0, none⟩ (.slice (some ⟨gg, 0, none⟩) (fs.length + 1) cp)).drew) (x := (i : Int) + n) (y := st) hN hNM ((hw5.setCell (p := ⟨N + 2, 0, none⟩) (by simp; omega) _).drew) (d0.other (by omega) _ _) (d1.other (by omega) _ _) (d3.other (by omega) _ _) (d4.other (by omega) _ _) (d2.set0 _) (hv2 _) (by rw [HE.out]; simp [HFM.out, frm]) (by rw [HE.out]; simp) (by rw [HE.out, lastR_snoc])
           have hk6 : TKeep SpT w (w5.setCell ⟨N + 2, 0, none⟩ (.slice (some ⟨gg, 0, none⟩) (fs.length + 1) cp)).drew := hk5.trans (TKeep.set d2 0 _ (by simp [SpT]))
           have s0 := (dq.other (B' := N + 2) (by omega) 0 (.slice (some ⟨gg, 0, none⟩) (fs.length + 1) cp)).c0
           have s3 := (d3.other (B' := N + 2) (by omega) 0 (.slice (some ⟨gg, 0, none⟩) (fs.length + 1) cp)).c0
           have s4 := (d4.other (B' := N + 2) (by omega) 0 (.slice (some ⟨gg, 0, none⟩) (fs.length + 1) cp)).c0
           have t3 := (d3.other (B' := N + 2) (by omega) 0 (.slice (some ⟨gg, 0, none⟩) (fs.length + 1) cp)).free 0
           have t4 := (d4.other (B' := N + 2) (by omega) 0 (.slice (some ⟨gg, 0, none⟩) (fs.length + 1) cp)).free 0
           have HDN := Lib.hid hdn; have HK6 := Lib.hid hk6
           clear d0 d1 d2 d3 d4 dq df hk5 hw5 hv2 hdn hk6 hown1 hgrow hat hlt1 z0 z1 y3 y4 y5
           go_wp2
           go_region
           all_goals
            go_wp2
            go_ret
            first
             | exact ⟨ret_bool (by rw [HS.out]), HDN.out.1.1, HK6.out.trans HDN.out.1.2⟩
             | exact ⟨ret_bool (by rw [HS.out]), HDN.out.2.1, HK6.out.trans HDN.out.2.2⟩
         · have hs := salP_old (bs := bs) (l := l) (s := (out, beh)) (i := i) (x := (st, xss)) (n := n) hin h64 hfi hnew
           have hj := HJ.out.next (by rw [HST.out, HSTO.out, hs])
           have HS := Lib.hid hs; have HJ2 := Lib.hid hj
           clear hs hj
           go_wp2
           go_ret
           exact ⟨ret_bool (by rw [HS.out]), HJ2.out.bel HQ2.out, TKeep.of_below HQ2.out⟩
   · have hs := salP_full (bs := bs) (l := l) (s := (out, beh)) (i := i) hin h64
     have hj := HJ.out.next (by rw [HST.out, HSTO.out, hs])
     have HS := Lib.hid hs; have HJ2 := Lib.hid hj
     have h64i : ¬ fs.length < 64 := by have := HFL.out; omega
     clear hs hj hbk hcd hbh hbt hbl hfs hbe
     go_enter Tryz.func118, Tryz.ntmps118
     go_wp2
     go_ret
     exact ⟨ret_bool (by rw [HS.out]), HJ2.out, TKeep.refl _ _⟩
end Go.Proofs.YtdpjdifoonfcdaaGreatDoor

namespace Go.Proofs.YtdpjdifoonfcdaaGreatDoor
open Go.RowKit
theorem lostP_to (bs : List Chan) (l : List Nat) (i : Nat) : lostP (fun i => (salP bs l (salTo bs l i) i).2) i = lostTo bs l i := by
 induction i with
 | zero => rfl
 | succ i ih => rw [lostP, lostTo, ih]
def salErr (bs : List Chan) (l : List Nat) : Int := if bookErr bs ≠ 0 then bookErr bs else if 1048576 < l.length then 3 else 0
def SalRes (base : Nat) (bs : List Chan) (l : List Nat) (e : Ending) (w' : World) : Prop :=
 if salErr bs l = 0 then ∃ v vl fs, e = .returned (.tuple #[v, vl, .int .i64 0]) /\ fs.map frm = (salTo bs l l.length).1 /\ FrsO base w' v fs /\ w'.ownsRow base 287 2 vl (lostTo bs l l.length).length (prs (lostTo bs l l.length))
 else e = .returned (.tuple #[.slice none 0 0, .slice none 0 0, .int .i64 (salErr bs l)])
theorem SalRes.ok {base : Nat} {bs : List Chan} {l : List Nat} {w' : World} {v vl : Value} {fs : List Frm} (h : salErr bs l = 0) (h1 : fs.map frm = (salTo bs l l.length).1) (h2 : FrsO base w' v fs) (h3 : w'.ownsRow base 287 2 vl (lostTo bs l l.length).length (prs (lostTo bs l l.length))) : SalRes base bs l (.returned (.tuple #[v, vl, .int .i64 0])) w' := by
 unfold SalRes; rw [if_pos h]; exact ⟨v, vl, fs, rfl, h1, h2, h3⟩
theorem SalRes.err {base : Nat} {bs : List Chan} {l : List Nat} {w' : World} {x : Int} (h : salErr bs l = x) (hx : x ≠ 0) : SalRes base bs l (.returned (.tuple #[.slice none 0 0, .slice none 0 0, .int .i64 x])) w' := by
 unfold SalRes; rw [if_neg (by rw [h]; exact hx), h]
set_option maxRecDepth 100000 in
set_option maxHeartbeats 4000000 in
theorem salvage_any (ao : Option Addr) (bs : List Chan) (cap : Nat) (ac : Option Addr) (l : List Nat) (cc : Nat) (w : World) (hb : BookIn w ao bs cap) (hc : ByIn w ac l cc) :
 Calls Tryz.prog 56 #[.slice ao bs.length cap, .slice ac l.length cc] w fun e w' => SalRes w.heap.size bs l e w' /\ Below w.heap.size w w' := by
 have HB := Lib.hid hb; have HC := Lib.hid hc
 have hlen := hb.len
 have hcl := hc.len
 obtain ⟨W, hW⟩ : ∃ W, W = ((w.alloc (.cells #[.slice ao bs.length cap] 105)).alloc (.cells #[.slice ac l.length cc] 109)).alloc (.cells #[.slice none 0 0] 106) := ⟨_, rfl⟩
 have hbw : Below w.heap.size w W := by rw [hW]; exact (((Below.refl w.heap.size w).alloc (Nat.le_refl _) _).alloc (by simp) _).alloc (by simp <;> omega) _
 have hWs : W.heap.size = w.heap.size + 3 := by rw [hW]; simp
 have hk0 : Blk W w.heap.size 105 #[.slice ao bs.length cap] := by rw [hW]; exact ((Blk.new w 105 #[.slice ao bs.length cap]).alloc _).alloc _
 have hk1 : Blk W (w.heap.size + 1) 109 #[.slice ac l.length cc] := by
  have := Blk.new (w.alloc (.cells #[.slice ao bs.length cap] 105)) 109 #[.slice ac l.length cc]
  rw [World.size_alloc] at this
  rw [hW]; exact this.alloc _
 have hk2 : Blk W (w.heap.size + 1 + 1) 106 #[.slice none 0 0] := by
  have := Blk.new ((w.alloc (.cells #[.slice ao bs.length cap] 105)).alloc (.cells #[.slice ac l.length cc] 109)) 106 #[.slice none 0 0]
  rw [World.size_alloc, World.size_alloc] at this
  rw [hW]; exact this
 have hb1 := hb.below hbw (Nat.le_refl _)
 have hck := checkBook_any ao bs cap W hb1.cells (by omega) hb1.lecap hb1.cap2 hb1.names hb1.rates
 have HCK := Lib.hid hck
 have x0 := hk0.c0
 have x2 := hk2.c0
 have y2 := hk2.free 0
 have HK0 := Lib.hid hk0; have HK1 := Lib.hid hk1; have HK2 := Lib.hid hk2; have HBW := Lib.hid hbw
 have HW := Lib.hid hW
 clear hb hc hb1 hck hbw hk0 hk1 hk2
 by_cases h1 : bookErr bs = 0
 · have hok := bookErr_zero h1
   have H1 := Lib.hid h1; have HOK := Lib.hid hok
   clear h1 hok
   go_enter Tryz.func56, Tryz.ntmps56
   go_wp2_with fail
   rw [<- HW.out]
   refine HCK.out.mono ?_
   rintro e w1 ⟨rfl, hb1⟩
   rw [H1.out]
   have hbe1 := HBW.out.trans (hb1.mono (by omega))
   have hz1 := hb1.size
   have p0 := HK0.out.below hb1 (by omega)
   have p1 := HK1.out.below hb1 (by omega)
   have p2 := HK2.out.below hb1 (by omega)
   have x1 := p1.c0
   have x2 := p2.c0
   have y2 := p2.free 0
   have P0 := Lib.hid p0; have P1 := Lib.hid p1; have P2 := Lib.hid p2
   clear p0 p1 p2 hb1
   by_cases hbig : 1048576 < l.length
   · have he : salErr bs l = 3 := by unfold salErr; rw [if_neg (by simpa using H1.out), if_pos hbig]
     have HE := Lib.hid he
     have hbi : (1048576 : Int) < l.length := by omega
     clear he
     go_wp2_with fail
     (try simp only [Exit.inBlock, Exit.then])
     refine bodyPost_ret (v := .tuple #[.slice none 0 0, .slice none 0 0, .int .i64 3]) (by rw [results_cell2 rfl]; go_simp) rfl ⟨SalRes.err HE.out (by decide), ?_⟩
     exact hbe1.setCell (p := ⟨w.heap.size + 1 + 1, 0, none⟩) (by simp; omega) _
   · have he : salErr bs l = 0 := by unfold salErr; rw [if_neg (by simpa using H1.out), if_neg hbig]
     have HE := Lib.hid he
     have hbi : ¬ (1048576 : Int) < l.length := by omega
     have hbb := ((Below.refl w1.heap.size w1).alloc (Nat.le_refl _) (.cells #[.int .i64 0] 3)).alloc (by simp) (.cells #[.int .i64 (-1)] 3)
     have hbe2 := (hbe1.alloc (by omega) (.cells #[.int .i64 0] 3)).alloc (by simp; omega) (.cells #[.int .i64 (-1)] 3)
     have b0 := P0.out.below hbb P0.out.lt
     have b1 := P1.out.below hbb P1.out.lt
     have b2 := P2.out.below hbb P2.out.lt
     have b3 : Blk ((w1.alloc (.cells #[.int .i64 0] 3)).alloc (.cells #[.int .i64 (-1)] 3)) w1.heap.size 3 #[.int .i64 0] := (Blk.new w1 3 #[.int .i64 0]).alloc _
     have b4 : Blk ((w1.alloc (.cells #[.int .i64 0] 3)).alloc (.cells #[.int .i64 (-1)] 3)) (w1.heap.size + 1) 3 #[.int .i64 (-1)] := by
      have := Blk.new (w1.alloc (.cells #[.int .i64 0] 3)) 3 #[.int .i64 (-1)]
      rwa [World.size_alloc] at this
     have v1 := b1.c0
     have hj0 : SalJ w ao bs cap ac l cc w.heap.size w1.heap.size 0 ((w1.alloc (.cells #[.int .i64 0] 3)).alloc (.cells #[.int .i64 (-1)] 3)) := ⟨hbe2, b0, b1, b3, b4, _, [], rfl, b2, FrsO.nil _ _⟩
     have hsz2 : ((w1.alloc (.cells #[.int .i64 0] 3)).alloc (.cells #[.int .i64 (-1)] 3)).heap.size = w1.heap.size + 2 := by simp
     have HJ0 := Lib.hid hj0; have HSZ := Lib.hid hsz2; have HB2 := Lib.hid hbe2
     clear he hbb b0 b1 b2 b3 b4 hj0 hsz2 hbe2
     go_wp2_with fail
     have hsp := spans_any 118 #[.pointer (some ⟨w1.heap.size, 0, none⟩), .pointer (some ⟨w.heap.size + 2, 0, none⟩), .pointer (some ⟨w.heap.size, 0, none⟩), .pointer (some ⟨w.heap.size + 1, 0, none⟩), .pointer (some ⟨w1.heap.size + 1, 0, none⟩)] (fun i => (salP bs l (salTo bs l i) i).2) (fun i wx => SalJ w ao bs cap ac l cc w.heap.size w1.heap.size i wx) l.length ((w1.alloc (.cells #[.int .i64 0] 3)).alloc (.cells #[.int .i64 (-1)] 3)) hcl
      (fun vs wx => by kernel_rfl) HJ0.out
      (fun i wx wy hj _ hbw hk => hj.keep (hbw.mono (by rw [HSZ.out]; omega)) hk)
      (fun i wx hi hj => by
       obtain ⟨b, off, rfl⟩ := HC.out.cells.addr (bys_ne (by omega))
       exact salvage1_any w ao bs cap b off l cc w.heap.size w1.heap.size i wx (Nat.le_refl _) (by omega) HOK.out HB.out HC.out hi hj)
     rw [lostP_to] at hsp
     refine hsp.mono ?_
     rintro e w2 ⟨⟨vl, rfl, hol⟩, hj, hzz⟩
     obtain ⟨hjb, -, -, -, -, v, fs, hfm, hbl, hfs⟩ := hj
     obtain ⟨fa, fc, rfl, -⟩ := hfs.recIn
     have t0 := hbl.c0
     have t1 := hbl.free 0
     have hbl2 := hbl.set0 (.slice fa fs.length fc)
     have hfs2 := hfs.kept_lt (k := w.heap.size + 2) (grown_set w2 ⟨w.heap.size + 2, 0, none⟩ (.slice fa fs.length fc)) (by omega)
     have hol2 := own_set_other (p := ⟨w.heap.size + 2, 0, none⟩) (u := .slice fa fs.length fc) hol (blk_own_ne hbl hol (by decide))
     rw [HSZ.out] at hol2
     have HFM := Lib.hid hfm; have HFS := Lib.hid (hfs2.base (show w.heap.size <= w1.heap.size + 2 by omega)); have HOL := Lib.hid (own_base hol2 (show w.heap.size <= w1.heap.size + 2 by omega))
     have u0 := hbl2.c0
     clear hol hfm hbl hfs hbl2 hfs2 hol2 hsp v1 x1 x2 y2
     go_wp2_with fail
     (try simp only [Exit.inBlock, Exit.then])
     refine bodyPost_ret (v := .tuple #[.slice fa fs.length fc, vl, .int .i64 0]) (by rw [results_cell2 rfl]; go_simp) rfl ⟨SalRes.ok HE.out HFM.out HFS.out HOL.out, ?_⟩
     exact hjb.setCell (p := ⟨w.heap.size + 1 + 1, 0, none⟩) (by simp; omega) _
 · have he : salErr bs l = bookErr bs := by unfold salErr; rw [if_pos h1]
   have HE := Lib.hid he
   have h3 : (bookErr bs != 0) = true := by simpa using h1
   have h4 : (bookErr bs == 0) = false := by simpa using h1
   clear he
   go_enter Tryz.func56, Tryz.ntmps56
   go_wp2_with fail
   rw [<- HW.out]
   refine HCK.out.mono ?_
   rintro e w1 ⟨rfl, hb1⟩
   have hbe1 := HBW.out.trans (hb1.mono (by omega))
   have hz1 := hb1.size
   have p2 := HK2.out.below hb1 (by omega)
   have x2 := p2.c0
   have y2 := p2.free 0
   clear p2 hb1
   go_wp2_with fail
   (try simp only [Exit.inBlock, Exit.then])
   refine bodyPost_ret (v := .tuple #[.slice none 0 0, .slice none 0 0, .int .i64 (bookErr bs)]) (by rw [results_cell2 rfl]; go_simp) rfl ⟨SalRes.err HE.out h1, ?_⟩
   exact hbe1.setCell (p := ⟨w.heap.size + 1 + 1, 0, none⟩) (by simp; omega) _
end Go.Proofs.YtdpjdifoonfcdaaGreatDoor

namespace Go.Proofs.YtdpjdifoonfcdaaGreatDoor
open Go.RowKit
def strB : List Chan := [⟨⟨#[115, 116, 114, 97, 105, 110]⟩, 16, 16⟩]
def recR (ds : List Int) (n : Nat) : List Fr := (List.range n).map fun i : Nat => ((1000 : Int) + (i : Int), [(ds.drop (16 * i)).take 16])
theorem recR_len (ds : List Int) (n : Nat) : (recR ds n).length = n := by simp [recR]
theorem recR_snoc (ds : List Int) (n : Nat) : recR ds (n + 1) = recR ds n ++ [((1000 : Int) + (n : Int), [(ds.drop (16 * n)).take 16])] := by simp [recR, List.range_succ]
theorem recR_at {l : List Frm} {ds : List Int} {n i : Nat} {f : Frm} (h : l.map frm = recR ds n) (hf : l[i]? = some f) : i < n /\ f.st = 1000 + (i : Int) /\ f.xss = [(ds.drop (16 * i)).take 16] := by
 have h1 : (l.map frm)[i]? = some (frm f) := by rw [List.getElem?_map, hf]; rfl
 rw [h, recR, List.getElem?_map] at h1
 by_cases hi : i < n
 · rw [List.getElem?_range hi] at h1
   simp only [Option.map_some, Option.some.injEq, frm, Prod.mk.injEq] at h1
   exact ⟨hi, h1.1.symm, h1.2.symm⟩
 · rw [List.getElem?_eq_none (by simp; omega)] at h1
   cases h1
theorem recR_length {l : List Frm} {ds : List Int} {n : Nat} (h : l.map frm = recR ds n) : l.length = n := by
 have := congrArg List.length h
 rwa [List.length_map, recR_len] at this
theorem upTo_all {l : List Frm} (h : ∀ i, i + 1 < l.length -> (l.getD i ⟨0, none, 0, []⟩).st < (l.getD (i + 1) ⟨0, none, 0, []⟩).st) : ∀ k, k <= l.length -> upTo l k = true := by
 intro k
 induction k with
 | zero => intro _; rfl
 | succ k ih =>
   intro hk
   rw [upTo, ih (by omega), Bool.true_and, Bool.or_eq_true, decide_eq_true_eq, decide_eq_true_eq]
   by_cases h0 : k = 0
   · exact .inl h0
   · right
     have := h (k - 1) (by omega)
     rwa [show k - 1 + 1 = k by omega] at this
theorem rec_ok {l : List Frm} {ds : List Int} {n : Nat} (h : l.map frm = recR ds n) (hn : n <= 64) (hl : ds.length = 16 * n) (hb : ∀ x ∈ ds, -32768 <= x /\ x <= 32767) : recErr strB l = 0 := by
 have hlen := recR_length h
 have hbk : bookErr strB = 0 := by decide +kernel
 unfold recErr
 rw [if_neg (by rw [hbk]; decide), if_neg (by omega)]
 have hany : (l.any fun f => !frOK strB f.st f.xss) = false := by
  rw [List.any_eq_false]
  intro f hf
  obtain ⟨i, hi, hfi⟩ := List.mem_iff_getElem.1 hf
  obtain ⟨h1, h2, h3⟩ := recR_at h (show l[i]? = some f by rw [List.getElem?_eq_getElem hi, hfi])
  have hrl : ((ds.drop (16 * i)).take 16).length = 16 := by rw [List.length_take, List.length_drop]; omega
  have hrm : ∀ x ∈ (ds.drop (16 * i)).take 16, -32768 <= x /\ x <= 32767 := fun x hx => hb x (List.mem_of_mem_drop (List.mem_of_mem_take hx))
  rw [h2, h3]
  have hs : smpOK ⟨⟨#[115, 116, 114, 97, 105, 110]⟩, 16, 16⟩ ((ds.drop (16 * i)).take 16) = true := by
   unfold smpOK
   rw [Bool.and_eq_true, decide_eq_true_eq, hrl]
   refine ⟨rfl, ?_⟩
   rw [Bool.not_eq_true', List.any_eq_false]
   intro x hx
   have := hrm x hx
   have e : mostOf ⟨⟨#[115, 116, 114, 97, 105, 110]⟩, 16, 16⟩ = 32768 := by decide
   rw [e]
   simp only [inB, Bool.not_eq_true, Bool.not_eq_false', decide_eq_true_eq]
   omega
  have hf : frOK strB (1000 + (i : Int)) [(ds.drop (16 * i)).take 16] = true := by
   unfold frOK
   rw [Bool.and_eq_true, Bool.and_eq_true]
   refine ⟨?_, rfl, ?_⟩
   · simp only [inB, decide_eq_true_eq]; omega
   · show frTo strB [(ds.drop (16 * i)).take 16] 1 = true
     simp only [frTo, strB, List.getElem?_cons_zero, Bool.true_and, hs]
  rw [hf]; decide
 have hup : upTo l l.length = true := upTo_all (fun i hi => by
  obtain ⟨a, ha⟩ := get_of_lt (xs := l) (show i < l.length by omega)
  obtain ⟨b, hb2⟩ := get_of_lt (xs := l) hi
  rw [List.getD_eq_getElem?_getD, List.getD_eq_getElem?_getD, ha, hb2]
  have h1 := (recR_at h ha).2.1
  have h2 := (recR_at h hb2).2.1
  simp only [Option.getD_some]
  rw [h1, h2]; omega) _ (Nat.le_refl _)
 rw [hany, hup]
 decide
theorem recR_flat {ds : List Int} (g : Fr -> List Int) (hg : ∀ i : Nat, g ((1000 : Int) + (i : Int), [(ds.drop (16 * i)).take 16]) = (ds.drop (16 * i)).take 16) : ∀ n, (recR ds n).flatMap g = ds.take (16 * n) := by
 intro n
 induction n with
 | zero => simp [recR]
 | succ n ih =>
   rw [recR_snoc, List.flatMap_append, ih, List.flatMap_cons, List.flatMap_nil, List.append_nil, hg, show 16 * (n + 1) = 16 * n + 16 by omega, List.take_add]
theorem rec_series {l : List Frm} {ds : List Int} {n : Nat} (h : l.map frm = recR ds n) (hn : n <= 64) (hl : ds.length = 16 * n) (hb : ∀ x ∈ ds, -32768 <= x /\ x <= 32767) :
 serE strB l ⟨#[115, 116, 114, 97, 105, 110]⟩ 1000 (1000 + (n : Int)) = 0 /\ serR strB l ⟨#[115, 116, 114, 97, 105, 110]⟩ 1000 (1000 + (n : Int)) = ds := by
 have hlen := recR_length h
 have hre := rec_ok h hn hl hb
 have hin : ∀ f ∈ l, inF 1000 (1000 + (n : Int)) f = true := by
  intro f hf
  obtain ⟨i, hi, hfi⟩ := List.mem_iff_getElem.1 hf
  obtain ⟨h1, h2, h3⟩ := recR_at h (show l[i]? = some f by rw [List.getElem?_eq_getElem hi, hfi])
  unfold inF
  rw [h2, Bool.and_eq_true, decide_eq_true_eq, decide_eq_true_eq]
  omega
 have hcnt : cntOf 1000 (1000 + (n : Int)) l = n := by
  unfold cntOf
  rw [List.filter_eq_self.2 hin, hlen]
 have he : serE strB l ⟨#[115, 116, 114, 97, 105, 110]⟩ 1000 (1000 + (n : Int)) = 0 := by
  have hbt : btwErr strB l 1000 (1000 + (n : Int)) = 0 := by
   unfold btwErr
   rw [if_neg (by rw [hre]; decide), if_neg (by omega)]
  unfold serE
  rw [if_neg (by rw [hbt]; decide), if_neg (by decide +kernel), if_neg (by rw [hcnt]; omega)]
 refine ⟨he, ?_⟩
 unfold serR
 rw [if_pos he]
 have hci : chI strB ⟨#[115, 116, 114, 97, 105, 110]⟩ = 0 := by decide +kernel
 rw [hci]
 have hm : serOf 0 1000 (1000 + (n : Int)) l = (l.map frm).flatMap fun p => p.2.getD 0 [] := by
  unfold serOf
  rw [List.flatMap_map]
  rw [List.flatMap_def, List.flatMap_def]
  refine congrArg List.flatten (List.map_congr_left fun f hf => ?_)
  rw [hin f hf]; rfl
 rw [hm, h, recR_flat (ds := ds) _ (fun i => rfl), <- hl, List.take_length]
theorem burV_bd {ns hs : List Int} {B A : Int} (t0 k : Nat) (hB : 0 <= B /\ B <= 100) (hA : 0 <= A /\ A <= 250) (hh : ∀ x ∈ hs, -127 <= x /\ x <= 127) : -32768 <= burV ns hs B A t0 k /\ burV ns hs B A t0 k <= 32767 := by
 have h1 : -100 <= max (-B) (min (ns.getD k 0) B) /\ max (-B) (min (ns.getD k 0) B) <= 100 := by omega
 unfold burV
 split
 · rename_i hk
   have hm : hs.getD (k - t0) 0 ∈ hs := by
    rw [List.getD_eq_getElem?_getD, List.getElem?_eq_getElem hk.2]
    exact List.getElem_mem _
   obtain ⟨h2, h3⟩ := hh _ hm
   generalize hs.getD (k - t0) 0 = y at *
   have h4 := Int.mul_le_mul_of_nonneg_left h3 hA.1
   have h5 := Int.mul_le_mul_of_nonneg_left h2 hA.1
   omega
 · omega
theorem burN_bd {ns hs : List Int} {B A : Int} (t0 k : Nat) (hB : 0 <= B /\ B <= 100) (hA : 0 <= A /\ A <= 250) (hh : ∀ x ∈ hs, -127 <= x /\ x <= 127) : ∀ x ∈ burN ns hs B A t0 k, -32768 <= x /\ x <= 32767 := by
 induction k with
 | zero => intro x hx; cases hx
 | succ k ih =>
   intro x hx
   rcases List.mem_append.1 hx with h | h
   · exact ih x h
   · rw [List.mem_singleton] at h
     rw [h]; exact burV_bd t0 k hB hA hh
theorem rec_hits {L : Int} {cs : List (Int × Int)} {ns : List Int} {va fl B v : Int} {wn tn : Nat} {p q : Int} (hw : cs[wn]? = some (p, q)) (hk : chkB L cs = 0) (hS : SurT L p q B va fl v 0) (hB : 0 <= B /\ B <= 100) (hv : 0 <= v /\ v <= 250) (hn : ns.length <= 512) (ht : tn + L.toNat <= ns.length) :
 hitE L cs (burN ns ((wav L p q).take L.toNat) B v tn ns.length) va fl = 0 /\ (hitR L cs (burN ns ((wav L p q).take L.toNat) B v tn ns.length) va fl).any (atB tn wn) = true := by
 have hbd := burN_bd (ns := ns) (hs := (wav L p q).take L.toNat) (B := B) (A := v) tn ns.length hB hv (fun x hx => wav_bd L p q x (List.mem_of_mem_take hx))
 have hE : hitE L cs (burN ns ((wav L p q).take L.toNat) B v tn ns.length) va fl = 0 := by
  have hda : dataOK (burN ns ((wav L p q).take L.toNat) B v tn ns.length) = true := by
   unfold dataOK
   rw [Bool.and_eq_true, decide_eq_true_eq, burN_len, List.all_eq_true]
   refine ⟨hn, fun x hx => ?_⟩
   have := hbd x hx
   simp only [inB, decide_eq_true_eq]; omega
  have hvf : (inB 1 va 1048576 && inB 0 fl 65536) = true := by
   unfold SurT at hS
   split at hS
   · omega
   · split at hS
     · omega
     · split at hS
       · omega
       · rename_i h5
         simp only [Bool.not_eq_false, Bool.and_eq_true] at h5
         rw [Bool.and_eq_true]
         exact ⟨h5.1.2, h5.2⟩
  unfold hitE
  rw [if_neg (by rw [hk]; decide), if_neg (by rw [hda]; decide), if_neg (by rw [hvf]; decide)]
 have h := sure_mem (L := L) (cs := cs) (ns := ns) (va := va) (fl := fl) (B := B) (v := v) (mo := 0) (wn := wn) (tn := tn) hw (by rw [Int.add_zero]; exact hE) hS (Int.le_refl _) hB.1 ht
 rw [Int.add_zero] at h
 exact ⟨hE, h⟩
theorem rec_flat {bs : List Chan} {l : List Frm} (h : recErr bs l = 0) : packRes bs l = (l.map frm).flatMap encF := by
 rw [packRes, if_pos h, List.flatMap_map]; rfl
theorem rec_plen {bs : List Chan} {l : List Frm} (h : recErr bs l = 0) : (packRes bs l).length <= 435200 := by
 have h64 := (recErr_zero h).2.1
 have key : ∀ m : List Frm, (∀ f ∈ m, f ∈ l) -> (m.flatMap fun f => encB f.st f.xss).length <= 6800 * m.length := by
  intro m
  induction m with
  | nil => intro _; simp
  | cons f m ih =>
    intro hm
    obtain ⟨h1, -, h3, -⟩ := recErr_zero h
    have hz := frmErr_zero (show frmErr bs f.st f.xss = 0 by simp [frmErr, h1, h3 f (hm f (by simp))])
    have h2 := encB_length f.st f.xss (by omega) hz.2.2.2.2.2.1
    have h3 := ih (fun g hg => hm g (by simp [hg]))
    simp only [List.flatMap_cons, List.length_append, List.length_cons]
    omega
 have := key l (fun f hf => hf)
 rw [packRes, if_pos h]; omega
theorem rec_sal {bs : List Chan} {l : List Frm} (h : recErr bs l = 0) : (salTo bs (packRes bs l) (packRes bs l).length).1 = l.map frm /\ lostTo bs (packRes bs l) (packRes bs l).length = [] /\ salErr bs (packRes bs l) = 0 := by
 have hpl := rec_plen h
 have hpf := rec_flat h
 have hbook := (recErr_zero h).1
 obtain ⟨hu, hs1, hs2⟩ := pack_back h (packRes bs l).length (by
  have h5 : ∀ m : List Fr, m.length <= (m.flatMap encF).length := by
   intro m
   induction m with
   | nil => simp
   | cons f m ih => have := encF_pos f; simp only [List.flatMap_cons, List.length_append, List.length_cons]; omega
  have := h5 (l.map frm)
  rw [List.length_map] at this
  rw [hpf]; exact this)
 rw [<- hpf] at hs1 hs2
 exact ⟨by rw [hs1], hs2, by unfold salErr; rw [if_neg (by simpa using hbook), if_neg (by omega)]⟩
end Go.Proofs.YtdpjdifoonfcdaaGreatDoor

namespace Go.Proofs.YtdpjdifoonfcdaaGreatDoor
open Go.RowKit
theorem tdivz_floor {a b : Int} (hb : 0 < b) : (a.tmod b < 0 -> a.tdiv b - 1 = a / b) /\ (¬ a.tmod b < 0 -> a.tdiv b = a / b) := by
 have h1 := Int.mul_tdiv_add_tmod a b
 have h2 := Int.mul_ediv_add_emod a b
 have h3 := Int.emod_nonneg a (by omega : b ≠ 0)
 have h4 := Int.emod_lt_of_pos a hb
 have h5 : a.tmod b < b := Int.tmod_lt_of_pos a hb
 have h6 : -b < a.tmod b := by have := Int.lt_tmod_of_pos a hb; omega
 refine ⟨fun h => ?_, fun h => ?_⟩
 · have e : b * (a.tdiv b - 1 - a / b) = a % b - b - a.tmod b := by rw [Int.mul_sub, Int.mul_sub]; omega
   have : a.tdiv b - 1 - a / b = 0 := by
    rcases Int.lt_trichotomy (a.tdiv b - 1 - a / b) 0 with hl | hl | hl
    · have := Int.mul_le_mul_of_nonneg_left (show a.tdiv b - 1 - a / b <= -1 by omega) (Int.le_of_lt hb); omega
    · exact hl
    · have := Int.mul_le_mul_of_nonneg_left (show 1 <= a.tdiv b - 1 - a / b by omega) (Int.le_of_lt hb); omega
   omega
 · have e : b * (a.tdiv b - a / b) = a % b - a.tmod b := by rw [Int.mul_sub]; omega
   have : a.tdiv b - a / b = 0 := by
    rcases Int.lt_trichotomy (a.tdiv b - a / b) 0 with hl | hl | hl
    · have := Int.mul_le_mul_of_nonneg_left (show a.tdiv b - a / b <= -1 by omega) (Int.le_of_lt hb); omega
    · exact hl
    · have := Int.mul_le_mul_of_nonneg_left (show 1 <= a.tdiv b - a / b by omega) (Int.le_of_lt hb); omega
   omega
theorem tmodz_floor {a b : Int} (hb : 0 < b) : (a.tmod b < 0 -> a.tmod b + b = a % b) /\ (¬ a.tmod b < 0 -> a.tmod b = a % b) := by
 obtain ⟨f1, f2⟩ := tdivz_floor (a := a) hb
 have h1 := Int.mul_tdiv_add_tmod a b
 have h2 := Int.mul_ediv_add_emod a b
 refine ⟨fun h => ?_, fun h => ?_⟩
 · have := f1 h
   rw [<- this, Int.mul_sub] at h2
   omega
 · have := f2 h
   rw [<- this] at h2
   omega
theorem modz_any (a b : Int) (w : World) (hb : 1 <= b) (hb2 : b <= 4611686018427387904) :
 Calls Tryz.prog 13 #[.int .i64 a, .int .i64 b] w fun e w' => e = .returned (.int .i64 (a % b)) /\ w = w' := by
 have hf := tmodz_floor (a := a) (b := b) (by omega)
 have h0 : (b == 0) = false := by simp; omega
 have hr : -9223372036854775807 <= a.tmod b /\ a.tmod b <= 9223372036854775807 := by
  have h1 : a.tmod b < b := Int.tmod_lt_of_pos a (by omega)
  have h2 : -b < a.tmod b := by have := Int.lt_tmod_of_pos a (show 0 < b by omega); omega
  omega
 obtain ⟨r1, r2⟩ := hr
 have H1 := Lib.hid hf; clear hf
 by_cases hm : a.tmod b < 0
 · go_enter Tryz.func13, Tryz.ntmps13
   go_wp2
   go_ret
   exact ⟨ret_int (H1.out.1 hm), rfl⟩
 · go_enter Tryz.func13, Tryz.ntmps13
   go_wp2
   go_ret
   exact ⟨ret_int (H1.out.2 hm), rfl⟩
end Go.Proofs.YtdpjdifoonfcdaaGreatDoor

namespace Go.Proofs.YtdpjdifoonfcdaaGreatDoor
open Go.RowKit
theorem wav_zero (L p q : Int) (i : Nat) (h : L.toNat <= i) : (wav L p q).getD i 0 = 0 := by
 unfold wav
 rw [List.getD_eq_getElem?_getD]
 by_cases hi : i < 64
 · rw [smp_at _ _ _ _ hi, if_neg (by omega)]; rfl
 · rw [List.getElem?_eq_none (by rw [smp_length]; omega)]; rfl
theorem abS_zero {xs : List Int} {M : Nat} (h : ∀ i, M <= i -> xs.getD i 0 = 0) (n : Nat) : abS xs (M + n) = abS xs M := by
 induction n with
 | zero => rfl
 | succ n ih => rw [<- Nat.add_assoc]; simp only [abS, ih, h (M + n) (by omega)]; simp
set_option maxRecDepth 100000 in
set_option maxHeartbeats 4000000 in
theorem found_any (M : Nat) (xs : List Int) (a ns va fl : Int) (bv bn br bf ba : Nat) (w : World) (hx : xs.length = 64) (hM1 : 1 <= M) (hM : M <= 64) (h1 : ∀ x ∈ xs, -127 <= x /\ x <= 127)
 (a1 : 0 <= a) (a2 : a <= 1048576) (n1 : 0 <= ns) (n2 : ns <= 32768) (v1 : 1 <= va) (v2 : va <= 1048576) (f1 : 0 <= fl) (f2 : fl <= 65536)
 (hv : w.heap[bv]? = some (.cells (shp M xs) 129 (0, 0))) (c1 : w.cell? ⟨bn, 0, none⟩ = some (.int .i64 ns)) (c2 : w.cell? ⟨br, 0, none⟩ = some (.int .i64 (abS xs M))) (c3 : w.cell? ⟨bf, 0, none⟩ = some (.int .i64 fl)) (c4 : w.cell? ⟨ba, 0, none⟩ = some (.int .i64 va)) :
 Calls Tryz.prog 95 #[.int .i64 a, .pointer (some ⟨bv, 0, none⟩), .pointer (some ⟨bn, 0, none⟩), .pointer (some ⟨br, 0, none⟩), .pointer (some ⟨bf, 0, none⟩), .pointer (some ⟨ba, 0, none⟩)] w fun e w' => e = .returned (.bool (enoB xs M a ns (fl * va * sqTo xs 0 M))) /\ Below w.heap.size w w' := by
 have ho := fun w => norm_any M xs w hx (by omega) (by omega) h1
 rw [ovl_sqTo] at ho
 have hi : (Tryz.prog.info? 129).map (·.size) = some (shp M xs).size := by rw [shp_size, hx]; kernel_rfl
 have hlt := (Array.getElem?_eq_some_iff.1 hv).1
 have hsb := sqTo_bd h1 0 M
 have hab := abS_bd h1 M
 have eB : enoB xs M a ns (fl * va * sqTo xs 0 M) = (decide (0 < a * sqTo xs 0 M - ns * abS xs M) && decide (fl * va * sqTo xs 0 M <= (a * sqTo xs 0 M - ns * abS xs M) * (a * sqTo xs 0 M - ns * abS xs M))) := rfl
 rw [eB]
 clear eB
 generalize sqTo xs 0 M = S at *
 generalize abS xs M = R at *
 generalize shp M xs = V at ho hi hv
 have HI := Lib.hid hi; have HO := Lib.hid ho; have HV := Lib.hid hv
 clear hi ho hv h1 hx
 have pa := mul_bd (A := 1048577) (X := 1032256) (show -1048577 <= a by omega) (by omega) (show -1032256 <= S by omega) (by omega)
 have pb := mul_bd (A := 32768) (X := 8128) (show -32768 <= ns by omega) n2 (show -8128 <= R by omega) (by omega)
 have q1 : IntKind.i64.wrap (a * S) = a * S := IntWalk.i64_in _ (by omega)
 have q2 : IntKind.i64.wrap (ns * R) = ns * R := IntWalk.i64_in _ (by omega)
 obtain ⟨N, hN⟩ : ∃ N, N = a * S - ns * R := ⟨_, rfl⟩
 have q3 : IntKind.i64.wrap (a * S - ns * R) = N := by rw [hN]; exact IntWalk.i64_in _ (by omega)
 rw [<- hN]
 have hNb : -2000000000000 <= N /\ N <= 2000000000000 := by omega
 have p1 := Int.mul_le_mul f2 v2 (by omega) (by omega)
 have p2 := Int.mul_nonneg f1 (show 0 <= va by omega)
 have p3 := Int.mul_le_mul p1 (show S <= 1032256 by omega) (by omega) (by omega)
 have p4 := Int.mul_nonneg p2 (show 0 <= S by omega)
 have q5 : IntKind.i64.wrap (fl * va) = fl * va := IntWalk.i64_in _ (by omega)
 have q6 : IntKind.i64.wrap (fl * va * S) = fl * va * S := IntWalk.i64_in _ (by omega)
 have HN := Lib.hid hN
 clear pa pb hN hsb hab
 go_enter Tryz.func95, Tryz.ntmps95
 go_wp2_with fail
 refine wp_region_quiet (C := fun w' => Below w.heap.size w w') (by kernel_rfl) (by kernel_rfl) (Below.refl _ w).drew ?_
 simp only
 repeat
  (refine wpQuiet_step (fun K hK => ?_)
   first
    | (refine quiet_load_row (by rfl) 129 _ (by with_reducible rfl) bv (by rfl) 129 V (0, 0) _ (fun w' hw' => (hw'.block _ hlt).trans HV.out) Tryz.underlying129 (by rfl) HI.out ?_; refine hK _ ?_; clear hK K; simp only [Act.put, List.setIfInBounds_toArray, List.set_cons_succ, List.set_cons_zero])
    | (go_simp
       first
        | (refine hK _ ?_; clear hK K)
        | (apply Exists.intro
           refine ⟨fun w' hw' => ?_, hK _ ?_⟩
           (first
            | rfl
            | (have z1 := cell_keep c1 hw' (Nat.le_refl _); go_simp; rfl)
            | (have z2 := cell_keep c2 hw' (Nat.le_refl _); go_simp; rfl)
            | (with_reducible refine Calls.mono (HO.out w') ?_; exact fun e w'' ⟨he, hb⟩ => ⟨he, hw'.trans (hb.mono hw'.size)⟩))
           clear hK K)))
 refine wpQuiet_nil ?_
 intro w1 hb1
 have hlt1 : bv < w1.heap.size := Nat.lt_of_lt_of_le hlt hb1.size
 have hV1 := Lib.hid ((hb1.block _ hlt).trans HV.out)
 have d3 := cell_keep c3 hb1 (Nat.le_refl _)
 have d4 := cell_keep c4 hb1 (Nat.le_refl _)
 clear q1 q2 q3 c1 c2 c3 c4
 by_cases hp : 0 < N
 · have d1 : decide (0 < N) = true := decide_eq_true hp
   by_cases hg : 1073741824 <= N
   · have e1 : decide (1073741824 <= N) = true := decide_eq_true hg
     have hfin : (decide (0 < N) && decide (fl * va * S <= N * N)) = true := by
      have := Int.mul_le_mul hg hg (by omega) (by omega)
      rw [d1, Bool.true_and, decide_eq_true_iff]; omega
     have HF := Lib.hid hfin
     clear hfin p1 p2 p3 p4 q5 q6 hNb d3 d4 a1 a2 n1 n2 v1 v2 f1 f2
     go_wp2_with fail
     go_quiet (fail)
     go_wp2
     go_ret
     exact ⟨by rw [HF.out]; rfl, bel_drewN hb1 _⟩
   · have e1 : decide (1073741824 <= N) = false := decide_eq_false hg
     have hNN := Int.mul_le_mul (show N <= 1073741824 by omega) (show N <= 1073741824 by omega) (by omega) (by omega)
     have hN0 := Int.mul_nonneg (show 0 <= N by omega) (show 0 <= N by omega)
     have q4 : IntKind.i64.wrap (N * N) = N * N := IntWalk.i64_in _ (by omega)
     have HD1 := Lib.hid d1
     clear hNN hN0 p1 p2 p3 p4 hNb a1 a2 n1 n2 v1 v2 f1 f2
     go_wp2_with fail
     refine wp_region_quiet (C := fun w' => Below w1.heap.size w1 w') (by kernel_rfl) (by kernel_rfl) (Below.refl _ w1).drew ?_
     simp only
     repeat
      (refine wpQuiet_step (fun K hK => ?_)
       first
        | (refine quiet_load_row (by rfl) 129 _ (by with_reducible rfl) bv (by rfl) 129 V (0, 0) _ (fun w' hw' => (hw'.block _ hlt1).trans hV1.out) Tryz.underlying129 (by rfl) HI.out ?_; refine hK _ ?_; clear hK K; simp only [Act.put, List.setIfInBounds_toArray, List.set_cons_succ, List.set_cons_zero])
        | (go_simp
           first
            | (refine hK _ ?_; clear hK K)
            | (apply Exists.intro
               refine ⟨fun w' hw' => ?_, hK _ ?_⟩
               (first
                | rfl
                | (have z1 := cell_keep d3 hw' (Nat.le_refl _); go_simp; rfl)
                | (have z2 := cell_keep d4 hw' (Nat.le_refl _); go_simp; rfl)
                | (with_reducible refine Calls.mono (HO.out w') ?_; exact fun e w'' ⟨he, hb⟩ => ⟨he, hw'.trans (hb.mono hw'.size)⟩))
               clear hK K)))
     refine wpQuiet_nil ?_
     intro w2 hb2
     go_wp2
     go_ret
     exact ⟨by rw [HD1.out]; rfl, hb1.trans (hb2.mono hb1.size)⟩
 · have d1 : decide (0 < N) = false := decide_eq_false hp
   have HD1 := Lib.hid d1
   clear p1 p2 p3 p4 q5 q6 hNb d3 d4 a1 a2 n1 n2 v1 v2 f1 f2
   go_wp2_with fail
   go_quiet (fail)
   go_wp2
   go_ret
   exact ⟨by rw [HD1.out]; rfl, bel_drewN hb1 _⟩
end Go.Proofs.YtdpjdifoonfcdaaGreatDoor
