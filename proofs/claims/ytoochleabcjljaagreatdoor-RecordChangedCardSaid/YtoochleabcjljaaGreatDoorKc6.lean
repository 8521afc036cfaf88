/- Parts of a proof, in build order: D9, Dd, De, Df, A7, F2. -/
import Derived.Test.YtoochleabcjljaaGreatDoorKc5
import Derived.WalkMore
import Derived.Deep.RegionHeld3

/- Codes: frames of one's own; Unpack. -/
namespace Go.Proofs.YtoochleabcjljaaGreatDoor
open Go.RowKit

theorem Tryz.infoFrame : (Tryz.prog.info? 43).map (fun i => (i.zero, i.size, i.bytes)) = some (some (.agg #[.int .i64 0, .slice none 0 0]), 2, 32) := by kernel_rfl
theorem own_type {w : World} {b : Nat} {T : TypeId} {s n : Nat} {v : Value} {xs : List Value} (h : w.ownsRow b T s v n xs) {k : Nat} (hk : v.ownBlock = some k) : ∃ cs, Blk w k T cs := by
  rcases h.2 with ⟨rfl, _⟩ | ⟨g, cap, cur, rfl, _, hg, _⟩
  · simp [Value.ownBlock] at hk
  · simp [Value.ownBlock] at hk
    subst hk
    exact ⟨cur, hg⟩
/-- frames of one's own, with all their rows -/
def FrsO (base : Nat) (w : World) (v : Value) (l : List Frm) : Prop :=
  w.ownsRow base 43 2 v l.length (frs l) ∧ ∀ f ∈ l, FrO base w (.slice f.a f.xss.length f.c) f.xss
theorem FrsO.nil (base : Nat) (w : World) : FrsO base w (.slice none 0 0) [] := ⟨World.ownsRow_nil _ _ _ _, fun f hf => by simp at hf⟩
theorem FrO.kept_own {base b' : Nat} {w w' : World} {v v' : Value} {xss : List (List Int)} {T : TypeId} {s n : Nat} {xs : List Value} (h : FrO base w v xss) (ho : w.ownsRow b' T s v' n xs) (hg : w.grownBy w' v'.ownBlock) (h1 : T ≠ 3) (h2 : T ≠ 22) : FrO base w' v xss := by
  cases hv : v'.ownBlock with
  | none => rw [hv] at hg; exact h.kept hg (fun k e => by simp at e)
  | some k =>
    rw [hv] at hg
    obtain ⟨cs, hb⟩ := own_type ho hv
    exact h.kept_blk hg hb h1 h2
theorem FrsO.below {base : Nat} {w w' : World} {v : Value} {l : List Frm} (h : FrsO base w v l) (hb : Below w.heap.size w w') : FrsO base w' v l :=
  ⟨h.1.kept (row := none) ⟨hb.os, hb.tape, hb.output, hb.size, fun k hk _ => hb.block k hk⟩ (by cases hv : v.ownBlock <;> simp), fun f hf => (h.2 f hf).below hb⟩
theorem FrsO.base {base base' : Nat} {w : World} {v : Value} {l : List Frm} (h : FrsO base w v l) (hb : base' ≤ base) : FrsO base' w v l := ⟨own_base h.1 hb, fun f hf => (h.2 f hf).base hb⟩
theorem FrsO.kept_blk {base : Nat} {w w' : World} {v : Value} {l : List Frm} {b : Nat} {T : TypeId} {cs : Array Value} (h : FrsO base w v l) (hg : w.grownBy w' (some b)) (hb : Blk w b T cs) (h1 : T ≠ 3) (h2 : T ≠ 22) (h3 : T ≠ 43) : FrsO base w' v l :=
  ⟨h.1.kept hg (.inr (blk_own_ne hb h.1 h3)), fun f hf => (h.2 f hf).kept_blk hg hb h1 h2⟩
theorem FrsO.alloc {base : Nat} {w : World} {v : Value} {l : List Frm} (h : FrsO base w v l) (o : Obj) : FrsO base (w.alloc o) v l :=
  ⟨h.1.alloc o, fun f hf => (h.2 f hf).kept (World.grownBy_alloc w o none) (fun k e => by simp at e)⟩
theorem frs_snoc (l : List Frm) (f : Frm) : frs (l ++ [f]) = frs l ++ [.int .i64 f.st, .slice f.a f.xss.length f.c] := by simp [frs]
theorem FrsO.snoc {base : Nat} {w w' : World} {v v' : Value} {l : List Frm} {f : Frm} (h : FrsO base w v l) (hf : FrO base w (.slice f.a f.xss.length f.c) f.xss) (hg : w.grownBy w' v.ownBlock) (ho : w'.ownsRow base 43 2 v' (l.length + 1) (frs l ++ [.int .i64 f.st, .slice f.a f.xss.length f.c])) : FrsO base w' v' (l ++ [f]) := by
  refine ⟨by rw [frs_snoc, List.length_append]; exact ho, fun g hg2 => ?_⟩
  rcases List.mem_append.1 hg2 with hm | hm
  · exact (h.2 g hm).kept_own h.1 hg (by decide) (by decide)
  · rw [List.mem_singleton.1 hm]
    exact hf.kept_own h.1 hg (by decide) (by decide)
theorem FrsO.recIn {base : Nat} {w : World} {v : Value} {l : List Frm} (h : FrsO base w v l) : ∃ a c, v = .slice a l.length c ∧ RecIn w a l := by
  obtain ⟨a, c, rfl, hc, hn, hm⟩ := own_cap h.1
  have hmx : maxLen = 9223372036854775807 := rfl
  refine ⟨a, c, rfl, hc, by omega, fun f hf => ?_⟩
  obtain ⟨a', c', vs, he, hcs, hr, hl⟩ := (h.2 f hf).cells
  simp only [Value.slice.injEq, true_and] at he
  obtain ⟨rfl, rfl⟩ := he
  exact ⟨hl, vs, hcs, hr⟩
theorem frm_last (fs : List Frm) (k : Nat) (h : fs.length = k + 1) : ∃ f, fs[k]? = some f ∧ lastR (fs.map frm) = f.st := by
  rcases List.eq_nil_or_concat fs with rfl | ⟨l', b, rfl⟩
  · simp at h
  · rw [List.concat_eq_append] at h ⊢
    rw [List.length_append, List.length_singleton] at h
    refine ⟨b, by rw [List.getElem?_append_right (by omega), show k - l'.length = 0 from by omega]; rfl, ?_⟩
    rw [List.map_append, List.map_singleton, lastR_snoc]; rfl

/-- what Unpack returns: the record, the error -/
def unpS (bs : List Chan) (l : List Nat) : Option (List Fr) := if bookErr bs = 0 then unpackR bs l.length l [] else none
def unpErr (bs : List Chan) (l : List Nat) : Int := if bookErr bs ≠ 0 then bookErr bs else if (unpS bs l).isSome then 0 else 5
def FrsRes (base : Nat) (res : Option (List Fr)) (err : Int) (e : Ending) (w' : World) : Prop := match res with
  | some out => ∃ v fs, fs.map frm = out ∧ e = .returned (.tuple #[v, .int .i64 err]) ∧ FrsO base w' v fs
  | none => e = .returned (.tuple #[.slice none 0 0, .int .i64 err])
def lenU (v : Value) : Nat := match v with | .slice _ n _ => n | _ => 0

set_option maxRecDepth 100000 in
set_option maxHeartbeats 4000000 in
theorem unpack_any (ao : Option Addr) (bs : List Chan) (cap : Nat) (ac : Option Addr) (l : List Nat) (cc : Nat) (w : World) (hb : BookIn w ao bs cap) (hc : ByIn w ac l cc) :
    Calls Tryz.prog 42 #[.slice ao bs.length cap, .slice ac l.length cc] w fun e w' => FrsRes w.heap.size (unpS bs l) (unpErr bs l) e w' ∧ Below w.heap.size w w' := by
  have HB := Lib.hid hb; have HC := Lib.hid hc
  have hlen := hb.len
  have hcl := hc.len
  have hck := checkBook_any ao bs cap w hb.cells (by omega) hb.lecap hb.cap2 hb.names hb.rates
  have HCK := Lib.hid hck
  clear hb hc hck
  by_cases h1 : bookErr bs = 0
  · have hok := bookErr_zero h1
    have H1 := Lib.hid h1
    have HR : Hid (unpS bs l = unpackR bs l.length l []) := Lib.hid (by rw [unpS, if_pos h1])
    have HE : Hid (unpErr bs l = if (unpS bs l).isSome then 0 else 5) := Lib.hid (by rw [unpErr, if_neg (by simpa using h1)])
    have hfc := fun (W : World) (a' : Option Addr) (l' : List Nat) (c' : Nat) (h : BookIn W ao bs cap) (h2 : ByIn W a' l' c') => first_code ao bs cap a' l' c' W h hok h2.cells h2.byte h2.len h2.lecap h2.cap2
    have HFC := Lib.hid hfc
    obtain ⟨i0, hi, hy0, hy1, hy2⟩ := info_parts Tryz.infoFrame
    clear h1 hok hfc
    go_enter Tryz.func42, Tryz.ntmps42
    go_wp2
    go_step3
    go_wp2_with fail
    refine HCK.out.mono ?_
    rintro e w1 ⟨rfl, hb1⟩
    rw [H1.out]
    have hz1 := hb1.size
    have HB1 := Lib.hid hb1
    clear hb1
    go_wp2
    go_step3
    go_wp2
    go_loopw [1, 7] (fun c v wr => ∃ (rest : List Nat) (a' : Option Addr) (c' f : Nat) (fs : List Frm), c = .slice a' rest.length c' ∧ ByIn w a' rest c' ∧ (rest ≠ [] → ∃ b off, a' = some ⟨b, off, none⟩) ∧ FrsO w.heap.size wr v fs ∧ fs.length ≤ 64 ∧ rest.length ≤ f ∧ unpackR bs f rest (fs.map frm) = unpackR bs l.length l [] ∧ Below w.heap.size w wr) (fun c _ _ => lenU c)
    case atStart =>
      refine ⟨l, ac, cc, l.length, [], rfl, HC.out, fun hne => HC.out.cells.addr (bys_ne (List.length_pos_iff.2 hne)), FrsO.nil _ _, by simp, Nat.le_refl _, rfl, HB1.out⟩
    case round =>
      obtain ⟨rest, a', c', f, fs, rfl, hby, hadr, hfs, h64, hf, hun, hbe⟩ := hrel
      have HUN := Lib.hid hun
      have hz := hbe.size
      clear hun
      by_cases h0 : rest.length = 0
      · obtain rfl : rest = [] := List.length_eq_zero_iff.1 h0
        have hu : unpackR bs l.length l [] = some (fs.map frm) := by rw [← HUN.out, unpackR_nil]
        have hr : unpS bs l = some (fs.map frm) := by rw [HR.out, hu]
        have he : unpErr bs l = 0 := by rw [HE.out, hr]; rfl
        have HR2 := Lib.hid hr; have HE2 := Lib.hid he; have HFS := Lib.hid hfs
        clear hu hr he hfs h0 hf
        go_wp2
        (try rw [Exit.noGoto_ret])
        go_ret2
        rw [HR2.out, HE2.out]
        exact ⟨⟨_, fs, rfl, rfl, HFS.out⟩, hbe⟩
      · have hfr := HFC.out wr a' rest c' (HB.out.below hbe (Nat.le_refl _)) (hby.below hbe (Nat.le_refl _))
        have HFR := Lib.hid hfr; have HBY := Lib.hid hby; have HFS := Lib.hid hfs
        have h0i : (0 : Int) < rest.length := by omega
        clear hfr hby hfs
        go_wp2_with fail
        refine HFR.out.mono ?_
        rintro e w2 ⟨hres, hb2⟩
        have hbe2 := hbe.trans (hb2.mono hz)
        have hfs2 := HFS.out.below hb2
        have hz2 := hb2.size
        obtain ⟨fa, fc, rfl, -⟩ := hfs2.recIn
        cases hfi : firstR bs rest with
        | none =>
          rw [hfi] at hres
          obtain rfl : e = .returned (.tuple #[.agg #[.int .i64 0, .slice none 0 0], .slice none 0 0, .bool false]) := hres
          have hu : unpackR bs l.length l [] = none := by rw [← HUN.out]; exact unpackR_none (by omega) hfi
          have hr : unpS bs l = none := by rw [HR.out, hu]
          have he : unpErr bs l = 5 := by rw [HE.out, hr]; rfl
          have HR2 := Lib.hid hr; have HE2 := Lib.hid he
          have hbe3 := hbe2.alloc (by omega) (.cells #[.int .i64 0, .slice none 0 0] 43)
          clear hu hr he hfs2 hb2
          go_wp2_with fail
          (try rw [Exit.noGoto_ret])
          go_ret2
          rw [HR2.out, HE2.out]
          exact ⟨rfl, hbe3⟩
        | some p =>
          obtain ⟨⟨st, xss⟩, n⟩ := p
          rw [hfi] at hres
          obtain ⟨v, c2, rfl, hfo⟩ := hres
          obtain ⟨a, c, vs, rfl, -, -, -⟩ := hfo.cells
          have hbe3 := hbe2.alloc (by omega) (.cells #[.int .i64 st, .slice a xss.length c] 43)
          have hxb := Blk.new w2 43 #[.int .i64 st, .slice a xss.length c]
          have z0 := hxb.c0
          have z1 := hxb.c1
          by_cases hbad : fs.length = 64
          · have hu : unpackR bs l.length l [] = none := by rw [← HUN.out]; exact unpackR_bad (by omega) hfi (.inl (by simpa using hbad))
            have hr : unpS bs l = none := by rw [HR.out, hu]
            have he : unpErr bs l = 5 := by rw [HE.out, hr]; rfl
            have HR2 := Lib.hid hr; have HE2 := Lib.hid he
            clear hu hr he hfs2 hb2 hfo
            go_wp2_with fail
            (try rw [Exit.noGoto_ret])
            go_ret2
            rw [HR2.out, HE2.out]
            exact ⟨rfl, hbe3⟩
          · obtain ⟨hfok, -, hnl, -, hn7⟩ := firstR_sound hfi
            have hst0 : 0 ≤ st := by
              simp only [frOK, inB, Bool.and_eq_true, decide_eq_true_eq] at hfok
              omega
            have hnc : (n : Int) ≤ rest.length := by omega
            have hnc2 : (rest.length : Int) ≤ c' := by have := HBY.out.lecap; omega
            have hxs : (w2.alloc (.cells #[.int .i64 st, .slice a xss.length c] 43)).heap.size = w2.heap.size + 1 := by simp
            have hfs3 := hfs2.alloc (.cells #[.int .i64 st, .slice a xss.length c] 43)
            have hfo3 := (hfo.base (show w.heap.size ≤ wr.heap.size from hz)).kept (World.grownBy_alloc w2 (.cells #[.int .i64 st, .slice a xss.length c] 43) none) (fun k e => by simp at e)
            have HFS3 := Lib.hid hfs3; have HFO3 := Lib.hid hfo3; have HXB := Lib.hid hxb; have HFI := Lib.hid hfi
            clear hfs2 hfs3 hfo hfo3 hxb hb2 hfi hfok
            obtain ⟨ba, oa, rfl⟩ := hadr (List.length_pos_iff.1 (by omega))
            rcases Nat.eq_zero_or_pos fs.length with hk0 | hk0
            · have hgood : ¬ ((fs.map frm).length = 64 ∨ st ≤ lastR (fs.map frm)) := by
                rw [List.length_eq_zero_iff.1 hk0]; simp [lastR]; omega
              have hkz : ¬ 0 < fs.length := by omega
              have HG := Lib.hid hgood; have HK := Lib.hid hk0
              clear hgood hk0
              go_wp2_with fail
              go_quiet (fail)
              go_wp2_with fail
              clear hkz
              -- one frame more
              have HD : Hid (FrsO w.heap.size ((w2.alloc (.cells #[.int .i64 st, .slice a xss.length c] 43)).drewN nq) (.slice fa fs.length fc) fs) := Lib.hid HFS3.out
              have HFD : Hid (FrO w.heap.size ((w2.alloc (.cells #[.int .i64 st, .slice a xss.length c] 43)).drewN nq) (.slice a xss.length c) xss) := Lib.hid HFO3.out
              have z0d : ((w2.alloc (.cells #[.int .i64 st, .slice a xss.length c] 43)).drewN nq).cell? ⟨w2.heap.size, 0, none⟩ = some (.int .i64 st) := z0
              have z1d : ((w2.alloc (.cells #[.int .i64 st, .slice a xss.length c] 43)).drewN nq).cell? ⟨w2.heap.size, 1, none⟩ = some (.slice a xss.length c) := z1
              have hbed := bel_drewN hbe3 nq
              have hzd : ((w2.alloc (.cells #[.int .i64 st, .slice a xss.length c] 43)).drewN nq).heap.size = w2.heap.size + 1 := by simp
              have hze := hbed.size
              have HZD := Lib.hid hzd
              clear HFS3 HFO3 z0 z1 hbe3 hxs hzd
              generalize (w2.alloc (.cells #[.int .i64 st, .slice a xss.length c] 43)).drewN nq = wd at *
              go_region_law (refine step_append_lies _ (by rfl) _ _ _ (by rfl) w.heap.size 43 i0 _ 2 32 Tryz.underlying38 hi hy0 hy1 hy2 rfl (by omega) (.slice fa fs.length fc) fs.length (frs fs) (by rfl) ((HD.out.1.alloc _).drew) ⟨wd.heap.size, 0, none⟩ 1 1 [.int .i64 st, .slice a xss.length c] (by rfl) (by rfl) (World.news_of_block (cs := #[.int .i64 st, .slice a xss.length c]) (t := 43) (fr := (0, 0)) (heap_alloc_new wd _)) (by simp [Value.oneCell']) (by omega) (by unfold maxLen; omega) (by omega) (by simp; omega) (wd.heap.size + 1) (by simp) ?_; intro gg cp wz hown1 hgrow hat hlt1)
              have hfsz := HD.out.alloc (.cells #[.int .i64 st, .slice a xss.length c] 43)
              have hfoz := HFD.out.kept (World.grownBy_alloc wd (.cells #[.int .i64 st, .slice a xss.length c] 43) none) (fun k e => by simp at e)
              have hfs5 := FrsO.snoc (w' := wz) (f := ⟨st, a, c, xss⟩) hfsz hfoz ⟨hgrow.os, hgrow.tape, hgrow.output, hgrow.size, hgrow.block⟩ hown1
              have hbez := (hbed.alloc hze (.cells #[.int .i64 st, .slice a xss.length c] 43)).grown (w' := wz) ⟨hgrow.os, hgrow.tape, hgrow.output, hgrow.size, hgrow.block⟩ (by simp; omega) (fun j e => (HD.out.1.lt j e).1)
              have HF5 := Lib.hid hfs5; have HBZ := Lib.hid hbez
              clear hfsz hfoz hfs5 hown1 hgrow hat hlt1 hbez z0d z1d hbed
              obtain ⟨g, rfl⟩ : ∃ g, f = g + 1 := ⟨f - 1, by omega⟩
              have hunp : unpackR bs g (rest.drop n) ((fs ++ [(⟨st, a, c, xss⟩ : Frm)]).map frm) = unpackR bs l.length l [] := by
                rw [← HUN.out, unpackR_step (by omega) HFI.out HG.out]
                simp [frm]
              have HUNP := Lib.hid hunp
              have hrl : (rest.drop n).length = rest.length - n := List.length_drop
              have HRL := Lib.hid hrl
              have hby3 : ByIn w (if c' = n then some ⟨ba, oa, none⟩ else some ⟨ba, oa + n, none⟩) (rest.drop n) (c' - n) := by
                refine ⟨?_, fun d hd => HBY.out.byte d (List.mem_of_mem_drop hd), by have := HBY.out.len; omega, by omega, by have := HBY.out.cap2; omega⟩
                split
                · rw [List.drop_eq_nil_of_le (by omega)]; exact Cells.nil _ _
                · refine .inr ⟨ba, oa + n, rfl, fun j u hu => ?_⟩
                  rw [Nat.add_assoc]
                  refine HBY.out.cells.at ?_
                  rw [← hu, bys, bys, List.map_drop, List.getElem?_drop]
              clear hunp hrl
              have HBY3 := Lib.hid hby3
              clear hby3
              go_wp2
              · have hcz : c' = n := by assumption
                have hby3 := HBY3.out
                rw [if_pos hcz, show c' - n = 0 from by omega] at hby3
                refine ⟨⟨rest.drop n, some ⟨ba, oa, none⟩, 0, ⟨rfl, HRL.out.symm, rfl⟩, hby3, fun _ => ⟨_, _, rfl⟩, g, fs ++ [⟨st, a, c, xss⟩], by simpa using HF5.out, by rw [List.length_append, List.length_singleton]; omega, by rw [HRL.out]; omega, HUNP.out, HBZ.out⟩, ?_⟩
                simp only [lenU]; omega
              · have hcz : ¬ c' = n := by assumption
                have hby3 := HBY3.out
                rw [if_neg hcz] at hby3
                refine ⟨⟨rest.drop n, some ⟨ba, oa + n, none⟩, c' - n, ⟨rfl, HRL.out.symm, rfl⟩, hby3, fun _ => ⟨_, _, rfl⟩, g, fs ++ [⟨st, a, c, xss⟩], by simpa using HF5.out, by rw [List.length_append, List.length_singleton]; omega, by rw [HRL.out]; omega, HUNP.out, HBZ.out⟩, ?_⟩
                simp only [lenU]; omega
            · obtain ⟨k, hk⟩ : ∃ k, fs.length = k + 1 := ⟨fs.length - 1, by omega⟩
              obtain ⟨lf, hlf, hlast⟩ := frm_last fs k hk
              obtain ⟨fa', fc', he, hri⟩ := HFS3.out.recIn
              simp only [Value.slice.injEq, true_and] at he
              obtain ⟨rfl, rfl⟩ := he
              obtain ⟨fb, fo, rfl⟩ := hri.cells.addr (frs_ne (by omega))
              have y0 := hri.cells.at (frs_get hlf).1
              have q1 : IntKind.i64.wrap ((fs.length : Int) - 1) = (fs.length : Int) - 1 := IntWalk.i64_in _ (by omega)
              have q2 : ((fs.length : Int) - 1).toNat = k := by omega
              have q3 : (0 : Int) ≤ (fs.length : Int) - 1 := by omega
              have q4 : (fs.length : Int) - 1 < fs.length := by omega
              have hkz : 0 < fs.length := hk0
              by_cases hls : st ≤ lf.st
              · have hu : unpackR bs l.length l [] = none := by rw [← HUN.out]; exact unpackR_bad (by omega) HFI.out (.inr (by rw [hlast]; exact hls))
                have hr : unpS bs l = none := by rw [HR.out, hu]
                have he : unpErr bs l = 5 := by rw [HE.out, hr]; rfl
                have HR2 := Lib.hid hr; have HE2 := Lib.hid he
                clear hu hr he hri hlf hlast hk hk0
                go_wp2_with fail
                go_quiet (fail)
                go_wp2_with fail
                (try rw [Exit.noGoto_ret])
                go_ret2
                rw [HR2.out, HE2.out]
                exact ⟨rfl, bel_drewN hbe3 _⟩
              · have hgood : ¬ ((fs.map frm).length = 64 ∨ st ≤ lastR (fs.map frm)) := by
                  rw [hlast]; simp; omega
                have HG := Lib.hid hgood; have HK := Lib.hid hk
                clear hgood hk hk0 hri hlf hlast
                go_wp2_with fail
                go_quiet (fail)
                go_wp2_with fail
                clear hkz q1 q2 q3 q4 y0
                -- one frame more
                have HD : Hid (FrsO w.heap.size ((w2.alloc (.cells #[.int .i64 st, .slice a xss.length c] 43)).drewN nq) (.slice (some ⟨fb, fo, none⟩) fs.length fc) fs) := Lib.hid HFS3.out
                have HFD : Hid (FrO w.heap.size ((w2.alloc (.cells #[.int .i64 st, .slice a xss.length c] 43)).drewN nq) (.slice a xss.length c) xss) := Lib.hid HFO3.out
                have z0d : ((w2.alloc (.cells #[.int .i64 st, .slice a xss.length c] 43)).drewN nq).cell? ⟨w2.heap.size, 0, none⟩ = some (.int .i64 st) := z0
                have z1d : ((w2.alloc (.cells #[.int .i64 st, .slice a xss.length c] 43)).drewN nq).cell? ⟨w2.heap.size, 1, none⟩ = some (.slice a xss.length c) := z1
                have hbed := bel_drewN hbe3 nq
                have hzd : ((w2.alloc (.cells #[.int .i64 st, .slice a xss.length c] 43)).drewN nq).heap.size = w2.heap.size + 1 := by simp
                have hze := hbed.size
                have HZD := Lib.hid hzd
                clear HFS3 HFO3 z0 z1 hbe3 hxs hzd
                generalize (w2.alloc (.cells #[.int .i64 st, .slice a xss.length c] 43)).drewN nq = wd at *
                go_region_law (refine step_append_lies _ (by rfl) _ _ _ (by rfl) w.heap.size 43 i0 _ 2 32 Tryz.underlying38 hi hy0 hy1 hy2 rfl (by omega) (.slice (some ⟨fb, fo, none⟩) fs.length fc) fs.length (frs fs) (by rfl) ((HD.out.1.alloc _).drew) ⟨wd.heap.size, 0, none⟩ 1 1 [.int .i64 st, .slice a xss.length c] (by rfl) (by rfl) (World.news_of_block (cs := #[.int .i64 st, .slice a xss.length c]) (t := 43) (fr := (0, 0)) (heap_alloc_new wd _)) (by simp [Value.oneCell']) (by omega) (by unfold maxLen; omega) (by omega) (by simp; omega) (wd.heap.size + 1) (by simp) ?_; intro gg cp wz hown1 hgrow hat hlt1)
                have hfsz := HD.out.alloc (.cells #[.int .i64 st, .slice a xss.length c] 43)
                have hfoz := HFD.out.kept (World.grownBy_alloc wd (.cells #[.int .i64 st, .slice a xss.length c] 43) none) (fun k e => by simp at e)
                have hfs5 := FrsO.snoc (w' := wz) (f := ⟨st, a, c, xss⟩) hfsz hfoz ⟨hgrow.os, hgrow.tape, hgrow.output, hgrow.size, hgrow.block⟩ hown1
                have hbez := (hbed.alloc hze (.cells #[.int .i64 st, .slice a xss.length c] 43)).grown (w' := wz) ⟨hgrow.os, hgrow.tape, hgrow.output, hgrow.size, hgrow.block⟩ (by simp; omega) (fun j e => (HD.out.1.lt j e).1)
                have HF5 := Lib.hid hfs5; have HBZ := Lib.hid hbez
                clear hfsz hfoz hfs5 hown1 hgrow hat hlt1 hbez z0d z1d hbed
                obtain ⟨g, rfl⟩ : ∃ g, f = g + 1 := ⟨f - 1, by omega⟩
                have hunp : unpackR bs g (rest.drop n) ((fs ++ [(⟨st, a, c, xss⟩ : Frm)]).map frm) = unpackR bs l.length l [] := by
                  rw [← HUN.out, unpackR_step (by omega) HFI.out HG.out]
                  simp [frm]
                have HUNP := Lib.hid hunp
                have hrl : (rest.drop n).length = rest.length - n := List.length_drop
                have HRL := Lib.hid hrl
                have hby3 : ByIn w (if c' = n then some ⟨ba, oa, none⟩ else some ⟨ba, oa + n, none⟩) (rest.drop n) (c' - n) := by
                  refine ⟨?_, fun d hd => HBY.out.byte d (List.mem_of_mem_drop hd), by have := HBY.out.len; omega, by omega, by have := HBY.out.cap2; omega⟩
                  split
                  · rw [List.drop_eq_nil_of_le (by omega)]; exact Cells.nil _ _
                  · refine .inr ⟨ba, oa + n, rfl, fun j u hu => ?_⟩
                    rw [Nat.add_assoc]
                    refine HBY.out.cells.at ?_
                    rw [← hu, bys, bys, List.map_drop, List.getElem?_drop]
                clear hunp hrl
                have HBY3 := Lib.hid hby3
                clear hby3
                go_wp2
                · have hcz : c' = n := by assumption
                  have hby3 := HBY3.out
                  rw [if_pos hcz, show c' - n = 0 from by omega] at hby3
                  refine ⟨⟨rest.drop n, some ⟨ba, oa, none⟩, 0, ⟨rfl, HRL.out.symm, rfl⟩, hby3, fun _ => ⟨_, _, rfl⟩, g, fs ++ [⟨st, a, c, xss⟩], by simpa using HF5.out, by rw [List.length_append, List.length_singleton]; omega, by rw [HRL.out]; omega, HUNP.out, HBZ.out⟩, ?_⟩
                  simp only [lenU]; omega
                · have hcz : ¬ c' = n := by assumption
                  have hby3 := HBY3.out
                  rw [if_neg hcz] at hby3
                  refine ⟨⟨rest.drop n, some ⟨ba, oa + n, none⟩, c' - n, ⟨rfl, HRL.out.symm, rfl⟩, hby3, fun _ => ⟨_, _, rfl⟩, g, fs ++ [⟨st, a, c, xss⟩], by simpa using HF5.out, by rw [List.length_append, List.length_singleton]; omega, by rw [HRL.out]; omega, HUNP.out, HBZ.out⟩, ?_⟩
                  simp only [lenU]; omega
  · have hr : unpS bs l = none := by rw [unpS, if_neg h1]
    have he : unpErr bs l = bookErr bs := by rw [unpErr, if_pos h1]
    have HR2 := Lib.hid hr; have HE2 := Lib.hid he
    have h3 : (bookErr bs != 0) = true := by simpa using h1
    have h4 : (bookErr bs == 0) = false := by simpa using h1
    clear hr he
    go_enter Tryz.func42, Tryz.ntmps42
    go_wp2
    go_step3
    go_wp2_with fail
    refine HCK.out.mono ?_
    rintro e w1 ⟨rfl, hb1⟩
    go_wp2
    (try rw [Exit.noGoto_ret])
    go_ret2
    rw [HR2.out, HE2.out]
    exact ⟨rfl, hb1⟩
end Go.Proofs.YtoochleabcjljaaGreatDoor

/- Codes: spans, over whatever is asked of each place. -/
namespace Go.Proofs.YtoochleabcjljaaGreatDoor
open Go.RowKit

/-- blocks of some types are as they were -/
def TKeep (P : TypeId → Prop) (w w' : World) : Prop := w.heap.size ≤ w'.heap.size ∧ ∀ k T cs, P T → Blk w k T cs → Blk w' k T cs
theorem TKeep.refl (P : TypeId → Prop) (w : World) : TKeep P w w := ⟨Nat.le_refl _, fun _ _ _ _ h => h⟩
theorem TKeep.trans {P : TypeId → Prop} {a b c : World} (h : TKeep P a b) (k : TKeep P b c) : TKeep P a c := ⟨Nat.le_trans h.1 k.1, fun i T cs hp hb => k.2 i T cs hp (h.2 i T cs hp hb)⟩
theorem TKeep.of_grown {P : TypeId → Prop} {w w' : World} {row : Option Nat} (hg : w.grownBy w' row) (hr : ∀ k, row = some k → ∃ T cs, Blk w k T cs ∧ ¬ P T) : TKeep P w w' := by
  refine ⟨hg.size, fun k T cs hp hb => hb.kept hg (fun e => ?_)⟩
  obtain ⟨T', cs', hb', hn⟩ := hr k e.symm
  have h1 : w.heap[k]? = _ := hb
  have h2 : w.heap[k]? = _ := hb'
  rw [h1] at h2
  simp at h2
  exact hn (by rw [← h2.2]; exact hp)
theorem TKeep.of_own {P : TypeId → Prop} {w w' : World} {b : Nat} {T : TypeId} {s n : Nat} {v : Value} {xs : List Value} (ho : w.ownsRow b T s v n xs) (hg : w.grownBy w' v.ownBlock) (hn : ¬ P T) : TKeep P w w' :=
  .of_grown hg (fun k e => by obtain ⟨cs, hb⟩ := own_type ho e; exact ⟨T, cs, hb, hn⟩)
theorem TKeep.of_below {P : TypeId → Prop} {w w' : World} (hb : Below w.heap.size w w') : TKeep P w w' := ⟨hb.size, fun _ _ _ _ h => h.below hb h.lt⟩
theorem TKeep.own {P : TypeId → Prop} {w w' : World} {b : Nat} {T : TypeId} {s n : Nat} {v : Value} {xs : List Value} (h : TKeep P w w') (hp : P T) (ho : w.ownsRow b T s v n xs) : w'.ownsRow b T s v n xs := by
  refine ⟨ho.1, ?_⟩
  rcases ho.2 with hn | ⟨g, cap, cur, rfl, hb, hg, rest⟩
  · exact .inl hn
  · exact .inr ⟨g, cap, cur, rfl, hb, h.2 g T cur hp hg, rest⟩
theorem TKeep.frO {P : TypeId → Prop} {w w' : World} {b : Nat} {v : Value} {xss : List (List Int)} (h : TKeep P w w') (h1 : P 3) (h2 : P 22) (hf : FrO b w v xss) : FrO b w' v xss := by
  obtain ⟨vs, e1, e2, e3⟩ := hf
  exact ⟨vs, e1, h.own h2 e2, fun i x xs hx hxs => h.own h1 (e3 i x xs hx hxs)⟩
theorem TKeep.frsO {P : TypeId → Prop} {w w' : World} {b : Nat} {v : Value} {l : List Frm} (h : TKeep P w w') (h1 : P 3) (h2 : P 22) (h3 : P 43) (hf : FrsO b w v l) : FrsO b w' v l :=
  ⟨h.own h3 hf.1, fun f hm => h.frO h1 h2 (hf.2 f hm)⟩
/-- what spans itself keeps, and what is asked of the callee -/
def SpT (T : TypeId) : Prop := T = 71 ∨ T = 54
def NSpT (T : TypeId) : Prop := ¬ SpT T

theorem joinS_snoc (ss : List (Int × Int)) (p : Int × Int) (i : Nat) : joinS (ss ++ [p]) i = if p.2 = (i : Int) then ss ++ [(p.1, (i : Int) + 1)] else ss ++ [p] ++ [((i : Int), (i : Int) + 1)] := by
  unfold joinS; simp
theorem joinS_nil (i : Nat) : joinS [] i = [((i : Int), (i : Int) + 1)] := rfl
theorem prs_last (ss : List (Int × Int)) (p : Int × Int) (u : Int) : (prs (ss ++ [p])).set (ss.length * 2 + 1) (.int .i64 u) = prs (ss ++ [(p.1, u)]) := by
  rw [prs_append, prs_append, List.set_append_right _ _ (by rw [prs_length]; omega), prs_length, show ss.length * 2 + 1 - ss.length * 2 = 1 from by omega]
  rfl

set_option maxRecDepth 100000 in
set_option maxHeartbeats 1000000 in
theorem spans1_any (base bO : Nat) (hO : base ≤ bO) (i : Nat) (ss : List (Int × Int)) (v : Value) (w : World) (hi : i ≤ 1099511627776) (hl : ss.length ≤ 1099511627776) (hb : Blk w bO 54 #[v]) (ho : w.ownsRow base 71 2 v ss.length (prs ss)) :
    Calls Tryz.prog 135 #[.int .i64 (i : Nat), .pointer (some ⟨bO, 0, none⟩)] w fun e w' => e = .returned (.tuple #[]) ∧ (∃ v', Blk w' bO 54 #[v'] ∧ w'.ownsRow base 71 2 v' (joinS ss i).length (prs (joinS ss i))) ∧ Below base w w' ∧ TKeep NSpT w w' := by
  have hsz : base ≤ w.heap.size := by have := hb.lt; omega
  have c1 := hb.c0
  have f1 := hb.free 0
  obtain ⟨i0, hi0, hz0, hz1, hz2⟩ := info_parts Tryz.infoSpan
  have HB := Lib.hid hb; have HO := Lib.hid ho
  have happ : ∀ (gg cp : Nat) (wz : World), (w.alloc (.cells #[.int .i64 i, .int .i64 ((i : Int) + 1)] 71)).grownBy wz v.ownBlock → wz.ownsRow base 71 2 (.slice (some ⟨gg, 0, none⟩) (ss.length + 1) cp) (ss.length + 1) (prs ss ++ [.int .i64 i, .int .i64 ((i : Int) + 1)]) →
      wz.cell? ⟨bO, 0, none⟩ = some v ∧ wz.frozen? ⟨bO, 0, none⟩ = false ∧ Blk (wz.setCell ⟨bO, 0, none⟩ (.slice (some ⟨gg, 0, none⟩) (ss.length + 1) cp)) bO 54 #[.slice (some ⟨gg, 0, none⟩) (ss.length + 1) cp] ∧ (wz.setCell ⟨bO, 0, none⟩ (.slice (some ⟨gg, 0, none⟩) (ss.length + 1) cp)).ownsRow base 71 2 (.slice (some ⟨gg, 0, none⟩) (ss.length + 1) cp) (ss ++ [((i : Int), (i : Int) + 1)]).length (prs (ss ++ [((i : Int), (i : Int) + 1)])) ∧
      Below base w (wz.setCell ⟨bO, 0, none⟩ (.slice (some ⟨gg, 0, none⟩) (ss.length + 1) cp)) ∧ TKeep NSpT w (wz.setCell ⟨bO, 0, none⟩ (.slice (some ⟨gg, 0, none⟩) (ss.length + 1) cp)) := by
    intro gg cp wz hg hown
    have k2 := (HB.out.alloc (.cells #[.int .i64 i, .int .i64 ((i : Int) + 1)] 71)).kept hg (fun e => blk_own_ne HB.out HO.out (by decide) e.symm)
    have t2 := blk_own_ne k2 hown (by decide)
    have ha := World.grownBy_alloc w (.cells #[.int .i64 i, .int .i64 ((i : Int) + 1)] 71)
    refine ⟨k2.c0, k2.free 0, k2.set0 _, ?_, ?_, ?_⟩
    · rw [List.length_append, prs_append]; exact own_set_other hown t2
    · exact (((Below.refl base w).alloc hsz (.cells #[.int .i64 i, .int .i64 ((i : Int) + 1)] 71)).grown hg (by simp; omega) (fun j e => (HO.out.lt j e).1)).setCell (p := ⟨bO, 0, none⟩) hO _
    · refine ((TKeep.of_grown (ha none) (fun k e => by simp at e)).trans (TKeep.of_own (HO.out.alloc _) hg (by simp [NSpT, SpT]))).trans (TKeep.of_grown (grown_set wz ⟨bO, 0, none⟩ _) (fun k e => ?_))
      obtain rfl : bO = k := by simpa using e
      exact ⟨_, _, k2, by simp [NSpT, SpT]⟩
  have HAPP := Lib.hid happ
  clear hb ho happ
  rcases List.eq_nil_or_concat ss with rfl | ⟨ss', p, rfl⟩
  · have HJ : Hid (joinS [] i = [((i : Int), (i : Int) + 1)]) := Lib.hid rfl
    obtain ⟨va, vc, rfl, -⟩ := own_cells HO.out
    have hlw : (([] : List (Int × Int)).length : Int) - 1 = -1 := rfl
    go_enter Tryz.func135, Tryz.ntmps135
    go_wp2_with (at_builtin; refine wpList_append_lies _ rfl _ _ _ rfl base 71 i0 (.agg #[.int .i64 0, .int .i64 0]) 2 16 Tryz.underlying54 hi0 hz0 hz1 hz2 rfl (by decide) (.slice va 0 vc) 0 (prs []) rfl (HO.out.alloc _) ⟨w.heap.size, 0, none⟩ 1 1 [.int .i64 (i : Nat), .int .i64 ((i : Int) + 1)] rfl rfl (World.news_of_block (cs := #[.int .i64 (i : Nat), .int .i64 ((i : Int) + 1)]) (t := 71) (fr := (0, 0)) (heap_alloc_new w _)) (by simp [Value.oneCell']) (by omega) (by unfold maxLen; omega) (by omega) (by simp; omega) (w.heap.size + 1) (by simp) ?_)
    intro gg cp wz hown1 hgrow hat hlt1
    obtain ⟨z2, g2, y1, y2, y3, y4⟩ := HAPP.out gg cp wz hgrow hown1
    have Y1 := Lib.hid y1; have Y2 := Lib.hid y2; have Y4 := Lib.hid y4
    clear hown1 hgrow hat hlt1 y1 y2 y4
    go_wp2
    go_end0
    exact ⟨rfl, ⟨_, Y1.out, Y2.out⟩, y3, Y4.out⟩
  · rw [List.concat_eq_append] at *
    have hlen : (ss' ++ [p]).length = ss'.length + 1 := by simp
    obtain ⟨g, vc, rfl, -, -⟩ := HO.out.form (by omega)
    rw [hlen] at HO HAPP c1 HB hl
    have hcl : w.cell? ⟨g, ss'.length * 2 + 1, none⟩ = some (.int .i64 p.2) := by
      rw [HO.out.cellAt (ss'.length * 2 + 1) (by omega), prs_snd (i := ss'.length) (t := p) (by simp)]
    have hfl := HO.out.frozenAt (ss'.length * 2 + 1)
    have q1 : IntKind.i64.wrap ((ss'.length : Int) + 1 - 1) = (ss'.length : Int) := by rw [IntWalk.i64_in _ (by omega)]; omega
    have q2 : IntKind.i64.wrap (ss'.length : Int) = (ss'.length : Int) := IntWalk.i64_in _ (by omega)
    have q3 : (0 : Int) ≤ ss'.length := by omega
    have q4 : (ss'.length : Int) < (ss'.length : Int) + 1 := by omega
    by_cases hp : p.2 = (i : Int)
    · have hj : joinS (ss' ++ [p]) i = ss' ++ [(p.1, (i : Int) + 1)] := by rw [joinS_snoc, if_pos hp]
      have hsto := HO.out.stored (ss'.length * 2 + 1) (.int .i64 ((i : Int) + 1))
      rw [prs_last] at hsto
      obtain ⟨cur, hcur⟩ := own_type HO.out (k := g) rfl
      have hne := blk_own_ne HB.out HO.out (by decide)
      have hbk := HB.out.other (B' := g) (by intro e; exact hne (by rw [e]; rfl)) (ss'.length * 2 + 1) (.int .i64 ((i : Int) + 1))
      have hlt := HO.out.lt g rfl
      have hbl : Below base w (w.setCell ⟨g, ss'.length * 2 + 1, none⟩ (.int .i64 ((i : Int) + 1))) := (Below.refl base w).setCell hlt.1 _
      have htk : TKeep NSpT w (w.setCell ⟨g, ss'.length * 2 + 1, none⟩ (.int .i64 ((i : Int) + 1))) := TKeep.of_grown hsto.2 (fun k e => by
        obtain rfl : g = k := by simpa using e
        exact ⟨_, _, hcur, by simp [NSpT, SpT]⟩)
      have HJ := Lib.hid hj; have HST := Lib.hid hsto.1; have HBK := Lib.hid hbk; have HTK := Lib.hid htk
      rw [hp] at hcl
      clear hj hsto hcur hne hbk htk hlt HAPP
      go_enter Tryz.func135, Tryz.ntmps135
      go_wp2_with fail
      refine bodyPost_ret (results_none rfl _ _ _) rfl ?_
      refine ⟨rfl, ⟨_, HBK.out, ?_⟩, hbl, HTK.out⟩
      rw [HJ.out, List.length_append]; exact HST.out
    · have hj : joinS (ss' ++ [p]) i = ss' ++ [p] ++ [((i : Int), (i : Int) + 1)] := by rw [joinS_snoc, if_neg hp]
      have HJ := Lib.hid hj
      have hpb : (p.2 == (i : Int)) = false := by rw [beq_eq_false_iff_ne]; exact hp
      clear hj
      go_enter Tryz.func135, Tryz.ntmps135
      go_wp2_with (at_builtin; refine wpList_append_lies _ rfl _ _ _ rfl base 71 i0 (.agg #[.int .i64 0, .int .i64 0]) 2 16 Tryz.underlying54 hi0 hz0 hz1 hz2 rfl (by decide) (.slice (some ⟨g, 0, none⟩) (ss'.length + 1) vc) (ss'.length + 1) (prs (ss' ++ [p])) rfl (HO.out.alloc _) ⟨w.heap.size, 0, none⟩ 1 1 [.int .i64 (i : Nat), .int .i64 ((i : Int) + 1)] rfl rfl (World.news_of_block (cs := #[.int .i64 (i : Nat), .int .i64 ((i : Int) + 1)]) (t := 71) (fr := (0, 0)) (heap_alloc_new w _)) (by simp [Value.oneCell']) (by omega) (by unfold maxLen; omega) (by omega) (by simp; omega) (w.heap.size + 1) (by simp) ?_)
      intro gg cp wz hown1 hgrow hat hlt1
      obtain ⟨z2, g2, y1, y2, y3, y4⟩ := HAPP.out gg cp wz hgrow hown1
      have Y1 := Lib.hid y1; have Y2 := Lib.hid y2; have Y4 := Lib.hid y4
      clear hown1 hgrow hat hlt1 y1 y2 y4 hcl hfl
      go_wp2
      go_end0
      exact ⟨rfl, ⟨_, Y1.out, by rw [HJ.out]; exact Y2.out⟩, y3, Y4.out⟩

/-- the spans of the places below k for which something is so -/
def lostP (p : Nat → Bool) : Nat → List (Int × Int)
  | 0 => []
  | i + 1 => if p i then joinS (lostP p i) i else lostP p i
theorem lostP_length (p : Nat → Bool) (i : Nat) : (lostP p i).length ≤ i := by
  induction i with
  | zero => simp [lostP]
  | succ i ih =>
    rw [lostP]
    split
    · have := joinS_length (lostP p i) i; omega
    · omega

set_option maxRecDepth 100000 in
set_option maxHeartbeats 1000000 in
theorem spans_any (F : FuncId) (capd : Array Value) (p : Nat → Bool) (J : Nat → World → Prop) (n : Nat) (w : World) (hn : n ≤ 1099511627776)
    (hcf : ∀ (vs : Array Value) (wx : World), Sem.run Tryz.prog (callFunc F vs) wx = .ok (.enter F vs) wx)
    (hJ0 : J 0 w)
    (hJk : ∀ i wx wy, J i wx → w.heap.size ≤ wx.heap.size → Below w.heap.size wx wy → TKeep NSpT wx wy → J i wy)
    (hF : ∀ i wx, i < n → J i wx → Calls Tryz.prog F (#[.int .i64 (i : Nat)] ++ capd) wx fun e w' => e = .returned (.bool (p i)) ∧ J (i + 1) w' ∧ TKeep SpT wx w') :
    Calls Tryz.prog 85 #[.int .i64 0, .int .i64 (n : Nat), .func (.func F) #[] capd] w fun e w' => (∃ v, e = .returned v ∧ w'.ownsRow w.heap.size 71 2 v (lostP p n).length (prs (lostP p n))) ∧ J n w' ∧ w.heap.size ≤ w'.heap.size := by
  have HJ0 := Lib.hid hJ0; have HJK := Lib.hid hJk; have HF := Lib.hid hF
  have hb0 := Blk.new w 54 #[.slice none 0 0]
  have hj1 := hJk 0 w (w.alloc (.cells #[.slice none 0 0] 54)) hJ0 (Nat.le_refl _) ((Below.refl _ _).alloc (Nat.le_refl _) _) (TKeep.of_grown (World.grownBy_alloc w _ none) (fun k e => by simp at e))
  have HB0 := Lib.hid hb0; have HJ1 := Lib.hid hj1
  clear hJ0 hJk hF hb0 hj1
  go_enter Tryz.func85, Tryz.ntmps85
  go_wp2_with fail
  go_loopw [9] (fun i wr => ∃ k : Nat, k ≤ n ∧ i = .int .i64 k ∧ J k wr ∧ w.heap.size < wr.heap.size ∧ ∃ v, Blk wr w.heap.size 54 #[v] ∧ wr.ownsRow w.heap.size 71 2 v (lostP p k).length (prs (lostP p k))) (fun i _ => n - (intOf i).toNat)
  case atStart => exact ⟨0, Nat.zero_le _, rfl, HJ1.out, by simp, _, HB0.out, World.ownsRow_nil _ _ _ _⟩
  case round =>
    clear HJ1 HB0
    obtain ⟨k, hk, rfl, hj, hz, v, hb, ho⟩ := hrel
    have HB := Lib.hid hb; have HO := Lib.hid ho
    by_cases hlt : k < n
    · have hf := HF.out k wr hlt hj
      have HFK := Lib.hid hf
      have hll := lostP_length p k
      clear hf hj hb ho
      go_wp2_with fail
      refine HFK.out.mono ?_
      rintro e w1 ⟨rfl, hj1, htk⟩
      have hb1 := htk.2 _ _ _ (.inr rfl) HB.out
      have ho1 := htk.own (.inl rfl) HO.out
      have hz1 := htk.1
      cases hp : p k with
      | false =>
        have HJ1 := Lib.hid hj1; have HB1 := Lib.hid hb1; have HO1 := Lib.hid ho1
        have HL : Hid (lostP p (k + 1) = lostP p k) := Lib.hid (by rw [lostP, hp]; rfl)
        clear hj1 hb1 ho1 htk hp
        go_wp2
        go_roundw
        case rel => exact ⟨k + 1, by omega, by go_num, HJ1.out, by omega, v, HB1.out, by rw [HL.out]; exact HO1.out⟩
        case measure => simp [intOf]; omega
      | true =>
        have HJ1 := Lib.hid hj1
        have HL : Hid (lostP p (k + 1) = joinS (lostP p k) k) := Lib.hid (by rw [lostP, hp]; rfl)
        have hs := spans1_any w.heap.size w.heap.size (Nat.le_refl _) k (lostP p k) v w1 (by omega) (by omega) hb1 ho1
        have HS := Lib.hid hs
        clear hj1 hb1 ho1 htk hp hs
        go_wp2_with fail
        refine HS.out.mono ?_
        rintro e w2 ⟨rfl, ⟨v', hb2, ho2⟩, hbe, htk⟩
        have hj2 := HJK.out (k + 1) w1 w2 HJ1.out (by omega) hbe htk
        have hz2 := htk.1
        have HJ2 := Lib.hid hj2; have HB2 := Lib.hid hb2; have HO2 := Lib.hid ho2
        clear hj2 hb2 ho2 htk hbe
        go_wp2
        go_roundw
        case rel => exact ⟨k + 1, by omega, by go_num, HJ2.out, by omega, v', HB2.out, by rw [HL.out]; exact HO2.out⟩
        case measure => simp [intOf]; omega
    · obtain rfl : k = n := by omega
      have c0 := hb.c0
      have HJ := Lib.hid hj
      clear hj hb ho
      go_wp2
      go_ret
      exact ⟨⟨v, rfl, HO.out⟩, HJ.out, by omega⟩
end Go.Proofs.YtoochleabcjljaaGreatDoor

/- Codes: Salvage. -/
namespace Go.Proofs.YtoochleabcjljaaGreatDoor
open Go.RowKit

/-- what Salvage's variables hold before place i -/
structure SalJ (w0 : World) (ao : Option Addr) (bs : List Chan) (cap : Nat) (ac : Option Addr) (l : List Nat) (cc : Nat) (N M : Nat) (i : Nat) (wr : World) : Prop where
  below : Below w0.heap.size w0 wr
  bk : Blk wr N 37 #[.slice ao bs.length cap]
  cd : Blk wr (N + 1) 48 #[.slice ac l.length cc]
  bh : Blk wr M 3 #[.int .i64 ((salTo bs l i).2 : Nat)]
  bt : Blk wr (M + 1) 3 #[.int .i64 (lastR (salTo bs l i).1)]
  fr : ∃ v fs, fs.map frm = (salTo bs l i).1 ∧ Blk wr (N + 2) 38 #[v] ∧ FrsO (M + 2) wr v fs
theorem SalJ.keep {w0 : World} {ao : Option Addr} {bs : List Chan} {cap : Nat} {ac : Option Addr} {l : List Nat} {cc N M i : Nat} {wx wy : World} (h : SalJ w0 ao bs cap ac l cc N M i wx) (hb : Below w0.heap.size wx wy) (hk : TKeep NSpT wx wy) : SalJ w0 ao bs cap ac l cc N M i wy := by
  obtain ⟨v, fs, e1, e2, e3⟩ := h.fr
  exact ⟨h.below.trans hb, hk.2 _ _ _ (by simp [NSpT, SpT]) h.bk, hk.2 _ _ _ (by simp [NSpT, SpT]) h.cd, hk.2 _ _ _ (by simp [NSpT, SpT]) h.bh, hk.2 _ _ _ (by simp [NSpT, SpT]) h.bt,
    v, fs, e1, hk.2 _ _ _ (by simp [NSpT, SpT]) e2, hk.frsO (by simp [NSpT, SpT]) (by simp [NSpT, SpT]) (by simp [NSpT, SpT]) e3⟩
theorem SalJ.next {w0 : World} {ao : Option Addr} {bs : List Chan} {cap : Nat} {ac : Option Addr} {l : List Nat} {cc N M i : Nat} {wx : World} (h : SalJ w0 ao bs cap ac l cc N M i wx) (he : salTo bs l (i + 1) = salTo bs l i) : SalJ w0 ao bs cap ac l cc N M (i + 1) wx := by
  obtain ⟨h1, h2, h3, h4, h5, h6⟩ := h
  exact ⟨h1, h2, h3, by rw [he]; exact h4, by rw [he]; exact h5, by rw [he]; exact h6⟩

theorem SalJ.bel {w0 : World} {ao : Option Addr} {bs : List Chan} {cap : Nat} {ac : Option Addr} {l : List Nat} {cc N M i : Nat} {wx wy : World} (h : SalJ w0 ao bs cap ac l cc N M i wx) (hb : Below wx.heap.size wx wy) : SalJ w0 ao bs cap ac l cc N M i wy := by
  obtain ⟨v, fs, e1, e2, e3⟩ := h.fr
  exact ⟨h.below.trans (hb.mono h.below.size), h.bk.below hb h.bk.lt, h.cd.below hb h.cd.lt, h.bh.below hb h.bh.lt, h.bt.below hb h.bt.lt, v, fs, e1, e2.below hb e2.lt, e3.below hb⟩

theorem FrsO.kept_lt {base k : Nat} {w w' : World} {v : Value} {l : List Frm} (h : FrsO base w v l) (hg : w.grownBy w' (some k)) (hk : k < base) : FrsO base w' v l :=
  ⟨h.1.kept hg (.inr fun e => by have := (h.1.lt k e).1; omega), fun f hf => (h.2 f hf).kept hg (fun j e hj => by simp at e; omega)⟩
theorem TKeep.set {P : TypeId → Prop} {w : World} {b : Nat} {T : TypeId} {cs : Array Value} (h : Blk w b T cs) (i : Nat) (u : Value) (hn : ¬ P T) : TKeep P w (w.setCell ⟨b, i, none⟩ u) :=
  .of_grown (grown_set w ⟨b, i, none⟩ u) (fun k e => by
    obtain rfl : b = k := by simpa using e
    exact ⟨T, cs, h, hn⟩)
theorem SalJ.done {w0 : World} {ao : Option Addr} {bs : List Chan} {cap : Nat} {ac : Option Addr} {l : List Nat} {cc N M i : Nat} {W : World} {u3 u4 v : Value} {fs : List Frm} {x y : Int} (hN : w0.heap.size ≤ N) (hNM : N + 2 < M) (hb : Below w0.heap.size w0 W) (h0 : Blk W N 37 #[.slice ao bs.length cap]) (h1 : Blk W (N + 1) 48 #[.slice ac l.length cc]) (h3 : Blk W M 3 #[u3]) (h4 : Blk W (M + 1) 3 #[u4])
    (h2 : Blk W (N + 2) 38 #[v]) (hf : FrsO (M + 2) W v fs) (hfm : fs.map frm = (salTo bs l i).1) (hx : x = ((salTo bs l i).2 : Nat)) (hy : y = lastR (salTo bs l i).1) :
    (SalJ w0 ao bs cap ac l cc N M i ((W.setCell ⟨M, 0, none⟩ (.int .i64 x)).setCell ⟨M + 1, 0, none⟩ (.int .i64 y)) ∧ TKeep SpT W ((W.setCell ⟨M, 0, none⟩ (.int .i64 x)).setCell ⟨M + 1, 0, none⟩ (.int .i64 y))) ∧
    (SalJ w0 ao bs cap ac l cc N M i ((W.setCell ⟨M + 1, 0, none⟩ (.int .i64 y)).setCell ⟨M, 0, none⟩ (.int .i64 x)) ∧ TKeep SpT W ((W.setCell ⟨M + 1, 0, none⟩ (.int .i64 y)).setCell ⟨M, 0, none⟩ (.int .i64 x))) := by
  subst hx; subst hy
  have g3 := fun (w : World) (u : Value) => grown_set w ⟨M, 0, none⟩ u
  have g4 := fun (w : World) (u : Value) => grown_set w ⟨M + 1, 0, none⟩ u
  refine ⟨⟨⟨(hb.setCell (p := ⟨M, 0, none⟩) (by simp; omega) _).setCell (p := ⟨M + 1, 0, none⟩) (by simp; omega) _, (h0.other (by omega) _ _).other (by omega) _ _, (h1.other (by omega) _ _).other (by omega) _ _, (h3.set0 _).other (by omega) _ _, (h4.other (by omega) _ _).set0 _, v, fs, hfm, (h2.other (by omega) _ _).other (by omega) _ _, (hf.kept_lt (k := M) (g3 _ _) (by omega)).kept_lt (k := M + 1) (g4 _ _) (by omega)⟩, ?_⟩,
    ⟨⟨(hb.setCell (p := ⟨M + 1, 0, none⟩) (by simp; omega) _).setCell (p := ⟨M, 0, none⟩) (by simp; omega) _, (h0.other (by omega) _ _).other (by omega) _ _, (h1.other (by omega) _ _).other (by omega) _ _, (h3.other (by omega) _ _).set0 _, (h4.set0 _).other (by omega) _ _, v, fs, hfm, (h2.other (by omega) _ _).other (by omega) _ _, (hf.kept_lt (k := M + 1) (g4 _ _) (by omega)).kept_lt (k := M) (g3 _ _) (by omega)⟩, ?_⟩⟩
  · exact (TKeep.set h3 _ _ (by simp [SpT])).trans (TKeep.set (h4.other (by omega) _ _) _ _ (by simp [SpT]))
  · exact (TKeep.set h4 _ _ (by simp [SpT])).trans (TKeep.set (h3.other (by omega) _ _) _ _ (by simp [SpT]))
theorem held2_next {w wx : World} {b c : Nat} {u v : Value} (h : w.cell? ⟨b, 0, none⟩ = some u ∧ w.cell? ⟨c, 0, none⟩ = some v) (hb : Below w.heap.size w wx) : wx.cell? ⟨b, 0, none⟩ = some u ∧ wx.cell? ⟨c, 0, none⟩ = some v :=
  ⟨cell_keep h.1 hb (Nat.le_refl _), cell_keep h.2 hb (Nat.le_refl _)⟩

set_option maxRecDepth 100000 in
set_option maxHeartbeats 4000000 in
theorem salvage1_any (w0 : World) (ao : Option Addr) (bs : List Chan) (cap : Nat) (b off : Nat) (l : List Nat) (cc N M i : Nat) (w : World) (hN : w0.heap.size ≤ N) (hNM : N + 2 < M) (hok : bookOK bs = true) (hb : BookIn w0 ao bs cap) (hc : ByIn w0 (some ⟨b, off, none⟩) l cc) (hi : i < l.length) (h : SalJ w0 ao bs cap (some ⟨b, off, none⟩) l cc N M i w) :
    Calls Tryz.prog 86 #[.int .i64 (i : Nat), .pointer (some ⟨M, 0, none⟩), .pointer (some ⟨N + 2, 0, none⟩), .pointer (some ⟨N, 0, none⟩), .pointer (some ⟨N + 1, 0, none⟩), .pointer (some ⟨M + 1, 0, none⟩)] w fun e w' => e = .returned (.bool (salP bs l (salTo bs l i) i).2) ∧ SalJ w0 ao bs cap (some ⟨b, off, none⟩) l cc N M (i + 1) w' ∧ TKeep SpT w w' := by
  have HJ := Lib.hid h
  have hlc := hc.len
  have hcp := hc.lecap
  have hcp2 := hc.cap2
  have hst : salTo bs l (i + 1) = (salP bs l (salTo bs l i) i).1 := rfl
  have hbd := salTo_bd bs l i (by omega)
  obtain ⟨hbe, hbk, hcd, hbh, hbt, v, fs, hfm, hbl, hfs⟩ := h
  obtain ⟨fa, fc, rfl, -⟩ := hfs.recIn
  have HST := Lib.hid hst
  have hfl : fs.length = (salTo bs l i).1.length := by rw [← hfm]; simp
  have c1 := hbh.c0
  have c2 := hbl.c0
  have c3 := hbk.c0
  have c4 := hcd.c0
  have c5 := hbt.c0
  have HFM := Lib.hid hfm; have HFL := Lib.hid hfl
  clear hst hfl
  generalize hsto : salTo bs l i = S at *
  obtain ⟨out, beh⟩ := S
  simp only at hbh hbt hfm c1 c5 hbd HFM HFL
  have HSTO := Lib.hid hsto
  clear hsto hfm
  by_cases hin : i < beh
  · have hs := salP_in (bs := bs) (l := l) (s := (out, beh)) (i := i) hin
    have hj := HJ.out.next (by rw [HST.out, HSTO.out, hs])
    have HS := Lib.hid hs; have HJ2 := Lib.hid hj
    clear hs hj hbk hcd hbh hbt hbl hfs hbe
    go_enter Tryz.func86, Tryz.ntmps86
    go_wp2
    go_ret
    exact ⟨ret_bool (by rw [HS.out]), HJ2.out, TKeep.refl _ _⟩
  · by_cases h64 : out.length < 64
    · have h64i : fs.length < 64 := by have := HFL.out; omega
      have hbw := hb.below hbe (Nat.le_refl _)
      have hcd2 : ByIn w0 (some ⟨b, off + i, none⟩) (l.drop i) (cc - i) := by
        refine ⟨.inr ⟨b, off + i, rfl, fun j u hu => ?_⟩, fun d hd => hc.byte d (List.mem_of_mem_drop hd), by rw [List.length_drop]; omega, by rw [List.length_drop]; omega, by omega⟩
        rw [Nat.add_assoc]
        refine hc.cells.at ?_
        rw [← hu, bys, bys, List.map_drop, List.getElem?_drop]
      have hfc := fun (wx : World) (hx : Below w0.heap.size w0 wx) => first_code ao bs cap (some ⟨b, off + i, none⟩) (l.drop i) (cc - i) wx (hb.below hx (Nat.le_refl _)) hok (hcd2.below hx (Nat.le_refl _)).cells hcd2.byte hcd2.len hcd2.lecap hcd2.cap2
      rw [List.length_drop] at hfc
      have HFC := Lib.hid hfc
      have hbd0 : Below w0.heap.size w0 w.drew := hbe.drew
      have hbd1 : Below w0.heap.size w0 (w.alloc (.cells #[.int .i64 0, .slice none 0 0] 43)).drew := (hbe.alloc hbe.size _).drew
      have HD0 := Lib.hid hbd0; have HD1 := Lib.hid hbd1
      have hb0 := (Below.refl w.heap.size w).alloc (Nat.le_refl _) (.cells #[.int .i64 0, .slice none 0 0] 43)
      have c3a := cell_keep c3 hb0 (Nat.le_refl _)
      have c4a := cell_keep c4 hb0 (Nat.le_refl _)
      have hz0 := hbe.size
      have hNl := hbt.lt
      have k1 : (i : Int) ≤ l.length := by omega
      have k2 : (l.length : Int) ≤ cc := by omega
      have k3 : ¬ cc = i := by omega
      have k4 : ¬ (cc - i = 0) := by omega
      have k5 : ¬ cc ≤ i := by omega
      have k6 : i ≤ l.length := by omega
      have k7 : l.length ≤ cc := by omega
      have HBE := Lib.hid hbe
      clear hfc hcd2 hbe hbd0 hbd1 hb0
      cases hfi : firstR bs (l.drop i) with
      | none =>
        have hs := salP_none (bs := bs) (l := l) (s := (out, beh)) (i := i) hin h64 hfi
        have hj := HJ.out.next (by rw [HST.out, HSTO.out, hs])
        have HS := Lib.hid hs; have HJ2 := Lib.hid hj
        rw [hfi] at HFC
        clear hs hj hbk hcd hbh hbt hbl hfs hfi
        go_enter Tryz.func86, Tryz.ntmps86
        go_wp2_with fail
        go_region_held3 (fun w' => w'.cell? ⟨N, 0, none⟩ = some (.slice ao bs.length cap) ∧ w'.cell? ⟨N + 1, 0, none⟩ = some (.slice (some ⟨b, off, none⟩) l.length cc))
          (first
            | exact held2_next ⟨c3, c4⟩ ((Below.refl w.heap.size w).drew)
            | exact held2_next ⟨c3, c4⟩ hbz
            | exact held2_next ⟨c3, c4⟩ (hbz.alloc hbz.size _)
            | exact held2_next ⟨c3, c4⟩ (((Below.refl w.heap.size w).drew).alloc (Nat.le_refl _) _)
            | exact held2_next ⟨c3, c4⟩ ((hbz.setCell (p := ⟨w.heap.size, 0, none⟩) (Nat.le_refl _) _).setCell (p := ⟨w.heap.size, 1, none⟩) (Nat.le_refl _) _)
            | go_keep)
          (first
          | (go_at_call 82; refine (HFC.out w.drew HD0.out).mono ?_; rintro e w2 ⟨hres, hb2⟩; obtain rfl : e = .returned (.tuple #[.agg #[.int .i64 0, .slice none 0 0], .slice none 0 0, .bool false]) := hres; have hbz : Below w.heap.size w w2 := ((Below.refl w.heap.size w).drew).trans hb2; clear hb2)
          | (go_at_call 82; refine (HFC.out (w.alloc (.cells #[.int .i64 0, .slice none 0 0] 43)).drew HD1.out).mono ?_; rintro e w2 ⟨hres, hb2⟩; obtain rfl : e = .returned (.tuple #[.agg #[.int .i64 0, .slice none 0 0], .slice none 0 0, .bool false]) := hres; have hbx := Blk.below (Blk.new w 43 #[.int .i64 0, .slice none 0 0]) (W' := w2) ⟨hb2.os, hb2.tape, hb2.output, hb2.size, hb2.block⟩ (by simp); have x0 := hbx.c0; have x1 := hbx.c1; have y0 := hbx.free 0; have y1 := hbx.free 1; have hbz : Below w.heap.size w w2 := (((Below.refl w.heap.size w).alloc (Nat.le_refl _) (.cells #[.int .i64 0, .slice none 0 0] 43)).drew).trans (hb2.mono (by simp)); have HBX := Lib.hid hbx; clear hb2 hbx))
        · have hbz2 := hbz.alloc hbz.size (.cells #[.int .i64 0, .slice none 0 0] 43)
          go_wp2
          go_ret
          exact ⟨ret_bool (by rw [HS.out]), HJ2.out.bel hbz2, TKeep.of_below hbz2⟩
        · have hbz2 := (hbz.setCell (p := ⟨w.heap.size, 0, none⟩) (Nat.le_refl _) (.int .i64 0)).setCell (p := ⟨w.heap.size, 1, none⟩) (Nat.le_refl _) (.slice none 0 0)
          go_wp2
          go_ret
          exact ⟨ret_bool (by rw [HS.out]), HJ2.out.bel hbz2, TKeep.of_below hbz2⟩
      | some p =>
        obtain ⟨⟨st, xss⟩, n⟩ := p
        rw [hfi] at HFC
        have hbo : ∀ k, (Value.slice fa fs.length fc).ownBlock = some k → k < w.heap.size := fun k e => (hfs.1.lt k e).2
        have HBO := Lib.hid hbo
        have HALL := Lib.hid (And.intro hbk (And.intro hcd (And.intro hbh (And.intro hbt (And.intro hbl hfs)))))
        obtain ⟨i0, hi0, hy0, hy1, hy2⟩ := info_parts Tryz.infoFrame
        clear hbk hcd hbh hbt hbl hfs hbo
        go_enter Tryz.func86, Tryz.ntmps86
        go_wp2_with fail
        go_region_held3 (fun w' => w'.cell? ⟨N, 0, none⟩ = some (.slice ao bs.length cap) ∧ w'.cell? ⟨N + 1, 0, none⟩ = some (.slice (some ⟨b, off, none⟩) l.length cc))
          (first
            | exact held2_next ⟨c3, c4⟩ ((Below.refl w.heap.size w).drew)
            | exact held2_next ⟨c3, c4⟩ hbz
            | exact held2_next ⟨c3, c4⟩ (hbz.alloc hbz.size _)
            | exact held2_next ⟨c3, c4⟩ (((Below.refl w.heap.size w).drew).alloc (Nat.le_refl _) _)
            | exact held2_next ⟨c3, c4⟩ ((hbz.setCell (p := ⟨w.heap.size, 0, none⟩) (Nat.le_refl _) _).setCell (p := ⟨w.heap.size, 1, none⟩) (Nat.le_refl _) _)
            | go_keep)
          (first
          | (go_at_call 82; refine (HFC.out w.drew HD0.out).mono ?_; rintro e w2 ⟨hres, hb2⟩; obtain ⟨vv, c6, rfl, hfo⟩ := hres; obtain ⟨a, c, vs, rfl, -, -, -⟩ := hfo.cells; have HFO := Lib.hid hfo; clear hfo; have hbz : Below w.heap.size w w2 := ((Below.refl w.heap.size w).drew).trans hb2; clear hb2)
          | (go_at_call 82; refine (HFC.out (w.alloc (.cells #[.int .i64 0, .slice none 0 0] 43)).drew HD1.out).mono ?_; rintro e w2 ⟨hres, hb2⟩; obtain ⟨vv, c6, rfl, hfo⟩ := hres; obtain ⟨a, c, vs, rfl, -, -, -⟩ := hfo.cells; have HFO := Lib.hid hfo; clear hfo; have hbx := Blk.below (Blk.new w 43 #[.int .i64 0, .slice none 0 0]) (W' := w2) ⟨hb2.os, hb2.tape, hb2.output, hb2.size, hb2.block⟩ (by simp); have x0 := hbx.c0; have x1 := hbx.c1; have y0 := hbx.free 0; have y1 := hbx.free 1; have hbz : Below w.heap.size w w2 := (((Below.refl w.heap.size w).alloc (Nat.le_refl _) (.cells #[.int .i64 0, .slice none 0 0] 43)).drew).trans (hb2.mono (by simp)); have HBX := Lib.hid hbx; clear hb2 hbx))
        · have hq1 := Blk.new w2 43 #[.int .i64 st, .slice a xss.length c]
          have hq2 := hbz.alloc hbz.size (.cells #[.int .i64 st, .slice a xss.length c] 43)
          have hq3 := hbz.size
          have hq4 := (HFO.out.base (show M + 2 ≤ w.drew.heap.size by simp; omega)).kept (World.grownBy_alloc w2 (.cells #[.int .i64 st, .slice a xss.length c] 43) none) (fun k e => by simp at e)
          have HQ4 := Lib.hid hq4; have HQ1 := Lib.hid hq1; have HQ2 := Lib.hid hq2
          clear hq4 HFO hbz hq1 hq2
          generalize w2.alloc (.cells #[.int .i64 st, .slice a xss.length c] 43) = W3 at *
          generalize w2.heap.size = q at *
          obtain ⟨a0, a1, a3, a4, a2, af⟩ := HALL.out
          have b0 := a0.below HQ2.out a0.lt
          have b1 := a1.below HQ2.out a1.lt
          have b2 := a2.below HQ2.out a2.lt
          have b3 := a3.below HQ2.out a3.lt
          have b4 := a4.below HQ2.out a4.lt
          have bf := af.below HQ2.out
          have z0 := HQ1.out.c0
          have z1 := HQ1.out.c1
          have y3 := b2.c0
          have y4 := b2.free 0
          have y5 := b4.c0
          have hz3 := HQ2.out.size
          have hfl : fs.length = out.length := HFL.out
          have HFL2 := Lib.hid hfl
          have hfl64 : fs.length < 64 := h64i
          have HB0 := Lib.hid b0; have HB1 := Lib.hid b1; have HB2 := Lib.hid b2; have HB3 := Lib.hid b3; have HB4 := Lib.hid b4; have HBF := Lib.hid bf
          clear a0 a1 a2 a3 a4 af b0 b1 b2 b3 b4 bf hfl
          by_cases hnew : lastR out < st
          · have hs := salP_new (bs := bs) (l := l) (s := (out, beh)) (i := i) (x := (st, xss)) (n := n) hin h64 hfi hnew
            have he : salTo bs l (i + 1) = (out ++ [(st, xss)], i + n) := by rw [HST.out, hs]
            obtain ⟨-, -, hnl, -, -⟩ := firstR_sound hfi
            rw [List.length_drop] at hnl
            have HE := Lib.hid he; have HS := Lib.hid hs
            have q5 : IntKind.i64.wrap ((i : Int) + n) = (i : Int) + n := IntWalk.i64_in _ (by omega)
            clear hs he
            go_wp2_with (at_builtin; refine wpList_append_lies _ rfl _ _ _ rfl (M + 2) 43 i0 (.agg #[.int .i64 0, .slice none 0 0]) 2 32 Tryz.underlying38 hi0 hy0 hy1 hy2 rfl (by decide) (.slice fa fs.length fc) fs.length (frs fs) rfl (HBF.out.1.alloc _) ⟨W3.heap.size, 0, none⟩ 1 1 [.int .i64 st, .slice a xss.length c] rfl rfl (World.news_of_block (cs := #[.int .i64 st, .slice a xss.length c]) (t := 43) (fr := (0, 0)) (heap_alloc_new W3 _)) (by simp [Value.oneCell']) (by omega) (by unfold maxLen; omega) (by omega) (by simp; omega) (W3.heap.size + 1) (by simp) ?_)
            intro gg cp w5 hown1 hgrow hat hlt1
            have d0 := (HB0.out.alloc (.cells #[.int .i64 st, .slice a xss.length c] 43)).kept hgrow (fun e => blk_own_ne HB0.out HBF.out.1 (by decide) e.symm)
            have d1 := (HB1.out.alloc (.cells #[.int .i64 st, .slice a xss.length c] 43)).kept hgrow (fun e => blk_own_ne HB1.out HBF.out.1 (by decide) e.symm)
            have d2 := (HB2.out.alloc (.cells #[.int .i64 st, .slice a xss.length c] 43)).kept hgrow (fun e => blk_own_ne HB2.out HBF.out.1 (by decide) e.symm)
            have d3 := (HB3.out.alloc (.cells #[.int .i64 st, .slice a xss.length c] 43)).kept hgrow (fun e => blk_own_ne HB3.out HBF.out.1 (by decide) e.symm)
            have d4 := (HB4.out.alloc (.cells #[.int .i64 st, .slice a xss.length c] 43)).kept hgrow (fun e => blk_own_ne HB4.out HBF.out.1 (by decide) e.symm)
            have dq := (HQ1.out.alloc (.cells #[.int .i64 st, .slice a xss.length c] 43)).kept hgrow (fun e => by have := HBO.out _ e.symm; omega)
            have df := FrsO.snoc (w := W3.alloc (.cells #[.int .i64 st, .slice a xss.length c] 43)) (w' := w5) (f := ⟨st, a, c, xss⟩) (HBF.out.alloc _) (HQ4.out.kept (World.grownBy_alloc W3 _ none) (fun k e => by simp at e)) hgrow hown1
            have hk5 : TKeep SpT w w5 := ((TKeep.of_below HQ2.out).trans (TKeep.of_grown (World.grownBy_alloc W3 (.cells #[.int .i64 st, .slice a xss.length c] 43) none) (fun k e => by simp at e))).trans (TKeep.of_own (HBF.out.1.alloc _) hgrow (by simp [SpT]))
            have hw5 : Below w0.heap.size w0 w5 := ((HJ.out.below.trans (HQ2.out.mono HJ.out.below.size)).alloc (by have := HJ.out.below.size; omega) (.cells #[.int .i64 st, .slice a xss.length c] 43)).grown hgrow (by have := HJ.out.below.size; simp; omega) (fun j e => by have := (HBF.out.1.lt j e).1; omega)
            have u2 := d2.c0
            have u3 := d2.free 0
            have hv2 : ∀ u, FrsO (M + 2) (w5.setCell ⟨N + 2, 0, none⟩ u) (.slice (some ⟨gg, 0, none⟩) (fs.length + 1) cp) (fs ++ [⟨st, a, c, xss⟩]) := fun u => by
              have := df.kept_lt (k := N + 2) (grown_set w5 ⟨N + 2, 0, none⟩ u) (by omega)
              simpa using this
            have hdn := SalJ.done (w0 := w0) (ao := ao) (bs := bs) (cap := cap) (ac := some ⟨b, off, none⟩) (l := l) (cc := cc) (N := N) (M := M) (i := i + 1) (W := (w5.setCell ⟨N + 2, 0, none⟩ (.slice (some ⟨gg, 0, none⟩) (fs.length + 1) cp)).drew) (x := (i : Int) + n) (y := st) hN hNM ((hw5.setCell (p := ⟨N + 2, 0, none⟩) (by simp; omega) _).drew) (d0.other (by omega) _ _) (d1.other (by omega) _ _) (d3.other (by omega) _ _) (d4.other (by omega) _ _) (d2.set0 _) (hv2 _) (by rw [HE.out]; simp [HFM.out, frm]) (by rw [HE.out]; simp) (by rw [HE.out, lastR_snoc])
            have hk6 : TKeep SpT w (w5.setCell ⟨N + 2, 0, none⟩ (.slice (some ⟨gg, 0, none⟩) (fs.length + 1) cp)).drew := hk5.trans (TKeep.set d2 0 _ (by simp [SpT]))
            have s0 := (dq.other (B' := N + 2) (by omega) 0 (.slice (some ⟨gg, 0, none⟩) (fs.length + 1) cp)).c0
            have s3 := (d3.other (B' := N + 2) (by omega) 0 (.slice (some ⟨gg, 0, none⟩) (fs.length + 1) cp)).c0
            have s4 := (d4.other (B' := N + 2) (by omega) 0 (.slice (some ⟨gg, 0, none⟩) (fs.length + 1) cp)).c0
            have t3 := (d3.other (B' := N + 2) (by omega) 0 (.slice (some ⟨gg, 0, none⟩) (fs.length + 1) cp)).free 0
            have t4 := (d4.other (B' := N + 2) (by omega) 0 (.slice (some ⟨gg, 0, none⟩) (fs.length + 1) cp)).free 0
            have HDN := Lib.hid hdn; have HK6 := Lib.hid hk6
            clear d0 d1 d2 d3 d4 dq df hk5 hw5 hv2 hdn hk6 hown1 hgrow hat hlt1 z0 z1 y3 y4 y5
            go_wp2
            go_region
            all_goals
              go_wp2
              go_ret
              first
                | exact ⟨ret_bool (by rw [HS.out]), HDN.out.1.1, HK6.out.trans HDN.out.1.2⟩
                | exact ⟨ret_bool (by rw [HS.out]), HDN.out.2.1, HK6.out.trans HDN.out.2.2⟩
          · have hs := salP_old (bs := bs) (l := l) (s := (out, beh)) (i := i) (x := (st, xss)) (n := n) hin h64 hfi hnew
            have hj := HJ.out.next (by rw [HST.out, HSTO.out, hs])
            have HS := Lib.hid hs; have HJ2 := Lib.hid hj
            clear hs hj
            go_wp2
            go_ret
            exact ⟨ret_bool (by rw [HS.out]), HJ2.out.bel HQ2.out, TKeep.of_below HQ2.out⟩
        · have hq1 := (HBX.out.set0 (.int .i64 st)).set1 (.slice a xss.length c)
          have hq2 := (hbz.setCell (p := ⟨w.heap.size, 0, none⟩) (Nat.le_refl _) (.int .i64 st)).setCell (p := ⟨w.heap.size, 1, none⟩) (Nat.le_refl _) (.slice a xss.length c)
          have hq3 := Nat.le_refl w.heap.size
          have hq4 := ((HFO.out.base (show M + 2 ≤ (w.alloc (.cells #[.int .i64 0, .slice none 0 0] 43)).drew.heap.size by simp; omega)).kept_blk (grown_set w2 ⟨w.heap.size, 0, none⟩ (.int .i64 st)) HBX.out (by decide) (by decide)).kept_blk (grown_set (w2.setCell ⟨w.heap.size, 0, none⟩ (.int .i64 st)) ⟨w.heap.size, 1, none⟩ (.slice a xss.length c)) (HBX.out.set0 _) (by decide) (by decide)
          have HQ4 := Lib.hid hq4; have HQ1 := Lib.hid hq1; have HQ2 := Lib.hid hq2
          clear hq4 HFO HBX hbz x0 x1 y0 y1 hq1 hq2
          generalize ((w2.setCell ⟨w.heap.size, 0, none⟩ (.int .i64 st)).setCell ⟨w.heap.size, 1, none⟩ (.slice a xss.length c)) = W3 at *
          obtain ⟨a0, a1, a3, a4, a2, af⟩ := HALL.out
          have b0 := a0.below HQ2.out a0.lt
          have b1 := a1.below HQ2.out a1.lt
          have b2 := a2.below HQ2.out a2.lt
          have b3 := a3.below HQ2.out a3.lt
          have b4 := a4.below HQ2.out a4.lt
          have bf := af.below HQ2.out
          have z0 := HQ1.out.c0
          have z1 := HQ1.out.c1
          have y3 := b2.c0
          have y4 := b2.free 0
          have y5 := b4.c0
          have hz3 := HQ2.out.size
          have hfl : fs.length = out.length := HFL.out
          have HFL2 := Lib.hid hfl
          have hfl64 : fs.length < 64 := h64i
          have HB0 := Lib.hid b0; have HB1 := Lib.hid b1; have HB2 := Lib.hid b2; have HB3 := Lib.hid b3; have HB4 := Lib.hid b4; have HBF := Lib.hid bf
          clear a0 a1 a2 a3 a4 af b0 b1 b2 b3 b4 bf hfl
          by_cases hnew : lastR out < st
          · have hs := salP_new (bs := bs) (l := l) (s := (out, beh)) (i := i) (x := (st, xss)) (n := n) hin h64 hfi hnew
            have he : salTo bs l (i + 1) = (out ++ [(st, xss)], i + n) := by rw [HST.out, hs]
            obtain ⟨-, -, hnl, -, -⟩ := firstR_sound hfi
            rw [List.length_drop] at hnl
            have HE := Lib.hid he; have HS := Lib.hid hs
            have q5 : IntKind.i64.wrap ((i : Int) + n) = (i : Int) + n := IntWalk.i64_in _ (by omega)
            clear hs he
            go_wp2_with (at_builtin; refine wpList_append_lies _ rfl _ _ _ rfl (M + 2) 43 i0 (.agg #[.int .i64 0, .slice none 0 0]) 2 32 Tryz.underlying38 hi0 hy0 hy1 hy2 rfl (by decide) (.slice fa fs.length fc) fs.length (frs fs) rfl (HBF.out.1.alloc _) ⟨W3.heap.size, 0, none⟩ 1 1 [.int .i64 st, .slice a xss.length c] rfl rfl (World.news_of_block (cs := #[.int .i64 st, .slice a xss.length c]) (t := 43) (fr := (0, 0)) (heap_alloc_new W3 _)) (by simp [Value.oneCell']) (by omega) (by unfold maxLen; omega) (by omega) (by simp; omega) (W3.heap.size + 1) (by simp) ?_)
            intro gg cp w5 hown1 hgrow hat hlt1
            have d0 := (HB0.out.alloc (.cells #[.int .i64 st, .slice a xss.length c] 43)).kept hgrow (fun e => blk_own_ne HB0.out HBF.out.1 (by decide) e.symm)
            have d1 := (HB1.out.alloc (.cells #[.int .i64 st, .slice a xss.length c] 43)).kept hgrow (fun e => blk_own_ne HB1.out HBF.out.1 (by decide) e.symm)
            have d2 := (HB2.out.alloc (.cells #[.int .i64 st, .slice a xss.length c] 43)).kept hgrow (fun e => blk_own_ne HB2.out HBF.out.1 (by decide) e.symm)
            have d3 := (HB3.out.alloc (.cells #[.int .i64 st, .slice a xss.length c] 43)).kept hgrow (fun e => blk_own_ne HB3.out HBF.out.1 (by decide) e.symm)
            have d4 := (HB4.out.alloc (.cells #[.int .i64 st, .slice a xss.length c] 43)).kept hgrow (fun e => blk_own_ne HB4.out HBF.out.1 (by decide) e.symm)
            have dq := (HQ1.out.alloc (.cells #[.int .i64 st, .slice a xss.length c] 43)).kept hgrow (fun e => by have := HBO.out _ e.symm; omega)
            have df := FrsO.snoc (w := W3.alloc (.cells #[.int .i64 st, .slice a xss.length c] 43)) (w' := w5) (f := ⟨st, a, c, xss⟩) (HBF.out.alloc _) (HQ4.out.kept (World.grownBy_alloc W3 _ none) (fun k e => by simp at e)) hgrow hown1
            have hk5 : TKeep SpT w w5 := ((TKeep.of_below HQ2.out).trans (TKeep.of_grown (World.grownBy_alloc W3 (.cells #[.int .i64 st, .slice a xss.length c] 43) none) (fun k e => by simp at e))).trans (TKeep.of_own (HBF.out.1.alloc _) hgrow (by simp [SpT]))
            have hw5 : Below w0.heap.size w0 w5 := ((HJ.out.below.trans (HQ2.out.mono HJ.out.below.size)).alloc (by have := HJ.out.below.size; omega) (.cells #[.int .i64 st, .slice a xss.length c] 43)).grown hgrow (by have := HJ.out.below.size; simp; omega) (fun j e => by have := (HBF.out.1.lt j e).1; omega)
            have u2 := d2.c0
            have u3 := d2.free 0
            have hv2 : ∀ u, FrsO (M + 2) (w5.setCell ⟨N + 2, 0, none⟩ u) (.slice (some ⟨gg, 0, none⟩) (fs.length + 1) cp) (fs ++ [⟨st, a, c, xss⟩]) := fun u => by
              have := df.kept_lt (k := N + 2) (grown_set w5 ⟨N + 2, 0, none⟩ u) (by omega)
              simpa using this
            have hdn := SalJ.done (w0 := w0) (ao := ao) (bs := bs) (cap := cap) (ac := some ⟨b, off, none⟩) (l := l) (cc := cc) (N := N) (M := M) (i := i + 1) (W := (w5.setCell ⟨N + 2, 0, none⟩ (.slice (some ⟨gg, 0, none⟩) (fs.length + 1) cp)).drew) (x := (i : Int) + n) (y := st) hN hNM ((hw5.setCell (p := ⟨N + 2, 0, none⟩) (by simp; omega) _).drew) (d0.other (by omega) _ _) (d1.other (by omega) _ _) (d3.other (by omega) _ _) (d4.other (by omega) _ _) (d2.set0 _) (hv2 _) (by rw [HE.out]; simp [HFM.out, frm]) (by rw [HE.out]; simp) (by rw [HE.out, lastR_snoc])
            have hk6 : TKeep SpT w (w5.setCell ⟨N + 2, 0, none⟩ (.slice (some ⟨gg, 0, none⟩) (fs.length + 1) cp)).drew := hk5.trans (TKeep.set d2 0 _ (by simp [SpT]))
            have s0 := (dq.other (B' := N + 2) (by omega) 0 (.slice (some ⟨gg, 0, none⟩) (fs.length + 1) cp)).c0
            have s3 := (d3.other (B' := N + 2) (by omega) 0 (.slice (some ⟨gg, 0, none⟩) (fs.length + 1) cp)).c0
            have s4 := (d4.other (B' := N + 2) (by omega) 0 (.slice (some ⟨gg, 0, none⟩) (fs.length + 1) cp)).c0
            have t3 := (d3.other (B' := N + 2) (by omega) 0 (.slice (some ⟨gg, 0, none⟩) (fs.length + 1) cp)).free 0
            have t4 := (d4.other (B' := N + 2) (by omega) 0 (.slice (some ⟨gg, 0, none⟩) (fs.length + 1) cp)).free 0
            have HDN := Lib.hid hdn; have HK6 := Lib.hid hk6
            clear d0 d1 d2 d3 d4 dq df hk5 hw5 hv2 hdn hk6 hown1 hgrow hat hlt1 z0 z1 y3 y4 y5
            go_wp2
            go_region
            all_goals
              go_wp2
              go_ret
              first
                | exact ⟨ret_bool (by rw [HS.out]), HDN.out.1.1, HK6.out.trans HDN.out.1.2⟩
                | exact ⟨ret_bool (by rw [HS.out]), HDN.out.2.1, HK6.out.trans HDN.out.2.2⟩
          · have hs := salP_old (bs := bs) (l := l) (s := (out, beh)) (i := i) (x := (st, xss)) (n := n) hin h64 hfi hnew
            have hj := HJ.out.next (by rw [HST.out, HSTO.out, hs])
            have HS := Lib.hid hs; have HJ2 := Lib.hid hj
            clear hs hj
            go_wp2
            go_ret
            exact ⟨ret_bool (by rw [HS.out]), HJ2.out.bel HQ2.out, TKeep.of_below HQ2.out⟩
    · have hs := salP_full (bs := bs) (l := l) (s := (out, beh)) (i := i) hin h64
      have hj := HJ.out.next (by rw [HST.out, HSTO.out, hs])
      have HS := Lib.hid hs; have HJ2 := Lib.hid hj
      have h64i : ¬ fs.length < 64 := by have := HFL.out; omega
      clear hs hj hbk hcd hbh hbt hbl hfs hbe
      go_enter Tryz.func86, Tryz.ntmps86
      go_wp2
      go_ret
      exact ⟨ret_bool (by rw [HS.out]), HJ2.out, TKeep.refl _ _⟩
end Go.Proofs.YtoochleabcjljaaGreatDoor

/- Codes: Salvage, the whole. -/
namespace Go.Proofs.YtoochleabcjljaaGreatDoor
open Go.RowKit

theorem lostP_to (bs : List Chan) (l : List Nat) (i : Nat) : lostP (fun i => (salP bs l (salTo bs l i) i).2) i = lostTo bs l i := by
  induction i with
  | zero => rfl
  | succ i ih => rw [lostP, lostTo, ih]
def salErr (bs : List Chan) (l : List Nat) : Int := if bookErr bs ≠ 0 then bookErr bs else if 1048576 < l.length then 3 else 0
/-- what Salvage returns -/
def SalRes (base : Nat) (bs : List Chan) (l : List Nat) (e : Ending) (w' : World) : Prop :=
  if salErr bs l = 0 then ∃ v vl fs, e = .returned (.tuple #[v, vl, .int .i64 0]) ∧ fs.map frm = (salTo bs l l.length).1 ∧ FrsO base w' v fs ∧ w'.ownsRow base 71 2 vl (lostTo bs l l.length).length (prs (lostTo bs l l.length))
  else e = .returned (.tuple #[.slice none 0 0, .slice none 0 0, .int .i64 (salErr bs l)])
theorem SalRes.ok {base : Nat} {bs : List Chan} {l : List Nat} {w' : World} {v vl : Value} {fs : List Frm} (h : salErr bs l = 0) (h1 : fs.map frm = (salTo bs l l.length).1) (h2 : FrsO base w' v fs) (h3 : w'.ownsRow base 71 2 vl (lostTo bs l l.length).length (prs (lostTo bs l l.length))) : SalRes base bs l (.returned (.tuple #[v, vl, .int .i64 0])) w' := by
  unfold SalRes; rw [if_pos h]; exact ⟨v, vl, fs, rfl, h1, h2, h3⟩
theorem SalRes.err {base : Nat} {bs : List Chan} {l : List Nat} {w' : World} {x : Int} (h : salErr bs l = x) (hx : x ≠ 0) : SalRes base bs l (.returned (.tuple #[.slice none 0 0, .slice none 0 0, .int .i64 x])) w' := by
  unfold SalRes; rw [if_neg (by rw [h]; exact hx), h]

set_option maxRecDepth 100000 in
set_option maxHeartbeats 4000000 in
theorem salvage_any (ao : Option Addr) (bs : List Chan) (cap : Nat) (ac : Option Addr) (l : List Nat) (cc : Nat) (w : World) (hb : BookIn w ao bs cap) (hc : ByIn w ac l cc) :
    Calls Tryz.prog 45 #[.slice ao bs.length cap, .slice ac l.length cc] w fun e w' => SalRes w.heap.size bs l e w' ∧ Below w.heap.size w w' := by
  have HB := Lib.hid hb; have HC := Lib.hid hc
  have hlen := hb.len
  have hcl := hc.len
  obtain ⟨W, hW⟩ : ∃ W, W = ((w.alloc (.cells #[.slice ao bs.length cap] 37)).alloc (.cells #[.slice ac l.length cc] 48)).alloc (.cells #[.slice none 0 0] 38) := ⟨_, rfl⟩
  have hbw : Below w.heap.size w W := by rw [hW]; exact (((Below.refl w.heap.size w).alloc (Nat.le_refl _) _).alloc (by simp) _).alloc (by simp <;> omega) _
  have hWs : W.heap.size = w.heap.size + 3 := by rw [hW]; simp
  have hk0 : Blk W w.heap.size 37 #[.slice ao bs.length cap] := by rw [hW]; exact ((Blk.new w 37 #[.slice ao bs.length cap]).alloc _).alloc _
  have hk1 : Blk W (w.heap.size + 1) 48 #[.slice ac l.length cc] := by
    have := Blk.new (w.alloc (.cells #[.slice ao bs.length cap] 37)) 48 #[.slice ac l.length cc]
    rw [World.size_alloc] at this
    rw [hW]; exact this.alloc _
  have hk2 : Blk W (w.heap.size + 1 + 1) 38 #[.slice none 0 0] := by
    have := Blk.new ((w.alloc (.cells #[.slice ao bs.length cap] 37)).alloc (.cells #[.slice ac l.length cc] 48)) 38 #[.slice none 0 0]
    rw [World.size_alloc, World.size_alloc] at this
    rw [hW]; exact this
  have hb1 := hb.below hbw (Nat.le_refl _)
  have hck := checkBook_any ao bs cap W hb1.cells (by omega) hb1.lecap hb1.cap2 hb1.names hb1.rates
  have HCK := Lib.hid hck
  have x0 := hk0.c0
  have x2 := hk2.c0
  have y2 := hk2.free 0
  have HK0 := Lib.hid hk0; have HK1 := Lib.hid hk1; have HK2 := Lib.hid hk2; have HBW := Lib.hid hbw
  have HW := Lib.hid hW
  clear hb hc hb1 hck hbw hk0 hk1 hk2
  by_cases h1 : bookErr bs = 0
  · have hok := bookErr_zero h1
    have H1 := Lib.hid h1; have HOK := Lib.hid hok
    clear h1 hok
    go_enter Tryz.func45, Tryz.ntmps45
    go_wp2_with fail
    rw [← HW.out]
    refine HCK.out.mono ?_
    rintro e w1 ⟨rfl, hb1⟩
    rw [H1.out]
    have hbe1 := HBW.out.trans (hb1.mono (by omega))
    have hz1 := hb1.size
    have p0 := HK0.out.below hb1 (by omega)
    have p1 := HK1.out.below hb1 (by omega)
    have p2 := HK2.out.below hb1 (by omega)
    have x1 := p1.c0
    have x2 := p2.c0
    have y2 := p2.free 0
    have P0 := Lib.hid p0; have P1 := Lib.hid p1; have P2 := Lib.hid p2
    clear p0 p1 p2 hb1
    by_cases hbig : 1048576 < l.length
    · have he : salErr bs l = 3 := by unfold salErr; rw [if_neg (by simpa using H1.out), if_pos hbig]
      have HE := Lib.hid he
      have hbi : (1048576 : Int) < l.length := by omega
      clear he
      go_wp2_with fail
      (try simp only [Exit.inBlock, Exit.then])
      refine bodyPost_ret (v := .tuple #[.slice none 0 0, .slice none 0 0, .int .i64 3]) (by rw [results_cell2 rfl]; go_simp) rfl ⟨SalRes.err HE.out (by decide), ?_⟩
      exact hbe1.setCell (p := ⟨w.heap.size + 1 + 1, 0, none⟩) (by simp; omega) _
    · have he : salErr bs l = 0 := by unfold salErr; rw [if_neg (by simpa using H1.out), if_neg hbig]
      have HE := Lib.hid he
      have hbi : ¬ (1048576 : Int) < l.length := by omega
      have hbb := ((Below.refl w1.heap.size w1).alloc (Nat.le_refl _) (.cells #[.int .i64 0] 3)).alloc (by simp) (.cells #[.int .i64 (-1)] 3)
      have hbe2 := (hbe1.alloc (by omega) (.cells #[.int .i64 0] 3)).alloc (by simp; omega) (.cells #[.int .i64 (-1)] 3)
      have b0 := P0.out.below hbb P0.out.lt
      have b1 := P1.out.below hbb P1.out.lt
      have b2 := P2.out.below hbb P2.out.lt
      have b3 : Blk ((w1.alloc (.cells #[.int .i64 0] 3)).alloc (.cells #[.int .i64 (-1)] 3)) w1.heap.size 3 #[.int .i64 0] := (Blk.new w1 3 #[.int .i64 0]).alloc _
      have b4 : Blk ((w1.alloc (.cells #[.int .i64 0] 3)).alloc (.cells #[.int .i64 (-1)] 3)) (w1.heap.size + 1) 3 #[.int .i64 (-1)] := by
        have := Blk.new (w1.alloc (.cells #[.int .i64 0] 3)) 3 #[.int .i64 (-1)]
        rwa [World.size_alloc] at this
      have v1 := b1.c0
      have hj0 : SalJ w ao bs cap ac l cc w.heap.size w1.heap.size 0 ((w1.alloc (.cells #[.int .i64 0] 3)).alloc (.cells #[.int .i64 (-1)] 3)) := ⟨hbe2, b0, b1, b3, b4, _, [], rfl, b2, FrsO.nil _ _⟩
      have hsz2 : ((w1.alloc (.cells #[.int .i64 0] 3)).alloc (.cells #[.int .i64 (-1)] 3)).heap.size = w1.heap.size + 2 := by simp
      have HJ0 := Lib.hid hj0; have HSZ := Lib.hid hsz2; have HB2 := Lib.hid hbe2
      clear he hbb b0 b1 b2 b3 b4 hj0 hsz2 hbe2
      go_wp2_with fail
      have hsp := spans_any 86 #[.pointer (some ⟨w1.heap.size, 0, none⟩), .pointer (some ⟨w.heap.size + 2, 0, none⟩), .pointer (some ⟨w.heap.size, 0, none⟩), .pointer (some ⟨w.heap.size + 1, 0, none⟩), .pointer (some ⟨w1.heap.size + 1, 0, none⟩)] (fun i => (salP bs l (salTo bs l i) i).2) (fun i wx => SalJ w ao bs cap ac l cc w.heap.size w1.heap.size i wx) l.length ((w1.alloc (.cells #[.int .i64 0] 3)).alloc (.cells #[.int .i64 (-1)] 3)) hcl
        (fun vs wx => by kernel_rfl) HJ0.out
        (fun i wx wy hj _ hbw hk => hj.keep (hbw.mono (by rw [HSZ.out]; omega)) hk)
        (fun i wx hi hj => by
          obtain ⟨b, off, rfl⟩ := HC.out.cells.addr (bys_ne (by omega))
          exact salvage1_any w ao bs cap b off l cc w.heap.size w1.heap.size i wx (Nat.le_refl _) (by omega) HOK.out HB.out HC.out hi hj)
      rw [lostP_to] at hsp
      refine hsp.mono ?_
      rintro e w2 ⟨⟨vl, rfl, hol⟩, hj, hzz⟩
      obtain ⟨hjb, -, -, -, -, v, fs, hfm, hbl, hfs⟩ := hj
      obtain ⟨fa, fc, rfl, -⟩ := hfs.recIn
      have t0 := hbl.c0
      have t1 := hbl.free 0
      have hbl2 := hbl.set0 (.slice fa fs.length fc)
      have hfs2 := hfs.kept_lt (k := w.heap.size + 2) (grown_set w2 ⟨w.heap.size + 2, 0, none⟩ (.slice fa fs.length fc)) (by omega)
      have hol2 := own_set_other (p := ⟨w.heap.size + 2, 0, none⟩) (u := .slice fa fs.length fc) hol (blk_own_ne hbl hol (by decide))
      rw [HSZ.out] at hol2
      have HFM := Lib.hid hfm; have HFS := Lib.hid (hfs2.base (show w.heap.size ≤ w1.heap.size + 2 by omega)); have HOL := Lib.hid (own_base hol2 (show w.heap.size ≤ w1.heap.size + 2 by omega))
      have u0 := hbl2.c0
      clear hol hfm hbl hfs hbl2 hfs2 hol2 hsp v1 x1 x2 y2
      go_wp2_with fail
      (try simp only [Exit.inBlock, Exit.then])
      refine bodyPost_ret (v := .tuple #[.slice fa fs.length fc, vl, .int .i64 0]) (by rw [results_cell2 rfl]; go_simp) rfl ⟨SalRes.ok HE.out HFM.out HFS.out HOL.out, ?_⟩
      exact hjb.setCell (p := ⟨w.heap.size + 1 + 1, 0, none⟩) (by simp; omega) _
  · have he : salErr bs l = bookErr bs := by unfold salErr; rw [if_pos h1]
    have HE := Lib.hid he
    have h3 : (bookErr bs != 0) = true := by simpa using h1
    have h4 : (bookErr bs == 0) = false := by simpa using h1
    clear he
    go_enter Tryz.func45, Tryz.ntmps45
    go_wp2_with fail
    rw [← HW.out]
    refine HCK.out.mono ?_
    rintro e w1 ⟨rfl, hb1⟩
    have hbe1 := HBW.out.trans (hb1.mono (by omega))
    have hz1 := hb1.size
    have p2 := HK2.out.below hb1 (by omega)
    have x2 := p2.c0
    have y2 := p2.free 0
    clear p2 hb1
    go_wp2_with fail
    (try simp only [Exit.inBlock, Exit.then])
    refine bodyPost_ret (v := .tuple #[.slice none 0 0, .slice none 0 0, .int .i64 (bookErr bs)]) (by rw [results_cell2 rfl]; go_simp) rfl ⟨SalRes.err HE.out h1, ?_⟩
    exact hbe1.setCell (p := ⟨w.heap.size + 1 + 1, 0, none⟩) (by simp; omega) _
end Go.Proofs.YtoochleabcjljaaGreatDoor

/- sameBands. -/
namespace Go.Proofs.YtoochleabcjljaaGreatDoor
open Go.RowKit

/-- sameBands: are two lists of pairs the same? -/
theorem sameBands_any (aa ab : Option Addr) (xs ys : List (Int × Int)) (ca cb : Nat) (w : World) (ha : Cells w aa (prs xs)) (hb : Cells w ab (prs ys)) (hl : xs.length ≤ 9223372036854775807) (hl' : ys.length ≤ 9223372036854775807) :
    Calls Tryz.prog 65 #[.slice aa xs.length ca, .slice ab ys.length cb] w fun e w' => e = .returned (.bool (decide (xs = ys))) ∧ Below w.heap.size w w' := by
  by_cases hlen : xs.length = ys.length
  · have h1 : ((xs.length : Int) != ys.length) = false := by simp [hlen]
    have hlt : (ys.length : Int) ≤ xs.length := by omega
    have HL := Lib.hid hlen; clear hlen
    go_enter Tryz.func65, Tryz.ntmps65
    go_wp2
    go_loopw [5] (fun i wr => ∃ k : Nat, k ≤ xs.length ∧ i = .int .i64 k ∧ xs.take k = ys.take k ∧ Below w.heap.size w wr) (fun i _ => xs.length - (intOf i).toNat)
    case atStart => exact ⟨0, Nat.zero_le _, rfl, rfl, Below.refl _ _⟩
    case round =>
      obtain ⟨k, hk, rfl, heq, hbe⟩ := hrel
      have HQ := Lib.hid heq; clear heq
      by_cases hlt : k < xs.length
      · have hlt2 : k < ys.length := by have := HL.out; omega
        obtain ⟨⟨x1, x2⟩, hx⟩ := get_of_lt hlt
        obtain ⟨⟨y1, y2⟩, hy⟩ := get_of_lt hlt2
        obtain ⟨b, off, rfl⟩ := ha.addr (prs_ne (by omega))
        obtain ⟨b2, off2, rfl⟩ := hb.addr (prs_ne (by omega))
        have c1 := cell_keep (ha.at (prs_fst hx)) hbe (Nat.le_refl _)
        have c2 := cell_keep (ha.at (prs_snd hx)) hbe (Nat.le_refl _)
        have c3 := cell_keep (hb.at (prs_fst hy)) hbe (Nat.le_refl _)
        have c4 := cell_keep (hb.at (prs_snd hy)) hbe (Nat.le_refl _)
        rw [← Nat.add_assoc] at c2 c4
        simp only at c1 c2 c3 c4
        have i1 : (k : Int) < xs.length := by omega
        have i2 : (k : Int) < ys.length := by omega
        have i3 : (0 : Int) ≤ k := by omega
        by_cases hxy : x1 = y1 ∧ x2 = y2
        · obtain ⟨rfl, rfl⟩ := hxy
          have ht : xs.take (k + 1) = ys.take (k + 1) := by rw [take_get hx, take_get hy, HQ.out]
          have HT := Lib.hid ht; clear ht hx hy
          go_wp2
          go_quiet (fail)
          go_wp2
          go_roundw
          case rel => exact ⟨k + 1, by omega, by go_num, HT.out, bel_drewN hbe _⟩
          case measure => simp [intOf]; omega
        · have hne : decide (xs = ys) = false := by
            rw [decide_eq_false_iff_not]; rintro rfl
            rw [hx] at hy; simp at hy; exact hxy hy
          have HNE := Lib.hid hne; clear hne hx hy
          by_cases hx1 : x1 = y1
          · obtain rfl := hx1
            have hb1 : (x2 == y2) = false := by simpa using hxy
            go_wp2
            go_quiet (fail)
            go_wp2
            go_ret
            exact ⟨ret_bool HNE.out.symm, bel_drewN hbe _⟩
          · have hb1 : (x1 == y1) = false := by simpa using hx1
            go_wp2
            go_quiet (fail)
            go_wp2
            go_ret
            exact ⟨ret_bool HNE.out.symm, bel_drewN hbe _⟩
      · obtain rfl : k = xs.length := by omega
        have he : decide (xs = ys) = true := by
          rw [decide_eq_true_iff]
          have := HQ.out
          rw [List.take_length, HL.out, List.take_length] at this; exact this
        have HE := Lib.hid he; clear he
        go_wp2
        go_ret
        exact ⟨ret_bool HE.out.symm, hbe⟩
  · have h1 : ((xs.length : Int) != ys.length) = true := by simp; omega
    have he : decide (xs = ys) = false := by
      rw [decide_eq_false_iff_not]; rintro rfl; exact hlen rfl
    have HE := Lib.hid he; clear he
    go_enter Tryz.func65, Tryz.ntmps65
    go_wp2
    go_ret
    exact ⟨ret_bool HE.out.symm, Below.refl _ _⟩
end Go.Proofs.YtoochleabcjljaaGreatDoor

/- Examples: SameInts, the book. -/
namespace Go.Proofs.YtoochleabcjljaaGreatDoor
open Go.RowKit

/-- SameInts: are two lists of numbers the same? -/
theorem sameInts_any (aa ab : Option Addr) (xs ys : List Int) (ca cb : Nat) (w : World) (ha : Cells w aa (xs.map (Value.int .i64))) (hb : Cells w ab (ys.map (Value.int .i64))) (hl : xs.length ≤ 9223372036854775807) (hl' : ys.length ≤ 9223372036854775807) :
    Calls Tryz.prog 17 #[.slice aa xs.length ca, .slice ab ys.length cb] w fun e w' => e = .returned (.bool (decide (xs = ys))) ∧ Below w.heap.size w w' := by
  by_cases hlen : xs.length = ys.length
  · have h1 : ((xs.length : Int) != ys.length) = false := by simp [hlen]
    have hlt : (ys.length : Int) ≤ xs.length := by omega
    have HL := Lib.hid hlen; clear hlen
    have HA := Lib.hid ha; have HB := Lib.hid hb; clear ha hb
    go_enter Tryz.func17, Tryz.ntmps17
    go_wp2
    go_loopw [5] (fun i wr => ∃ k : Nat, k ≤ xs.length ∧ i = .int .i64 k ∧ xs.take k = ys.take k ∧ Below w.heap.size w wr) (fun i _ => xs.length - (intOf i).toNat)
    case atStart => exact ⟨0, Nat.zero_le _, rfl, rfl, Below.refl _ _⟩
    case round =>
      obtain ⟨k, hk, rfl, heq, hbe⟩ := hrel
      have HQ := Lib.hid heq; clear heq
      by_cases hlt : k < xs.length
      · have hlt2 : k < ys.length := by have := HL.out; omega
        obtain ⟨x, hx⟩ := get_of_lt hlt
        obtain ⟨y, hy⟩ := get_of_lt hlt2
        obtain ⟨b, off, rfl⟩ := HA.out.addr (by simpa using List.ne_nil_of_length_pos (by omega))
        obtain ⟨b2, off2, rfl⟩ := HB.out.addr (by simpa using List.ne_nil_of_length_pos (by omega))
        have c1 := cell_keep (HA.out.int hx) hbe (Nat.le_refl _)
        have c2 := cell_keep (HB.out.int hy) hbe (Nat.le_refl _)
        have i1 : (k : Int) < xs.length := by omega
        have i2 : (k : Int) < ys.length := by omega
        have i3 : (0 : Int) ≤ k := by omega
        by_cases hxy : x = y
        · obtain rfl := hxy
          have ht : xs.take (k + 1) = ys.take (k + 1) := by rw [take_get hx, take_get hy, HQ.out]
          have HT := Lib.hid ht; clear ht hx hy
          go_wp2
          go_quiet (fail)
          go_wp2
          go_roundw
          case rel => exact ⟨k + 1, by omega, by go_num, HT.out, bel_drewN hbe _⟩
          case measure => simp [intOf]; omega
        · have hne : decide (xs = ys) = false := by
            rw [decide_eq_false_iff_not]; rintro rfl
            rw [hx] at hy; simp at hy; exact hxy hy
          have HNE := Lib.hid hne; clear hne hx hy
          have hb1 : (x == y) = false := by simpa using hxy
          have hb2 : (x != y) = true := by simpa using hxy
          go_wp2
          go_quiet (fail)
          go_wp2
          go_ret
          exact ⟨ret_bool HNE.out.symm, bel_drewN hbe _⟩
      · obtain rfl : k = xs.length := by omega
        have he : decide (xs = ys) = true := by
          rw [decide_eq_true_iff]
          have := HQ.out
          rw [List.take_length, HL.out, List.take_length] at this; exact this
        have HE := Lib.hid he; clear he
        go_wp2
        go_ret
        exact ⟨ret_bool HE.out.symm, hbe⟩
  · have h1 : ((xs.length : Int) != ys.length) = true := by simp; omega
    have he : decide (xs = ys) = false := by
      rw [decide_eq_false_iff_not]; rintro rfl; exact hlen rfl
    have HE := Lib.hid he; clear he
    go_enter Tryz.func17, Tryz.ntmps17
    go_wp2
    go_ret
    exact ⟨ret_bool HE.out.symm, Below.refl _ _⟩

/-- the book of the examples -/
def bookX : List Chan := [⟨⟨#[101, 114, 114]⟩, 4, 8⟩, ⟨⟨#[97, 117, 120]⟩, 1, 4⟩]
theorem book_any (w : World) :
    Calls Tryz.prog 52 #[] w fun e w' => e = .returned (.slice (some ⟨w.heap.size, 0, none⟩) 2 2) ∧ w' = w.alloc (.cells #[.string ⟨#[101, 114, 114]⟩, .int .i64 4, .int .i64 8, .string ⟨#[97, 117, 120]⟩, .int .i64 1, .int .i64 4] 106) := by
  go_enter Tryz.func52, Tryz.ntmps52
  go_wp2
  go_ret
  exact ⟨rfl, rfl⟩
end Go.Proofs.YtoochleabcjljaaGreatDoor
