/- Codes: encode. -/
import Derived.Test.YtoochleabcjljaaDoorE9
import Derived.Test.YtoochleabcjljaaDoorC4
namespace Go.Proofs.YtoochleabcjljaaDoor
open Go.RowKit Go.Shelf

theorem grown_of_below {n : Nat} {w w' : World} (hb : Below n w w') (hn : w.heap.size ≤ n) (row : Option Nat) : w.grownBy w' row := ⟨hb.os, hb.tape, hb.output, hb.size, fun k hk _ => hb.block k (by omega)⟩
theorem own_base {w : World} {B B' : Nat} {e : TypeId} {s : Nat} {v : Value} {n : Nat} {xs : List Value} (h : w.ownsRow B e s v n xs) (hB : B' ≤ B) : w.ownsRow B' e s v n xs := by
  refine ⟨h.1, h.2.imp id ?_⟩
  rintro ⟨g, cap, cur, h1, h2, h3⟩
  exact ⟨g, cap, cur, h1, by omega, h3⟩
theorem own_below {w w' : World} {B n : Nat} {e : TypeId} {s : Nat} {v : Value} {m : Nat} {xs : List Value} (h : w.ownsRow B e s v m xs) (hb : Below n w w') (hn : w.heap.size ≤ n) : w'.ownsRow B e s v m xs :=
  h.kept (row := none) (grown_of_below hb hn none) (by cases hv : v.ownBlock <;> simp)
theorem WrS.wide {B bW n : Nat} {S : Nat → Prop} {w w' : World} {bs : List Nat} (h : WrS B bW S w bs) (hb : Below n w w') (hn : w.heap.size ≤ n) : WrS B bW (fun k => S k ∨ (w.heap.size ≤ k ∧ k < w'.heap.size)) w' bs := by
  obtain ⟨h1, h2, v, h3, h4, h5, h6⟩ := h
  have hl := heap_lt h3
  refine ⟨h1, h2, v, by rw [hb.block _ (by omega)]; exact h3, own_below h4 hb hn, h5, fun k hk => ?_⟩
  have hs := hb.size
  rcases hk with hk | ⟨hk1, hk2⟩
  · have := h6 k hk; exact ⟨by omega, this.2⟩
  · exact ⟨hk2, by omega, fun e => by have := (h4.lt _ e).2; omega⟩
theorem WrS.new (B : Nat) (S : Nat → Prop) (W : World) (hB : B ≤ W.heap.size) (hS : ∀ k, S k → k < W.heap.size) : WrS B W.heap.size S (W.alloc (.cells #[.slice none 0 0, .int .i64 0] 91)) [] :=
  ⟨hB, by simp, .slice none 0 0, World.alloc_heap_new W _, by rw [octs_nil]; exact World.ownsRow_nil _ _ _ _, by simp [Value.ownBlock], fun k hk => ⟨by have := hS k hk; simp; omega, by have := hS k hk; omega, by simp [Value.ownBlock]⟩⟩
theorem frBits_bits (st : Int) (xss : List (List Int)) : ∀ b ∈ frBits st xss, b ≤ 1 := by
  intro b hb
  rcases List.mem_append.1 hb with h | h
  · exact binL_bits _ _ b h
  · obtain ⟨x, _, hx⟩ := List.mem_flatMap.1 h
    unfold encC encL at hx
    rcases List.mem_append.1 hx with h | h
    · rcases List.mem_append.1 h with h | h <;> exact binL_bits _ _ b h
    · obtain ⟨r, _, hr⟩ := List.mem_flatMap.1 h
      exact encU_bits _ _ b hr

theorem best_way (ao : Option Addr) (xs : List Int) (cap : Nat) (w : World) (hc : Cells w ao (xs.map (Value.int .i64))) (hl : xs.length ≤ 4096) (hx : ∀ x ∈ xs, -8388608 ≤ x ∧ x ≤ 8388608) :
    Calls Tryd.prog 47 #[.slice ao xs.length cap] w fun e w' => ∃ o s : Nat, wayOf xs = (o, s) ∧ e = .returned (.agg #[.int .i64 (o : Nat), .int .i64 (s : Nat)]) ∧ Below w.heap.size w w' := by
  have h := best_any ao xs cap w hc hl hx
  unfold wayOf
  generalize wvs 124 = q at *
  exact h.mono fun e w' h => ⟨_, _, rfl, h⟩

theorem enc_write {B bW : Nat} (S : Nat → Prop) (o sh : Nat) (ho : o ≤ 3) (hsh : sh ≤ 30) (al : Option Addr) (l : List Int) (cl : Nat) (bs : List Nat) {n : Nat} (w : World)
    (hst : WrS B bW S w bs) (hS : ∀ b, n ≤ b ∧ b < w.heap.size → S b) (hl : ∀ b off, al = some ⟨b, off, none⟩ → n ≤ b) (hc : Cells w al (l.map (Value.int .i64))) (hlen : l.length ≤ 4096) (hbs : bs.length ≤ 1000000) (hr : ∀ r ∈ l, -67108864 ≤ r ∧ r ≤ 67108864) :
    Calls Tryd.prog 48 #[.agg #[.int .i64 (o : Nat), .int .i64 (sh : Nat)], .iface 89 (.pointer (some ⟨bW, 0, none⟩)), .slice al l.length cl] w fun e w' => e = .returned (.tuple #[]) ∧ WrS B bW S w' (bs ++ encL o sh l) ∧ KeepS S B w w' := by
  refine write_any (writer_ok B bW) S o sh ho hsh al l cl bs w hst (fun b off hb hne => hS b ⟨hl b off hb, ?_⟩) hc hlen hbs hr
  subst hb
  obtain ⟨r, hr0⟩ := get_of_lt (List.length_pos_iff.2 hne)
  exact World.block_lt_of_cell? w _ (hc.at (j := 0) (by rw [List.getElem?_map, hr0]; rfl))

theorem WrS.lit (w : World) : WrS w.heap.size (w.heap.size + 1) (fun k => k < w.heap.size) ((w.alloc (.cells #[.int .u8 165, .int .u8 90] 5)).alloc (.cells #[.slice (some ⟨w.heap.size, 0, none⟩) 2 2, .int .i64 0] 91)) (unB [165, 90]) := by
  refine ⟨by omega, unB_bits _, .slice (some ⟨w.heap.size, 0, none⟩) 2 2, ?_, ?_, by simp [Value.ownBlock], fun k hk => ⟨by simp; omega, by omega, by simp [Value.ownBlock]; omega⟩⟩
  · have h := World.alloc_heap_new (w.alloc (.cells #[.int .u8 165, .int .u8 90] 5)) (.cells #[.slice (some ⟨w.heap.size, 0, none⟩) 2 2, .int .i64 0] 91)
    rw [World.size_alloc] at h
    exact h
  · rw [octs_unB _ (by decide)]
    refine ⟨rfl, .inr ⟨w.heap.size, 2, #[.int .u8 165, .int .u8 90], rfl, Nat.le_refl _, ?_, by decide, by unfold maxLen; omega, rfl, rfl⟩⟩
    rw [Below.heap_alloc _ _ _ (by simp)]
    exact World.alloc_heap_new w _

set_option maxRecDepth 100000 in
set_option maxHeartbeats 2000000 in
theorem encode_any (ao : Option Addr) (nb : Nat) (cap : Nat) (st : Int) (asm : Option Addr) (vs : List Value) (xss : List (List Int)) (cs : Nat) (w : World) (hl : nb ≤ 16) (hnb : xss.length = nb) (hs : Cells w asm vs) (hr : RowsV w vs xss)
    (hst0 : 0 ≤ st) (hst1 : st ≤ 1073741824) (hxl : ∀ xs ∈ xss, xs.length ≤ 64) (hxb : ∀ xs ∈ xss, ∀ x ∈ xs, -8388608 ≤ x ∧ x ≤ 8388608) :
    Calls Tryd.prog 38 #[.slice ao nb cap, .agg #[.int .i64 st, .slice asm nb cs]] w fun e w' => (∃ v, e = .returned v ∧ w'.ownsRow w.heap.size 5 1 v (encB st xss).length (bys (encB st xss))) ∧ Below w.heap.size w w' := by
  have HS := Lib.hid hs; have HR := Lib.hid hr; have HXL := Lib.hid hxl; have HXB := Lib.hid hxb; have HNB := Lib.hid hnb
  clear hs hr hxl hxb hnb
  go_enter Tryd.func38, Tryd.ntmps38
  go_wp2_with fail
  have hw0 := WrS.new (w.heap.size + 1) (fun _ => False) (w.alloc (.cells #[.int .i64 st, .slice asm nb cs] 53)) (by simp) (fun k h => h.elim)
  rw [World.size_alloc] at hw0
  refine (writer_put _ _ _ _ st 32 _ hw0 hst0 (by omega) (by omega) (by simp)).mono ?_
  rintro e w1 ⟨rfl, hw1, hk1⟩
  have hb1 : Below (w.heap.size + 1) (w.alloc (.cells #[.int .i64 st, .slice asm nb cs] 53)) w1 := ((Below.refl _ _).alloc (by simp) _).trans hk1.below
  have HW1 := Lib.hid hw1
  clear hw0 hw1 hk1
  go_wp2
  go_loopw [18] (fun i wr => ∃ k : Nat, k ≤ nb ∧ i = .int .i64 k ∧ WrS (w.heap.size + 1) (w.heap.size + 1) (fun _ => False) wr (frBits st (xss.take k)) ∧ Below (w.heap.size + 1) (w.alloc (.cells #[.int .i64 st, .slice asm nb cs] 53)) wr) (fun i _ => nb - (intOf i).toNat)
  case atStart => exact ⟨0, Nat.zero_le _, rfl, by simpa [frBits] using HW1.out, hb1⟩
  case round =>
    clear hb1 HW1
    obtain ⟨k, hk, rfl, hwr, hb⟩ := hrel
    have HWR := Lib.hid hwr; clear hwr
    have hsz : w.heap.size + 1 ≤ wr.heap.size := by have := hb.size; simpa using this
    by_cases hlt : k < nb
    · obtain ⟨xs, hxs⟩ := get_of_lt (show k < xss.length by have := HNB.out; omega)
      obtain ⟨v, hv⟩ := get_of_lt (show k < vs.length by have := HR.out.1; have := HNB.out; omega)
      obtain ⟨b2, off2, rfl⟩ := HS.out.addr (List.ne_nil_of_length_pos (by have := HR.out.1; have := HNB.out; omega))
      have hbw : Below w.heap.size w wr := ((Below.refl _ _).alloc (Nat.le_refl _) _).trans (hb.mono (by omega))
      have c3 := cell_keep (HS.out.at hv) hbw (Nat.le_refl _)
      have p1 : wr.cell? ⟨w.heap.size, 1, none⟩ = some (.slice (some ⟨b2, off2, none⟩) nb cs) := box_keep hb (by simp) 1
      obtain ⟨ax, cx, rfl, hax, _⟩ := HR.out.2 k v xs hv hxs
      have hmem := List.mem_of_getElem? hxs
      have hxl := HXL.out xs hmem
      have hxb := HXB.out xs hmem
      have hax2 := hax.below hbw (Nat.le_refl _)
      have HXB2 := Lib.hid hxb; have HAX := Lib.hid hax2
      have HT : Hid (frBits st (xss.take (k + 1)) = frBits st (xss.take k) ++ encC xs) := Lib.hid (by
        rw [frBits, frBits, take_get hxs, List.flatMap_append]; simp)
      have HFL : Hid ((frBits st (xss.take k)).length ≤ 32 + 3335 * 16) := Lib.hid (by
        have h1 := flat_encC (xss.take k) 64 (fun y hy => HXL.out y (List.mem_of_mem_take hy))
        rw [List.length_take, Nat.min_eq_left (by have := HNB.out; omega)] at h1
        rw [frBits, List.length_append, binL_length]; omega)
      clear hv hxs hax hax2 hxb hmem
      go_wp2_with fail
      refine (best_way ax xs cx wr HAX.out (by omega) HXB2.out).mono ?_
      rintro e w1 ⟨o, sh, hwy, rfl, hb1⟩
      have hwb := wayOf_bd xs
      rw [hwy] at hwb
      obtain ⟨ho, hsh⟩ := hwb
      simp only at ho hsh
      have HE : Hid (encC xs = encL o sh (resid xs o)) := Lib.hid (by rw [encC, hwy])
      clear hwy
      have hb2 := hb.trans (hb1.mono hsz)
      have hbx := hb1.alloc hb1.size (.cells #[.int .i64 o, .int .i64 sh] 94)
      have HW2 := Lib.hid ((HWR.out.wide hbx (Nat.le_refl _)))
      have hn1 := hb1.size
      go_wp2
      have hax3 := HAX.out.below hbx.drew (Nat.le_refl _)
      have HAX3 := Lib.hid hax3
      have bw := (Blk.new w1 94 #[.int .i64 o, .int .i64 sh]).drew
      have HWd : Hid (WrS (w.heap.size + 1) (w.heap.size + 1) (fun k => False ∨ (wr.heap.size ≤ k ∧ k < (w1.alloc (.cells #[.int .i64 o, .int .i64 sh] 94)).drew.heap.size)) (w1.alloc (.cells #[.int .i64 o, .int .i64 sh] 94)).drew (frBits st (xss.take k))) := Lib.hid HW2.out
      have hsc : (w1.alloc (.cells #[.int .i64 o, .int .i64 sh] 94)).drew.heap.size = w1.heap.size + 1 := by simp
      have hbd := hbx.drew
      clear hax3 HW2 HAX hb1 hbx c3 p1
      have e0 := bw.c0
      have e1 := bw.c1
      have HBW := Lib.hid bw; have HSC := Lib.hid hsc
      clear bw hsc
      generalize (w1.alloc (.cells #[.int .i64 o, .int .i64 sh] 94)) = Wc at *
      go_region_with (first
        | (go_at_call 49; refine (residues_any ax xs cx o Wc.drew HAX3.out (by omega) ho HXB2.out).mono ?_; rintro e w2 ⟨⟨a1, k1, rfl, hca, hna⟩, hb3⟩; have HCA := Lib.hid hca; have HNA := Lib.hid hna; clear hca hna; have d0 := cell_keep e0 hb3 (Nat.le_refl _); have d1 := cell_keep e1 hb3 (Nat.le_refl _))
        | (go_at_call 48; refine (enc_write _ o sh ho hsh a1 (resid xs o) k1 _ w2 (HWd.out.wide hb3 (Nat.le_refl _)) (fun b hb => .inr hb) HNA.out HCA.out (by rw [resid_length]; omega) (by have := HFL.out; omega) (resid_bd HXB2.out o ho)).mono ?_; rintro e w3 ⟨rfl, hw3, hk3⟩; have hb4 := hk3.below; have HW3 := Lib.hid hw3; clear hw3 hk3))
      all_goals
        have hbz := (hb.trans ((hbd.mono hsz).trans (hb3.mono (Nat.le_trans hsz hbd.size)))).trans hb4
        have HBZ := Lib.hid hbz
        clear hbz hb4 hb3 hbd hb
        go_wp2
        go_roundw
        case rel => exact ⟨k + 1, by omega, by go_num, by rw [HT.out, HE.out]; exact (writer_ok _ _).mono _ _ _ _ (fun k h => h.elim) HW3.out, HBZ.out⟩
        case measure => simp [intOf]; omega
    · obtain rfl : k = nb := by omega
      have ht : xss.take k = xss := by rw [List.take_of_length_le (by have := HNB.out; omega)]
      rw [ht] at HWR
      have hfl : (frBits st xss).length ≤ 32 + 3335 * 16 := by
        have h1 := flat_encC xss 64 HXL.out
        have := HNB.out
        rw [frBits, List.length_append, binL_length]; omega
      have hfl2 : 32 ≤ (frBits st xss).length := by rw [frBits, List.length_append, binL_length]; omega
      have HBI := Lib.hid (frBits_bits st xss)
      have hol := octs_len (frBits st xss)
      have hbw : Below w.heap.size w wr := ((Below.refl _ _).alloc (Nat.le_refl _) _).trans (hb.mono (by omega))
      clear ht hb
      have HENC : Hid (encB st xss = hdB (octs (frBits st xss)) ++ octs (binL (chkL (hdB (octs (frBits st xss))) : Nat) 24)) := Lib.hid rfl
      have hok := (octs_ok _ HBI.out).1
      obtain ⟨eb, heb⟩ : ∃ eb, eb = encB st xss := ⟨_, rfl⟩
      rw [← heb] at HENC
      have HEB := Lib.hid heb
      clear heb
      generalize frBits st xss = fb at *
      have hn1 : 4 ≤ (octs fb).length := by omega
      have hn2 : (octs fb).length ≤ 6674 := by omega
      have HOK := Lib.hid hok
      clear hol hfl hfl2 hok
      obtain ⟨_, _, v1, hbk, hown, hne, _⟩ := HWR.out
      generalize octs fb = body at *
      obtain ⟨a1, c1, rfl, hca⟩ := own_cells hown
      obtain ⟨bv, ov, rfl⟩ := hca.addr (bys_ne (by omega))
      have p0 : wr.cell? ⟨w.heap.size + 1, 0, none⟩ = some (.slice (some ⟨bv, ov, none⟩) body.length c1) := by rw [Lib.cell_of_heap hbk]; rfl
      have hlt1 := heap_lt hbk
      have hlt2 := (hown.lt bv rfl).2
      have HBK := Lib.hid hbk; have HCA := Lib.hid hca; have HNE := Lib.hid hne
      have hba := (((Below.refl wr.heap.size wr).alloc (Nat.le_refl _) (.cells #[.int .u8 165, .int .u8 90] 5)).alloc (by simp) (.cells #[.slice (some ⟨wr.heap.size, 0, none⟩) 2 2, .int .i64 0] 91))
      have p1 := cell_keep p0 hba (Nat.le_refl _)
      have HPK := Lib.hid p0
      clear hbk hown hca hne HWR
      go_wp2_with fail
      have hw2 := WrS.lit wr
      clear p0 p1
      generalize ((wr.alloc (.cells #[.int .u8 165, .int .u8 90] 5)).alloc (.cells #[.slice (some ⟨wr.heap.size, 0, none⟩) 2 2, .int .i64 0] 91)) = wq at *
      refine (writer_put _ _ _ _ (body.length : Nat) 16 _ hw2 (by omega) (by omega) (by omega) (by rw [unB_length]; simp)).mono ?_
      rintro e w2 ⟨rfl, hw3, hk3⟩
      have hb3 := hba.trans hk3.below
      obtain ⟨_, hbits2, v2, hbk2, hown2, hne2, _⟩ := hw3
      have hoc : octs (unB [165, 90] ++ binL (body.length : Nat) 16) = [165, 90] ++ octs (binL (body.length : Nat) 16) := by
        rw [octs_append _ (by rw [unB_length]; rfl), octs_unB _ (by decide)]
      have hol := octs_len (binL (body.length : Nat) 16)
      rw [binL_length] at hol
      have hfr : freeOf (unB [165, 90] ++ binL (body.length : Nat) 16).length = 0 := by rw [List.length_append, unB_length, binL_length]; rfl
      rw [hoc] at hown2
      rw [hfr] at hbk2
      have hln : ([165, 90] ++ octs (binL (body.length : Nat) 16)).length = 4 := by rw [List.length_append, hol]; rfl
      rw [hln] at hown2
      have p2 := cell_keep HPK.out hb3 (Nat.le_refl _)
      have HC2 := Lib.hid hoc; have HLN := Lib.hid hln; have HBT := Lib.hid hbits2
      clear hoc hln hbits2 hol hfr hk3
      obtain ⟨g2, cg2, rfl, hg2, hg2l⟩ := hown2.form (by omega)
      have hne3 : g2 ≠ wr.heap.size + 1 := by simpa [Value.ownBlock] using hne2
      have q0 : w2.cell? ⟨wr.heap.size + 1, 0, none⟩ = some (.slice (some ⟨g2, 0, none⟩) 4 cg2) := by rw [Lib.cell_of_heap hbk2]; rfl
      have f0 : w2.frozen? ⟨wr.heap.size + 1, 0, none⟩ = false := Lib.frozen_of_heap hbk2 0
      have hl2 := heap_lt hbk2
      have hcb := HCA.out.below hb3 (Nat.le_refl _)
      have HCB := Lib.hid hcb; have HB2 := Lib.hid hbk2; have HO2 := Lib.hid hown2
      clear hne2 hcb hbk2 hown2 HNE HBK
      obtain ⟨i0, hi, hz0, hz1, hz2⟩ := info_parts Tryd.infoByte
      have hsz2 := hb3.size
      go_wp2
      have FA : ∀ (g : Nat) (wz : World), w2.drew.grownBy wz (some g2) → wz.frozen? ⟨wr.heap.size + 1, 0, none⟩ = false ∧ ∃ u, wz.cell? ⟨wr.heap.size + 1, 0, none⟩ = some u := fun g wz hg => by
        have e := hg.block (wr.heap.size + 1) hl2 (by simpa using Ne.symm hne3)
        have e2 := e.trans HB2.out
        exact ⟨Lib.frozen_of_heap e2 0, _, by rw [Lib.cell_of_heap e2]; rfl⟩
      replace FA := Lib.hid FA
      go_region_law (refine step_append_lies _ (by rfl) _ _ _ (by rfl) wr.heap.size 5 i0 _ 1 1 Tryd.underlying64 hi hz0 hz1 hz2 rfl (by omega) (.slice (some ⟨g2, 0, none⟩) 4 cg2) 4 _ (by rfl) (own_drewN HO2.out 1) ⟨bv, ov, none⟩ body.length c1 (bys body) (by rfl) (by simp [bys_length]) (fun j u hu => by rw [Addr.add_lit]; exact HCB.out.at hu) (by intro u hu; obtain ⟨d, _, rfl⟩ := List.mem_map.1 hu; rfl) (by omega) (by unfold maxLen; omega) (by omega) (by simp; omega) w2.heap.size (by simp) ?_; intro gg cp wz hown1 hgrow hat hlt1; obtain ⟨f9, u9, c9⟩ := FA.out gg wz hgrow)
      all_goals
        have hgne : gg ≠ wr.heap.size + 1 := by
          rcases hat with h | h
          · simp [Value.ownBlock] at h; omega
          · omega
        have hbz : wz.heap[wr.heap.size + 1]? = some (.cells #[.slice (some ⟨g2, 0, none⟩) 4 cg2, .int .i64 (0 : Nat)] 91 (0, 0)) := (hgrow.block (wr.heap.size + 1) hl2 (by simpa [Value.ownBlock] using Ne.symm hne3)).trans HB2.out
        have hbel : Below wr.heap.size wr wz := (hb3.drew).grown hgrow (by simpa using hsz2) (fun j e => by simp [Value.ownBlock] at e; omega)
        have hy1 := heap_set1 (u := .int .i64 0) (heap_set0 (u := .slice (some ⟨gg, 0, none⟩) (4 + body.length) cp) hbz)
        have hy2 := own_set_other (p := ⟨wr.heap.size + 1, 1, none⟩) (u := .int .i64 0) (own_set_other (p := ⟨wr.heap.size + 1, 0, none⟩) (u := .slice (some ⟨gg, 0, none⟩) (4 + body.length) cp) hown1 (by simpa [Value.ownBlock] using hgne)) (by simpa [Value.ownBlock] using hgne)
        have hy3 := (hbel.setCell (p := ⟨wr.heap.size + 1, 0, none⟩) (by simp) (.slice (some ⟨gg, 0, none⟩) (4 + body.length) cp)).setCell (p := ⟨wr.heap.size + 1, 1, none⟩) (by simp) (.int .i64 0)
        have f1 := Lib.frozen_of_heap hbz 1
        have c1' : ∃ u, wz.cell? ⟨wr.heap.size + 1, 1, none⟩ = some u := ⟨_, by rw [Lib.cell_of_heap hbz]; rfl⟩
        obtain ⟨_, c1'⟩ := c1'
        have HY1 := Lib.hid hy1; have HY2 := Lib.hid hy2; have HY3 := Lib.hid hy3
        clear hown1 hgrow hat hbz hbel hy1 hy2 hy3
        have hhd : bys ([165, 90] ++ octs (binL (body.length : Nat) 16)) ++ bys body = bys (hdB body) := by rw [hdB, bys_append (_ ++ _)]
        have hhl : (hdB body).length = 4 + body.length := by rw [hdB, List.length_append, HLN.out]
        have hhok : ∀ d ∈ hdB body, d < 256 := by
          intro d hd
          rcases List.mem_append.1 hd with h | h
          · have := (octs_ok (unB [165, 90] ++ binL (body.length : Nat) 16) HBT.out).1 d
            rw [HC2.out] at this
            exact this h
          · exact HOK.out d h
        have HHD := Lib.hid hhd; have HHL := Lib.hid hhl; have HHOK := Lib.hid hhok
        clear hhd hhl hhok
        go_wp2_with fail
        clear f1 f9 c9 c1'
        generalize ((wz.setCell ⟨wr.heap.size + 1, 0, none⟩ (.slice (some ⟨gg, 0, none⟩) (4 + body.length) cp)).setCell ⟨wr.heap.size + 1, 1, none⟩ (.int .i64 0)) = wx at *
        have hown4 := HY2.out
        rw [HHD.out] at hown4
        have hck := check_any (some ⟨gg, 0, none⟩) (hdB body) cp wx (by obtain ⟨a, c, h1, h2⟩ := own_cells hown4; simp at h1; rw [h1.1]; exact h2) HHOK.out (by rw [HHL.out]; omega)
        rw [HHL.out] at hck
        refine hck.mono ?_
        rintro e w4 ⟨rfl, rfl⟩
        clear hck
        go_wp2_with fail
        have hwx : WrS wr.heap.size (wr.heap.size + 1) (fun _ => False) wx (unB [165, 90] ++ binL (body.length : Nat) 16 ++ unB body) := by
          have ho : octs (unB [165, 90] ++ binL (body.length : Nat) 16 ++ unB body) = hdB body := by
            rw [octs_append _ (by rw [List.length_append, unB_length, binL_length]; rfl), HC2.out, octs_unB _ HOK.out]; rfl
          refine ⟨by omega, ?_, .slice (some ⟨gg, 0, none⟩) (4 + body.length) cp, ?_, ?_, by simpa [Value.ownBlock] using hgne, fun k h => h.elim⟩
          · intro b hb
            rcases List.mem_append.1 hb with h | h
            · exact HBT.out b h
            · exact unB_bits _ b h
          · have : freeOf (unB [165, 90] ++ binL (body.length : Nat) 16 ++ unB body).length = 0 := by
              unfold freeOf; rw [List.length_append, List.length_append, unB_length, unB_length, binL_length]; simp
            rw [this]; exact HY1.out
          · rw [ho, HHL.out]; exact hown4
        have hcl := chkL_lt (hdB body)
        have hpt := writer_put _ _ _ _ (chkL (hdB body) : Nat) 24 _ hwx (by omega) (by omega) (by omega) (by rw [List.length_append, List.length_append, unB_length, unB_length, binL_length]; simp <;> omega)
        have HPT := Lib.hid hpt
        clear hpt hwx hown4
        refine HPT.out.mono ?_
        rintro e w5 ⟨rfl, hw5, hk5⟩
        have hb5 := HY3.out.trans hk5.below
        obtain ⟨_, _, v5, hbk5, hown5, _, _⟩ := hw5
        have ho5 : octs (unB [165, 90] ++ binL (body.length : Nat) 16 ++ unB body ++ binL (chkL (hdB body) : Nat) 24) = eb := by
          rw [HENC.out, octs_append _ (by rw [List.length_append, List.length_append, unB_length, unB_length, binL_length]; simp <;> omega), octs_append _ (by rw [List.length_append, unB_length, binL_length]; rfl), HC2.out, octs_unB _ HOK.out]; rfl
        rw [ho5] at hown5
        have q5 : w5.cell? ⟨wr.heap.size + 1, 0, none⟩ = some v5 := by rw [Lib.cell_of_heap hbk5]; rfl
        have HO5 := Lib.hid (own_base hown5 (show w.heap.size ≤ wr.heap.size by omega))
        have hfin := hbw.trans (hb5.mono hbw.size)
        clear hbk5 hown5 ho5 hk5
        go_wp2_with fail
        go_ret
        exact ⟨⟨v5, rfl, by rw [← HEB.out]; exact HO5.out⟩, hfin⟩
end Go.Proofs.YtoochleabcjljaaDoor
