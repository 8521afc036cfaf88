/- Parts of a proof, in build order: C4, F0, F1, A7, F2, B0, B1, B2. -/
import Derived.Test.YtoochleabcjljaaDoorKw2

/- Frames: CheckFrame. -/
namespace Go.Proofs.YtoochleabcjljaaDoor
open Go.RowKit

def frmErr (bs : List Chan) (st : Int) (xss : List (List Int)) : Int := if bookErr bs ≠ 0 then bookErr bs else if frOK bs st xss then 0 else 51
theorem bookErr_zero {bs : List Chan} (h : bookErr bs = 0) : bookOK bs = true := by
  cases e : bookOK bs
  · simp [bookErr, e] at h
  · rfl

/-- what is asked of a book, whatever it holds -/
structure BookIn (w : World) (ao : Option Addr) (bs : List Chan) (cap : Nat) : Prop where
  cells : Cells w ao (chs bs)
  len : bs.length ≤ 9223372036854775807
  lecap : bs.length ≤ cap
  cap2 : cap ≤ 9223372036854775807
  names : ∀ c ∈ bs, c.name.size ≤ 9223372036854775807
  rates : ∀ c ∈ bs, -9223372036854775808 ≤ c.rate
theorem BookIn.below {w w' : World} {B : Nat} {ao : Option Addr} {bs : List Chan} {cap : Nat} (h : BookIn w ao bs cap) (hb : Below B w w') (hB : w.heap.size ≤ B) : BookIn w' ao bs cap :=
  ⟨h.cells.below hb hB, h.len, h.lecap, h.cap2, h.names, h.rates⟩

set_option maxRecDepth 100000 in
theorem checkFrame_any (ao : Option Addr) (bs : List Chan) (cap : Nat) (st : Int) (asm : Option Addr) (vs : List Value) (xss : List (List Int)) (cs : Nat) (w : World) (hb : BookIn w ao bs cap) (hs : Cells w asm vs) (hr : RowsV w vs xss) (hls : xss.length ≤ 9223372036854775807) :
    Calls Tryd.prog 37 #[.slice ao bs.length cap, .agg #[.int .i64 st, .slice asm xss.length cs]] w fun e w' => e = .returned (.int .i64 (frmErr bs st xss)) ∧ Below w.heap.size w w' := by
  have HB := Lib.hid hb; have HS := Lib.hid hs; have HR := Lib.hid hr
  have hlen := hb.len
  clear hs hr hb
  have hck := fun wx (h : BookIn wx ao bs cap) => checkBook_any ao bs cap wx h.cells (by have := h.len; omega) h.lecap h.cap2 h.names h.rates
  have HCK := Lib.hid hck; clear hck
  by_cases h1 : bookErr bs = 0
  · have hok := bookErr_zero h1
    have hfr := fun wx h2 h3 h4 => frameOK_any ao bs cap st asm vs xss cs wx h2 hlen h3 h4 hls hok
    have HFR := Lib.hid hfr; clear hfr hok
    have he : frmErr bs st xss = if frOK bs st xss then 0 else 51 := by simp [frmErr, h1]
    have HE := Lib.hid he; have H1 := Lib.hid h1; clear he h1
    cases h2 : frOK bs st xss
    all_goals
      have H2 := Lib.hid h2
      go_enter Tryd.func37, Tryd.ntmps37
      go_wp2_with fail
      refine (HCK.out _ (HB.out.below ((Below.refl _ _).alloc (Nat.le_refl _) _) (Nat.le_refl _))).mono ?_
      rintro e w1 ⟨rfl, hb1⟩
      rw [H1.out]
      have hbw : Below w.heap.size w w1 := ((Below.refl _ _).alloc (Nat.le_refl _) _).trans (hb1.mono (by simp))
      have q0 : w1.cell? ⟨w.heap.size, 0, none⟩ = some (.int .i64 st) := box_keep hb1 (by simp) 0
      have q1 : w1.cell? ⟨w.heap.size, 1, none⟩ = some (.slice asm xss.length cs) := box_keep hb1 (by simp) 1
      go_wp2_with fail
      refine (HFR.out _ (HB.out.below hbw (Nat.le_refl _)).cells (HS.out.below hbw (Nat.le_refl _)) (HR.out.below hbw (Nat.le_refl _))).mono ?_
      rintro e w2 ⟨rfl, hb2⟩
      go_wp2
      go_ret
      exact ⟨ret_int (by rw [HE.out, H2.out]; rfl), hbw.trans (hb2.mono hbw.size)⟩
  · have he : frmErr bs st xss = bookErr bs := by simp [frmErr, h1]
    have h3 : (bookErr bs != 0) = true := by simpa using h1
    have h4 : (bookErr bs == 0) = false := by simpa using h1
    have HE := Lib.hid he; clear he
    go_enter Tryd.func37, Tryd.ntmps37
    go_wp2_with fail
    refine (HCK.out _ (HB.out.below ((Below.refl _ _).alloc (Nat.le_refl _) _) (Nat.le_refl _))).mono ?_
    rintro e w1 ⟨rfl, hb1⟩
    go_wp2
    go_ret
    exact ⟨ret_int HE.out.symm, ((Below.refl _ _).alloc (Nat.le_refl _) _).trans (hb1.mono (by simp))⟩
end Go.Proofs.YtoochleabcjljaaDoor

/- Codes: encode. -/
namespace Go.Proofs.YtoochleabcjljaaDoor
open Go.RowKit Go.Shelf

theorem grown_of_below {n : Nat} {w w' : World} (hb : Below n w w') (hn : w.heap.size ≤ n) (row : Option Nat) : w.grownBy w' row := ⟨hb.os, hb.tape, hb.output, hb.size, fun k hk _ => hb.block k (by omega)⟩
theorem own_base {w : World} {B B' : Nat} {e : TypeId} {s : Nat} {v : Value} {n : Nat} {xs : List Value} (h : w.ownsRow B e s v n xs) (hB : B' ≤ B) : w.ownsRow B' e s v n xs := by
  refine ⟨h.1, h.2.imp id ?_⟩
  rintro ⟨g, cap, cur, h1, h2, h3⟩
  exact ⟨g, cap, cur, h1, by omega, h3⟩
theorem own_below {w w' : World} {B n : Nat} {e : TypeId} {s : Nat} {v : Value} {m : Nat} {xs : List Value} (h : w.ownsRow B e s v m xs) (hb : Below n w w') (hn : w.heap.size ≤ n) : w'.ownsRow B e s v m xs :=
  h.kept (row := none) (grown_of_below hb hn none) (by cases hv : v.ownBlock <;> simp)
theorem WrS.wide {B bW n : Nat} {S : Nat → Prop} {w w' : World} {bs : List Nat} (h : WrS B bW S w bs) (hb : Below n w w') (hn : w.heap.size ≤ n) : WrS B bW (fun k => S k ∨ (w.heap.size ≤ k ∧ k < w'.heap.size)) w' bs := by
  obtain ⟨h1, h2, v, h3, h4, h5, h6⟩ := h
  have hl := heap_lt h3
  refine ⟨h1, h2, v, by rw [hb.block _ (by omega)]; exact h3, own_below h4 hb hn, h5, fun k hk => ?_⟩
  have hs := hb.size
  rcases hk with hk | ⟨hk1, hk2⟩
  · have := h6 k hk; exact ⟨by omega, this.2⟩
  · exact ⟨hk2, by omega, fun e => by have := (h4.lt _ e).2; omega⟩
theorem WrS.new (B : Nat) (S : Nat → Prop) (W : World) (hB : B ≤ W.heap.size) (hS : ∀ k, S k → k < W.heap.size) : WrS B W.heap.size S (W.alloc (.cells #[.slice none 0 0, .int .i64 0] 91)) [] :=
  ⟨hB, by simp, .slice none 0 0, World.alloc_heap_new W _, by rw [octs_nil]; exact World.ownsRow_nil _ _ _ _, by simp [Value.ownBlock], fun k hk => ⟨by have := hS k hk; simp; omega, by have := hS k hk; omega, by simp [Value.ownBlock]⟩⟩
theorem frBits_bits (st : Int) (xss : List (List Int)) : ∀ b ∈ frBits st xss, b ≤ 1 := by
  intro b hb
  rcases List.mem_append.1 hb with h | h
  · exact binL_bits _ _ b h
  · obtain ⟨x, _, hx⟩ := List.mem_flatMap.1 h
    unfold encC encL at hx
    rcases List.mem_append.1 hx with h | h
    · rcases List.mem_append.1 h with h | h <;> exact binL_bits _ _ b h
    · obtain ⟨r, _, hr⟩ := List.mem_flatMap.1 h
      exact encU_bits _ _ b hr

theorem best_way (ao : Option Addr) (xs : List Int) (cap : Nat) (w : World) (hc : Cells w ao (xs.map (Value.int .i64))) (hl : xs.length ≤ 4096) (hx : ∀ x ∈ xs, -8388608 ≤ x ∧ x ≤ 8388608) :
    Calls Tryd.prog 47 #[.slice ao xs.length cap] w fun e w' => ∃ o s : Nat, wayOf xs = (o, s) ∧ e = .returned (.agg #[.int .i64 (o : Nat), .int .i64 (s : Nat)]) ∧ Below w.heap.size w w' := by
  have h := best_any ao xs cap w hc hl hx
  unfold wayOf
  generalize wvs 124 = q at *
  exact h.mono fun e w' h => ⟨_, _, rfl, h⟩

theorem enc_write {B bW : Nat} (S : Nat → Prop) (o sh : Nat) (ho : o ≤ 3) (hsh : sh ≤ 30) (al : Option Addr) (l : List Int) (cl : Nat) (bs : List Nat) {n : Nat} (w : World)
    (hst : WrS B bW S w bs) (hS : ∀ b, n ≤ b ∧ b < w.heap.size → S b) (hl : ∀ b off, al = some ⟨b, off, none⟩ → n ≤ b) (hc : Cells w al (l.map (Value.int .i64))) (hlen : l.length ≤ 4096) (hbs : bs.length ≤ 1000000) (hr : ∀ r ∈ l, -67108864 ≤ r ∧ r ≤ 67108864) :
    Calls Tryd.prog 48 #[.agg #[.int .i64 (o : Nat), .int .i64 (sh : Nat)], .iface 89 (.pointer (some ⟨bW, 0, none⟩)), .slice al l.length cl] w fun e w' => e = .returned (.tuple #[]) ∧ WrS B bW S w' (bs ++ encL o sh l) ∧ KeepS S B w w' := by
  refine write_any (writer_ok B bW) S o sh ho hsh al l cl bs w hst (fun b off hb hne => hS b ⟨hl b off hb, ?_⟩) hc hlen hbs hr
  subst hb
  obtain ⟨r, hr0⟩ := get_of_lt (List.length_pos_iff.2 hne)
  exact World.block_lt_of_cell? w _ (hc.at (j := 0) (by rw [List.getElem?_map, hr0]; rfl))

theorem WrS.lit (w : World) : WrS w.heap.size (w.heap.size + 1) (fun k => k < w.heap.size) ((w.alloc (.cells #[.int .u8 165, .int .u8 90] 5)).alloc (.cells #[.slice (some ⟨w.heap.size, 0, none⟩) 2 2, .int .i64 0] 91)) (unB [165, 90]) := by
  refine ⟨by omega, unB_bits _, .slice (some ⟨w.heap.size, 0, none⟩) 2 2, ?_, ?_, by simp [Value.ownBlock], fun k hk => ⟨by simp; omega, by omega, by simp [Value.ownBlock]; omega⟩⟩
  · have h := World.alloc_heap_new (w.alloc (.cells #[.int .u8 165, .int .u8 90] 5)) (.cells #[.slice (some ⟨w.heap.size, 0, none⟩) 2 2, .int .i64 0] 91)
    rw [World.size_alloc] at h
    exact h
  · rw [octs_unB _ (by decide)]
    refine ⟨rfl, .inr ⟨w.heap.size, 2, #[.int .u8 165, .int .u8 90], rfl, Nat.le_refl _, ?_, by decide, by unfold maxLen; omega, rfl, rfl⟩⟩
    rw [Below.heap_alloc _ _ _ (by simp)]
    exact World.alloc_heap_new w _

set_option maxRecDepth 100000 in
set_option maxHeartbeats 2000000 in
theorem encode_any (ao : Option Addr) (nb : Nat) (cap : Nat) (st : Int) (asm : Option Addr) (vs : List Value) (xss : List (List Int)) (cs : Nat) (w : World) (hl : nb ≤ 16) (hnb : xss.length = nb) (hs : Cells w asm vs) (hr : RowsV w vs xss)
    (hst0 : 0 ≤ st) (hst1 : st ≤ 1073741824) (hxl : ∀ xs ∈ xss, xs.length ≤ 64) (hxb : ∀ xs ∈ xss, ∀ x ∈ xs, -8388608 ≤ x ∧ x ≤ 8388608) :
    Calls Tryd.prog 38 #[.slice ao nb cap, .agg #[.int .i64 st, .slice asm nb cs]] w fun e w' => (∃ v, e = .returned v ∧ w'.ownsRow w.heap.size 5 1 v (encB st xss).length (bys (encB st xss))) ∧ Below w.heap.size w w' := by
  have HS := Lib.hid hs; have HR := Lib.hid hr; have HXL := Lib.hid hxl; have HXB := Lib.hid hxb; have HNB := Lib.hid hnb
  clear hs hr hxl hxb hnb
  go_enter Tryd.func38, Tryd.ntmps38
  go_wp2_with fail
  have hw0 := WrS.new (w.heap.size + 1) (fun _ => False) (w.alloc (.cells #[.int .i64 st, .slice asm nb cs] 53)) (by simp) (fun k h => h.elim)
  rw [World.size_alloc] at hw0
  refine (writer_put _ _ _ _ st 32 _ hw0 hst0 (by omega) (by omega) (by simp)).mono ?_
  rintro e w1 ⟨rfl, hw1, hk1⟩
  have hb1 : Below (w.heap.size + 1) (w.alloc (.cells #[.int .i64 st, .slice asm nb cs] 53)) w1 := ((Below.refl _ _).alloc (by simp) _).trans hk1.below
  have HW1 := Lib.hid hw1
  clear hw0 hw1 hk1
  go_wp2
  go_loopw [18] (fun i wr => ∃ k : Nat, k ≤ nb ∧ i = .int .i64 k ∧ WrS (w.heap.size + 1) (w.heap.size + 1) (fun _ => False) wr (frBits st (xss.take k)) ∧ Below (w.heap.size + 1) (w.alloc (.cells #[.int .i64 st, .slice asm nb cs] 53)) wr) (fun i _ => nb - (intOf i).toNat)
  case atStart => exact ⟨0, Nat.zero_le _, rfl, by simpa [frBits] using HW1.out, hb1⟩
  case round =>
    clear hb1 HW1
    obtain ⟨k, hk, rfl, hwr, hb⟩ := hrel
    have HWR := Lib.hid hwr; clear hwr
    have hsz : w.heap.size + 1 ≤ wr.heap.size := by have := hb.size; simpa using this
    by_cases hlt : k < nb
    · obtain ⟨xs, hxs⟩ := get_of_lt (show k < xss.length by have := HNB.out; omega)
      obtain ⟨v, hv⟩ := get_of_lt (show k < vs.length by have := HR.out.1; have := HNB.out; omega)
      obtain ⟨b2, off2, rfl⟩ := HS.out.addr (List.ne_nil_of_length_pos (by have := HR.out.1; have := HNB.out; omega))
      have hbw : Below w.heap.size w wr := ((Below.refl _ _).alloc (Nat.le_refl _) _).trans (hb.mono (by omega))
      have c3 := cell_keep (HS.out.at hv) hbw (Nat.le_refl _)
      have p1 : wr.cell? ⟨w.heap.size, 1, none⟩ = some (.slice (some ⟨b2, off2, none⟩) nb cs) := box_keep hb (by simp) 1
      obtain ⟨ax, cx, rfl, hax, _⟩ := HR.out.2 k v xs hv hxs
      have hmem := List.mem_of_getElem? hxs
      have hxl := HXL.out xs hmem
      have hxb := HXB.out xs hmem
      have hax2 := hax.below hbw (Nat.le_refl _)
      have HXB2 := Lib.hid hxb; have HAX := Lib.hid hax2
      have HT : Hid (frBits st (xss.take (k + 1)) = frBits st (xss.take k) ++ encC xs) := Lib.hid (by
        rw [frBits, frBits, take_get hxs, List.flatMap_append]; simp)
      have HFL : Hid ((frBits st (xss.take k)).length ≤ 32 + 3335 * 16) := Lib.hid (by
        have h1 := flat_encC (xss.take k) 64 (fun y hy => HXL.out y (List.mem_of_mem_take hy))
        rw [List.length_take, Nat.min_eq_left (by have := HNB.out; omega)] at h1
        rw [frBits, List.length_append, binL_length]; omega)
      clear hv hxs hax hax2 hxb hmem
      go_wp2_with fail
      refine (best_way ax xs cx wr HAX.out (by omega) HXB2.out).mono ?_
      rintro e w1 ⟨o, sh, hwy, rfl, hb1⟩
      have hwb := wayOf_bd xs
      rw [hwy] at hwb
      obtain ⟨ho, hsh⟩ := hwb
      simp only at ho hsh
      have HE : Hid (encC xs = encL o sh (resid xs o)) := Lib.hid (by rw [encC, hwy])
      clear hwy
      have hb2 := hb.trans (hb1.mono hsz)
      have hbx := hb1.alloc hb1.size (.cells #[.int .i64 o, .int .i64 sh] 94)
      have HW2 := Lib.hid ((HWR.out.wide hbx (Nat.le_refl _)))
      have hn1 := hb1.size
      go_wp2
      have hax3 := HAX.out.below hbx.drew (Nat.le_refl _)
      have HAX3 := Lib.hid hax3
      have bw := (Blk.new w1 94 #[.int .i64 o, .int .i64 sh]).drew
      have HWd : Hid (WrS (w.heap.size + 1) (w.heap.size + 1) (fun k => False ∨ (wr.heap.size ≤ k ∧ k < (w1.alloc (.cells #[.int .i64 o, .int .i64 sh] 94)).drew.heap.size)) (w1.alloc (.cells #[.int .i64 o, .int .i64 sh] 94)).drew (frBits st (xss.take k))) := Lib.hid HW2.out
      have hsc : (w1.alloc (.cells #[.int .i64 o, .int .i64 sh] 94)).drew.heap.size = w1.heap.size + 1 := by simp
      have hbd := hbx.drew
      clear hax3 HW2 HAX hb1 hbx c3 p1
      have e0 := bw.c0
      have e1 := bw.c1
      have HBW := Lib.hid bw; have HSC := Lib.hid hsc
      clear bw hsc
      generalize (w1.alloc (.cells #[.int .i64 o, .int .i64 sh] 94)) = Wc at *
      go_region_with (first
        | (go_at_call 49; refine (residues_any ax xs cx o Wc.drew HAX3.out (by omega) ho HXB2.out).mono ?_; rintro e w2 ⟨⟨a1, k1, rfl, hca, hna⟩, hb3⟩; have HCA := Lib.hid hca; have HNA := Lib.hid hna; clear hca hna; have d0 := cell_keep e0 hb3 (Nat.le_refl _); have d1 := cell_keep e1 hb3 (Nat.le_refl _))
        | (go_at_call 48; refine (enc_write _ o sh ho hsh a1 (resid xs o) k1 _ w2 (HWd.out.wide hb3 (Nat.le_refl _)) (fun b hb => .inr hb) HNA.out HCA.out (by rw [resid_length]; omega) (by have := HFL.out; omega) (resid_bd HXB2.out o ho)).mono ?_; rintro e w3 ⟨rfl, hw3, hk3⟩; have hb4 := hk3.below; have HW3 := Lib.hid hw3; clear hw3 hk3))
      all_goals
        have hbz := (hb.trans ((hbd.mono hsz).trans (hb3.mono (Nat.le_trans hsz hbd.size)))).trans hb4
        have HBZ := Lib.hid hbz
        clear hbz hb4 hb3 hbd hb
        go_wp2
        go_roundw
        case rel => exact ⟨k + 1, by omega, by go_num, by rw [HT.out, HE.out]; exact (writer_ok _ _).mono _ _ _ _ (fun k h => h.elim) HW3.out, HBZ.out⟩
        case measure => simp [intOf]; omega
    · obtain rfl : k = nb := by omega
      have ht : xss.take k = xss := by rw [List.take_of_length_le (by have := HNB.out; omega)]
      rw [ht] at HWR
      have hfl : (frBits st xss).length ≤ 32 + 3335 * 16 := by
        have h1 := flat_encC xss 64 HXL.out
        have := HNB.out
        rw [frBits, List.length_append, binL_length]; omega
      have hfl2 : 32 ≤ (frBits st xss).length := by rw [frBits, List.length_append, binL_length]; omega
      have HBI := Lib.hid (frBits_bits st xss)
      have hol := octs_len (frBits st xss)
      have hbw : Below w.heap.size w wr := ((Below.refl _ _).alloc (Nat.le_refl _) _).trans (hb.mono (by omega))
      clear ht hb
      have HENC : Hid (encB st xss = hdB (octs (frBits st xss)) ++ octs (binL (chkL (hdB (octs (frBits st xss))) : Nat) 24)) := Lib.hid rfl
      have hok := (octs_ok _ HBI.out).1
      obtain ⟨eb, heb⟩ : ∃ eb, eb = encB st xss := ⟨_, rfl⟩
      rw [← heb] at HENC
      have HEB := Lib.hid heb
      clear heb
      generalize frBits st xss = fb at *
      have hn1 : 4 ≤ (octs fb).length := by omega
      have hn2 : (octs fb).length ≤ 6674 := by omega
      have HOK := Lib.hid hok
      clear hol hfl hfl2 hok
      obtain ⟨_, _, v1, hbk, hown, hne, _⟩ := HWR.out
      generalize octs fb = body at *
      obtain ⟨a1, c1, rfl, hca⟩ := own_cells hown
      obtain ⟨bv, ov, rfl⟩ := hca.addr (bys_ne (by omega))
      have p0 : wr.cell? ⟨w.heap.size + 1, 0, none⟩ = some (.slice (some ⟨bv, ov, none⟩) body.length c1) := by rw [Lib.cell_of_heap hbk]; rfl
      have hlt1 := heap_lt hbk
      have hlt2 := (hown.lt bv rfl).2
      have HBK := Lib.hid hbk; have HCA := Lib.hid hca; have HNE := Lib.hid hne
      have hba := (((Below.refl wr.heap.size wr).alloc (Nat.le_refl _) (.cells #[.int .u8 165, .int .u8 90] 5)).alloc (by simp) (.cells #[.slice (some ⟨wr.heap.size, 0, none⟩) 2 2, .int .i64 0] 91))
      have p1 := cell_keep p0 hba (Nat.le_refl _)
      have HPK := Lib.hid p0
      clear hbk hown hca hne HWR
      go_wp2_with fail
      have hw2 := WrS.lit wr
      clear p0 p1
      generalize ((wr.alloc (.cells #[.int .u8 165, .int .u8 90] 5)).alloc (.cells #[.slice (some ⟨wr.heap.size, 0, none⟩) 2 2, .int .i64 0] 91)) = wq at *
      refine (writer_put _ _ _ _ (body.length : Nat) 16 _ hw2 (by omega) (by omega) (by omega) (by rw [unB_length]; simp)).mono ?_
      rintro e w2 ⟨rfl, hw3, hk3⟩
      have hb3 := hba.trans hk3.below
      obtain ⟨_, hbits2, v2, hbk2, hown2, hne2, _⟩ := hw3
      have hoc : octs (unB [165, 90] ++ binL (body.length : Nat) 16) = [165, 90] ++ octs (binL (body.length : Nat) 16) := by
        rw [octs_append _ (by rw [unB_length]; rfl), octs_unB _ (by decide)]
      have hol := octs_len (binL (body.length : Nat) 16)
      rw [binL_length] at hol
      have hfr : freeOf (unB [165, 90] ++ binL (body.length : Nat) 16).length = 0 := by rw [List.length_append, unB_length, binL_length]; rfl
      rw [hoc] at hown2
      rw [hfr] at hbk2
      have hln : ([165, 90] ++ octs (binL (body.length : Nat) 16)).length = 4 := by rw [List.length_append, hol]; rfl
      rw [hln] at hown2
      have p2 := cell_keep HPK.out hb3 (Nat.le_refl _)
      have HC2 := Lib.hid hoc; have HLN := Lib.hid hln; have HBT := Lib.hid hbits2
      clear hoc hln hbits2 hol hfr hk3
      obtain ⟨g2, cg2, rfl, hg2, hg2l⟩ := hown2.form (by omega)
      have hne3 : g2 ≠ wr.heap.size + 1 := by simpa [Value.ownBlock] using hne2
      have q0 : w2.cell? ⟨wr.heap.size + 1, 0, none⟩ = some (.slice (some ⟨g2, 0, none⟩) 4 cg2) := by rw [Lib.cell_of_heap hbk2]; rfl
      have f0 : w2.frozen? ⟨wr.heap.size + 1, 0, none⟩ = false := Lib.frozen_of_heap hbk2 0
      have hl2 := heap_lt hbk2
      have hcb := HCA.out.below hb3 (Nat.le_refl _)
      have HCB := Lib.hid hcb; have HB2 := Lib.hid hbk2; have HO2 := Lib.hid hown2
      clear hne2 hcb hbk2 hown2 HNE HBK
      obtain ⟨i0, hi, hz0, hz1, hz2⟩ := info_parts Tryd.infoByte
      have hsz2 := hb3.size
      go_wp2
      have FA : ∀ (g : Nat) (wz : World), w2.drew.grownBy wz (some g2) → wz.frozen? ⟨wr.heap.size + 1, 0, none⟩ = false ∧ ∃ u, wz.cell? ⟨wr.heap.size + 1, 0, none⟩ = some u := fun g wz hg => by
        have e := hg.block (wr.heap.size + 1) hl2 (by simpa using Ne.symm hne3)
        have e2 := e.trans HB2.out
        exact ⟨Lib.frozen_of_heap e2 0, _, by rw [Lib.cell_of_heap e2]; rfl⟩
      replace FA := Lib.hid FA
      go_region_law (refine step_append_lies _ (by rfl) _ _ _ (by rfl) wr.heap.size 5 i0 _ 1 1 Tryd.underlying64 hi hz0 hz1 hz2 rfl (by omega) (.slice (some ⟨g2, 0, none⟩) 4 cg2) 4 _ (by rfl) (own_drewN HO2.out 1) ⟨bv, ov, none⟩ body.length c1 (bys body) (by rfl) (by simp [bys_length]) (fun j u hu => by rw [Addr.add_lit]; exact HCB.out.at hu) (by intro u hu; obtain ⟨d, _, rfl⟩ := List.mem_map.1 hu; rfl) (by omega) (by unfold maxLen; omega) (by omega) (by simp; omega) w2.heap.size (by simp) ?_; intro gg cp wz hown1 hgrow hat hlt1; obtain ⟨f9, u9, c9⟩ := FA.out gg wz hgrow)
      all_goals
        have hgne : gg ≠ wr.heap.size + 1 := by
          rcases hat with h | h
          · simp [Value.ownBlock] at h; omega
          · omega
        have hbz : wz.heap[wr.heap.size + 1]? = some (.cells #[.slice (some ⟨g2, 0, none⟩) 4 cg2, .int .i64 (0 : Nat)] 91 (0, 0)) := (hgrow.block (wr.heap.size + 1) hl2 (by simpa [Value.ownBlock] using Ne.symm hne3)).trans HB2.out
        have hbel : Below wr.heap.size wr wz := (hb3.drew).grown hgrow (by simpa using hsz2) (fun j e => by simp [Value.ownBlock] at e; omega)
        have hy1 := heap_set1 (u := .int .i64 0) (heap_set0 (u := .slice (some ⟨gg, 0, none⟩) (4 + body.length) cp) hbz)
        have hy2 := own_set_other (p := ⟨wr.heap.size + 1, 1, none⟩) (u := .int .i64 0) (own_set_other (p := ⟨wr.heap.size + 1, 0, none⟩) (u := .slice (some ⟨gg, 0, none⟩) (4 + body.length) cp) hown1 (by simpa [Value.ownBlock] using hgne)) (by simpa [Value.ownBlock] using hgne)
        have hy3 := (hbel.setCell (p := ⟨wr.heap.size + 1, 0, none⟩) (by simp) (.slice (some ⟨gg, 0, none⟩) (4 + body.length) cp)).setCell (p := ⟨wr.heap.size + 1, 1, none⟩) (by simp) (.int .i64 0)
        have f1 := Lib.frozen_of_heap hbz 1
        have c1' : ∃ u, wz.cell? ⟨wr.heap.size + 1, 1, none⟩ = some u := ⟨_, by rw [Lib.cell_of_heap hbz]; rfl⟩
        obtain ⟨_, c1'⟩ := c1'
        have HY1 := Lib.hid hy1; have HY2 := Lib.hid hy2; have HY3 := Lib.hid hy3
        clear hown1 hgrow hat hbz hbel hy1 hy2 hy3
        have hhd : bys ([165, 90] ++ octs (binL (body.length : Nat) 16)) ++ bys body = bys (hdB body) := by rw [hdB, bys_append (_ ++ _)]
        have hhl : (hdB body).length = 4 + body.length := by rw [hdB, List.length_append, HLN.out]
        have hhok : ∀ d ∈ hdB body, d < 256 := by
          intro d hd
          rcases List.mem_append.1 hd with h | h
          · have := (octs_ok (unB [165, 90] ++ binL (body.length : Nat) 16) HBT.out).1 d
            rw [HC2.out] at this
            exact this h
          · exact HOK.out d h
        have HHD := Lib.hid hhd; have HHL := Lib.hid hhl; have HHOK := Lib.hid hhok
        clear hhd hhl hhok
        go_wp2_with fail
        clear f1 f9 c9 c1'
        generalize ((wz.setCell ⟨wr.heap.size + 1, 0, none⟩ (.slice (some ⟨gg, 0, none⟩) (4 + body.length) cp)).setCell ⟨wr.heap.size + 1, 1, none⟩ (.int .i64 0)) = wx at *
        have hown4 := HY2.out
        rw [HHD.out] at hown4
        have hck := check_any (some ⟨gg, 0, none⟩) (hdB body) cp wx (by obtain ⟨a, c, h1, h2⟩ := own_cells hown4; simp at h1; rw [h1.1]; exact h2) HHOK.out (by rw [HHL.out]; omega)
        rw [HHL.out] at hck
        refine hck.mono ?_
        rintro e w4 ⟨rfl, rfl⟩
        clear hck
        go_wp2_with fail
        have hwx : WrS wr.heap.size (wr.heap.size + 1) (fun _ => False) wx (unB [165, 90] ++ binL (body.length : Nat) 16 ++ unB body) := by
          have ho : octs (unB [165, 90] ++ binL (body.length : Nat) 16 ++ unB body) = hdB body := by
            rw [octs_append _ (by rw [List.length_append, unB_length, binL_length]; rfl), HC2.out, octs_unB _ HOK.out]; rfl
          refine ⟨by omega, ?_, .slice (some ⟨gg, 0, none⟩) (4 + body.length) cp, ?_, ?_, by simpa [Value.ownBlock] using hgne, fun k h => h.elim⟩
          · intro b hb
            rcases List.mem_append.1 hb with h | h
            · exact HBT.out b h
            · exact unB_bits _ b h
          · have : freeOf (unB [165, 90] ++ binL (body.length : Nat) 16 ++ unB body).length = 0 := by
              unfold freeOf; rw [List.length_append, List.length_append, unB_length, unB_length, binL_length]; simp
            rw [this]; exact HY1.out
          · rw [ho, HHL.out]; exact hown4
        have hcl := chkL_lt (hdB body)
        have hpt := writer_put _ _ _ _ (chkL (hdB body) : Nat) 24 _ hwx (by omega) (by omega) (by omega) (by rw [List.length_append, List.length_append, unB_length, unB_length, binL_length]; simp <;> omega)
        have HPT := Lib.hid hpt
        clear hpt hwx hown4
        refine HPT.out.mono ?_
        rintro e w5 ⟨rfl, hw5, hk5⟩
        have hb5 := HY3.out.trans hk5.below
        obtain ⟨_, _, v5, hbk5, hown5, _, _⟩ := hw5
        have ho5 : octs (unB [165, 90] ++ binL (body.length : Nat) 16 ++ unB body ++ binL (chkL (hdB body) : Nat) 24) = eb := by
          rw [HENC.out, octs_append _ (by rw [List.length_append, List.length_append, unB_length, unB_length, binL_length]; simp <;> omega), octs_append _ (by rw [List.length_append, unB_length, binL_length]; rfl), HC2.out, octs_unB _ HOK.out]; rfl
        rw [ho5] at hown5
        have q5 : w5.cell? ⟨wr.heap.size + 1, 0, none⟩ = some v5 := by rw [Lib.cell_of_heap hbk5]; rfl
        have HO5 := Lib.hid (own_base hown5 (show w.heap.size ≤ wr.heap.size by omega))
        have hfin := hbw.trans (hb5.mono hbw.size)
        clear hbk5 hown5 ho5 hk5
        go_wp2_with fail
        go_ret
        exact ⟨⟨v5, rfl, by rw [← HEB.out]; exact HO5.out⟩, hfin⟩
end Go.Proofs.YtoochleabcjljaaDoor

/- Codes: Encode. -/
namespace Go.Proofs.YtoochleabcjljaaDoor
open Go.RowKit

theorem frTo_get {bs : List Chan} {xss : List (List Int)} {n : Nat} (h : frTo bs xss n = true) {i : Nat} {c : Chan} {xs : List Int} (hi : i < n) (hc : bs[i]? = some c) (hx : xss[i]? = some xs) : smpOK c xs = true := by
  induction n with
  | zero => omega
  | succ n ih =>
    simp only [frTo, Bool.and_eq_true] at h
    by_cases hin : i < n
    · exact ih h.1 hin
    · obtain rfl : i = n := by omega
      have := h.2
      rw [hc, hx] at this
      exact this
theorem frmErr_zero {bs : List Chan} {st : Int} {xss : List (List Int)} (h : frmErr bs st xss = 0) : bookOK bs = true ∧ bs.length ≤ 16 ∧ xss.length = bs.length ∧ 0 ≤ st ∧ st ≤ 1073741824 ∧ (∀ xs ∈ xss, xs.length ≤ 64) ∧ ∀ xs ∈ xss, ∀ x ∈ xs, -8388608 ≤ x ∧ x ≤ 8388608 := by
  unfold frmErr at h
  split at h
  · contradiction
  · rename_i hb
    have hb : bookErr bs = 0 := by simpa using hb
    have hk := bookErr_zero hb
    split at h
    · rename_i hf
      simp only [frOK, Bool.and_eq_true, decide_eq_true_eq] at hf
      obtain ⟨h1, h2, h3⟩ := hf
      have hk2 := hk
      simp only [bookOK, inB, Bool.and_eq_true, decide_eq_true_eq] at hk2
      simp only [inB, decide_eq_true_eq] at h1
      have key : ∀ xs ∈ xss, ∃ c, (1 ≤ c.rate ∧ c.rate ≤ 64 ∧ 2 ≤ c.bits ∧ c.bits ≤ 24) ∧ smpOK c xs = true := by
        intro xs hxs
        obtain ⟨i, hi, hx⟩ := List.mem_iff_getElem.1 hxs
        obtain ⟨c, hc⟩ := get_of_lt (show i < bs.length by omega)
        exact ⟨c, book_get hk hc, frTo_get h3 (by omega) hc (by rw [List.getElem?_eq_getElem hi, hx])⟩
      refine ⟨hk, by omega, h2, h1.1, h1.2, fun xs hxs => ?_, fun xs hxs x hx => ?_⟩
      · obtain ⟨c, hc, hs⟩ := key xs hxs
        simp only [smpOK, Bool.and_eq_true, decide_eq_true_eq] at hs
        omega
      · obtain ⟨c, hc, hs⟩ := key xs hxs
        simp only [smpOK, Bool.and_eq_true] at hs
        have h4 := hs.2
        obtain ⟨m1, m2, _⟩ := most_bd hc.2.2.1 hc.2.2.2
        rw [Bool.not_eq_true'] at h4
        have h5 := List.any_eq_false.1 h4 x hx
        simp [inB] at h5
        omega
    · contradiction
def encRes (bs : List Chan) (st : Int) (xss : List (List Int)) : List Nat := if frmErr bs st xss = 0 then encB st xss else []

set_option maxRecDepth 100000 in
theorem Encode_any (ao : Option Addr) (bs : List Chan) (cap : Nat) (st : Int) (asm : Option Addr) (vs : List Value) (xss : List (List Int)) (cs : Nat) (w : World) (hb : BookIn w ao bs cap) (hs : Cells w asm vs) (hr : RowsV w vs xss) (hls : xss.length ≤ 9223372036854775807) :
    Calls Tryd.prog 26 #[.slice ao bs.length cap, .agg #[.int .i64 st, .slice asm xss.length cs]] w fun e w' => (∃ v, e = .returned (.tuple #[v, .int .i64 (frmErr bs st xss)]) ∧ w'.ownsRow w.heap.size 5 1 v (encRes bs st xss).length (bys (encRes bs st xss))) ∧ Below w.heap.size w w' := by
  have HB := Lib.hid hb; have HS := Lib.hid hs; have HR := Lib.hid hr
  have hlen := hb.len
  clear hs hr hb
  have hck := fun wx h1 h2 h3 => checkFrame_any ao bs cap st asm vs xss cs wx h1 h2 h3 hls
  have HCK := Lib.hid hck; clear hck
  by_cases h1 : frmErr bs st xss = 0
  · have he : encRes bs st xss = encB st xss := by rw [encRes, if_pos h1]
    obtain ⟨_, z1, z2, z3, z4, z5, z6⟩ := frmErr_zero h1
    have hen := fun wx h1 h2 => encode_any ao bs.length cap st asm vs xss cs wx z1 z2 h1 h2 z3 z4 z5 z6
    rw [z2] at HCK ⊢
    have HEN := Lib.hid hen; have HE := Lib.hid he; have H1 := Lib.hid h1
    clear hen he h1 z1 z2 z3 z4 z5 z6 hls
    go_enter Tryd.func26, Tryd.ntmps26
    go_wp2_with fail
    have hb0 := (Below.refl w.heap.size w).alloc (Nat.le_refl _) (.cells #[.int .i64 st, .slice asm bs.length cs] 53)
    refine (HCK.out _ (HB.out.below hb0 (Nat.le_refl _)) (HS.out.below hb0 (Nat.le_refl _)) (HR.out.below hb0 (Nat.le_refl _))).mono ?_
    rintro e w1 ⟨rfl, hb1⟩
    rw [H1.out]
    have q0 : w1.cell? ⟨w.heap.size, 0, none⟩ = some (.int .i64 st) := box_keep hb1 (by simp) 0
    have q1 : w1.cell? ⟨w.heap.size, 1, none⟩ = some (.slice asm bs.length cs) := box_keep hb1 (by simp) 1
    have hbw := hb0.trans (hb1.mono (by simp))
    go_wp2_with fail
    refine (HEN.out _ (HS.out.below hbw (Nat.le_refl _)) (HR.out.below hbw (Nat.le_refl _))).mono ?_
    rintro e w2 ⟨⟨v, rfl, hown⟩, hb2⟩
    have HO := Lib.hid (own_base hown hbw.size)
    have hfin := hbw.trans (hb2.mono hbw.size)
    clear hown hb0 hb1 hbw hb2
    go_wp2
    go_ret2
    exact ⟨⟨v, by rw [H1.out]; rfl, by rw [HE.out]; exact HO.out⟩, hfin⟩
  · have he : encRes bs st xss = [] := by rw [encRes, if_neg h1]
    have h3 : (frmErr bs st xss != 0) = true := by simpa using h1
    have h4 : (frmErr bs st xss == 0) = false := by simpa using h1
    have HE := Lib.hid he; clear he
    go_enter Tryd.func26, Tryd.ntmps26
    go_wp2_with fail
    have hb0 := (Below.refl w.heap.size w).alloc (Nat.le_refl _) (.cells #[.int .i64 st, .slice asm xss.length cs] 53)
    refine (HCK.out _ (HB.out.below hb0 (Nat.le_refl _)) (HS.out.below hb0 (Nat.le_refl _)) (HR.out.below hb0 (Nat.le_refl _))).mono ?_
    rintro e w1 ⟨rfl, hb1⟩
    have hbw := hb0.trans (hb1.mono (by simp))
    go_wp2
    go_ret2
    exact ⟨⟨_, rfl, by rw [HE.out]; exact World.ownsRow_nil _ _ _ _⟩, hbw⟩
end Go.Proofs.YtoochleabcjljaaDoor

/- sameBands. -/
namespace Go.Proofs.YtoochleabcjljaaDoor
open Go.RowKit

/-- sameBands: are two lists of pairs the same? -/
theorem sameBands_any (aa ab : Option Addr) (xs ys : List (Int × Int)) (ca cb : Nat) (w : World) (ha : Cells w aa (prs xs)) (hb : Cells w ab (prs ys)) (hl : xs.length ≤ 9223372036854775807) (hl' : ys.length ≤ 9223372036854775807) :
    Calls Tryd.prog 12 #[.slice aa xs.length ca, .slice ab ys.length cb] w fun e w' => e = .returned (.bool (decide (xs = ys))) ∧ Below w.heap.size w w' := by
  by_cases hlen : xs.length = ys.length
  · have h1 : ((xs.length : Int) != ys.length) = false := by simp [hlen]
    have hlt : (ys.length : Int) ≤ xs.length := by omega
    have HL := Lib.hid hlen; clear hlen
    go_enter Tryd.func12, Tryd.ntmps12
    go_wp2
    go_loopw [5] (fun i wr => ∃ k : Nat, k ≤ xs.length ∧ i = .int .i64 k ∧ xs.take k = ys.take k ∧ Below w.heap.size w wr) (fun i _ => xs.length - (intOf i).toNat)
    case atStart => exact ⟨0, Nat.zero_le _, rfl, rfl, Below.refl _ _⟩
    case round =>
      obtain ⟨k, hk, rfl, heq, hbe⟩ := hrel
      have HQ := Lib.hid heq; clear heq
      by_cases hlt : k < xs.length
      · have hlt2 : k < ys.length := by have := HL.out; omega
        obtain ⟨⟨x1, x2⟩, hx⟩ := get_of_lt hlt
        obtain ⟨⟨y1, y2⟩, hy⟩ := get_of_lt hlt2
        obtain ⟨b, off, rfl⟩ := ha.addr (prs_ne (by omega))
        obtain ⟨b2, off2, rfl⟩ := hb.addr (prs_ne (by omega))
        have c1 := cell_keep (ha.at (prs_fst hx)) hbe (Nat.le_refl _)
        have c2 := cell_keep (ha.at (prs_snd hx)) hbe (Nat.le_refl _)
        have c3 := cell_keep (hb.at (prs_fst hy)) hbe (Nat.le_refl _)
        have c4 := cell_keep (hb.at (prs_snd hy)) hbe (Nat.le_refl _)
        rw [← Nat.add_assoc] at c2 c4
        simp only at c1 c2 c3 c4
        have i1 : (k : Int) < xs.length := by omega
        have i2 : (k : Int) < ys.length := by omega
        have i3 : (0 : Int) ≤ k := by omega
        by_cases hxy : x1 = y1 ∧ x2 = y2
        · obtain ⟨rfl, rfl⟩ := hxy
          have ht : xs.take (k + 1) = ys.take (k + 1) := by rw [take_get hx, take_get hy, HQ.out]
          have HT := Lib.hid ht; clear ht hx hy
          go_wp2
          go_quiet (fail)
          go_wp2
          go_roundw
          case rel => exact ⟨k + 1, by omega, by go_num, HT.out, bel_drewN hbe _⟩
          case measure => simp [intOf]; omega
        · have hne : decide (xs = ys) = false := by
            rw [decide_eq_false_iff_not]; rintro rfl
            rw [hx] at hy; simp at hy; exact hxy hy
          have HNE := Lib.hid hne; clear hne hx hy
          by_cases hx1 : x1 = y1
          · obtain rfl := hx1
            have hb1 : (x2 == y2) = false := by simpa using hxy
            go_wp2
            go_quiet (fail)
            go_wp2
            go_ret
            exact ⟨ret_bool HNE.out.symm, bel_drewN hbe _⟩
          · have hb1 : (x1 == y1) = false := by simpa using hx1
            go_wp2
            go_quiet (fail)
            go_wp2
            go_ret
            exact ⟨ret_bool HNE.out.symm, bel_drewN hbe _⟩
      · obtain rfl : k = xs.length := by omega
        have he : decide (xs = ys) = true := by
          rw [decide_eq_true_iff]
          have := HQ.out
          rw [List.take_length, HL.out, List.take_length] at this; exact this
        have HE := Lib.hid he; clear he
        go_wp2
        go_ret
        exact ⟨ret_bool HE.out.symm, hbe⟩
  · have h1 : ((xs.length : Int) != ys.length) = true := by simp; omega
    have he : decide (xs = ys) = false := by
      rw [decide_eq_false_iff_not]; rintro rfl; exact hlen rfl
    have HE := Lib.hid he; clear he
    go_enter Tryd.func12, Tryd.ntmps12
    go_wp2
    go_ret
    exact ⟨ret_bool HE.out.symm, Below.refl _ _⟩
end Go.Proofs.YtoochleabcjljaaDoor

/- Examples: SameInts, the book. -/
namespace Go.Proofs.YtoochleabcjljaaDoor
open Go.RowKit

/-- SameInts: are two lists of numbers the same? -/
theorem sameInts_any (aa ab : Option Addr) (xs ys : List Int) (ca cb : Nat) (w : World) (ha : Cells w aa (xs.map (Value.int .i64))) (hb : Cells w ab (ys.map (Value.int .i64))) (hl : xs.length ≤ 9223372036854775807) (hl' : ys.length ≤ 9223372036854775807) :
    Calls Tryd.prog 20 #[.slice aa xs.length ca, .slice ab ys.length cb] w fun e w' => e = .returned (.bool (decide (xs = ys))) ∧ Below w.heap.size w w' := by
  by_cases hlen : xs.length = ys.length
  · have h1 : ((xs.length : Int) != ys.length) = false := by simp [hlen]
    have hlt : (ys.length : Int) ≤ xs.length := by omega
    have HL := Lib.hid hlen; clear hlen
    have HA := Lib.hid ha; have HB := Lib.hid hb; clear ha hb
    go_enter Tryd.func20, Tryd.ntmps20
    go_wp2
    go_loopw [5] (fun i wr => ∃ k : Nat, k ≤ xs.length ∧ i = .int .i64 k ∧ xs.take k = ys.take k ∧ Below w.heap.size w wr) (fun i _ => xs.length - (intOf i).toNat)
    case atStart => exact ⟨0, Nat.zero_le _, rfl, rfl, Below.refl _ _⟩
    case round =>
      obtain ⟨k, hk, rfl, heq, hbe⟩ := hrel
      have HQ := Lib.hid heq; clear heq
      by_cases hlt : k < xs.length
      · have hlt2 : k < ys.length := by have := HL.out; omega
        obtain ⟨x, hx⟩ := get_of_lt hlt
        obtain ⟨y, hy⟩ := get_of_lt hlt2
        obtain ⟨b, off, rfl⟩ := HA.out.addr (by simpa using List.ne_nil_of_length_pos (by omega))
        obtain ⟨b2, off2, rfl⟩ := HB.out.addr (by simpa using List.ne_nil_of_length_pos (by omega))
        have c1 := cell_keep (HA.out.int hx) hbe (Nat.le_refl _)
        have c2 := cell_keep (HB.out.int hy) hbe (Nat.le_refl _)
        have i1 : (k : Int) < xs.length := by omega
        have i2 : (k : Int) < ys.length := by omega
        have i3 : (0 : Int) ≤ k := by omega
        by_cases hxy : x = y
        · obtain rfl := hxy
          have ht : xs.take (k + 1) = ys.take (k + 1) := by rw [take_get hx, take_get hy, HQ.out]
          have HT := Lib.hid ht; clear ht hx hy
          go_wp2
          go_quiet (fail)
          go_wp2
          go_roundw
          case rel => exact ⟨k + 1, by omega, by go_num, HT.out, bel_drewN hbe _⟩
          case measure => simp [intOf]; omega
        · have hne : decide (xs = ys) = false := by
            rw [decide_eq_false_iff_not]; rintro rfl
            rw [hx] at hy; simp at hy; exact hxy hy
          have HNE := Lib.hid hne; clear hne hx hy
          have hb1 : (x == y) = false := by simpa using hxy
          have hb2 : (x != y) = true := by simpa using hxy
          go_wp2
          go_quiet (fail)
          go_wp2
          go_ret
          exact ⟨ret_bool HNE.out.symm, bel_drewN hbe _⟩
      · obtain rfl : k = xs.length := by omega
        have he : decide (xs = ys) = true := by
          rw [decide_eq_true_iff]
          have := HQ.out
          rw [List.take_length, HL.out, List.take_length] at this; exact this
        have HE := Lib.hid he; clear he
        go_wp2
        go_ret
        exact ⟨ret_bool HE.out.symm, hbe⟩
  · have h1 : ((xs.length : Int) != ys.length) = true := by simp; omega
    have he : decide (xs = ys) = false := by
      rw [decide_eq_false_iff_not]; rintro rfl; exact hlen rfl
    have HE := Lib.hid he; clear he
    go_enter Tryd.func20, Tryd.ntmps20
    go_wp2
    go_ret
    exact ⟨ret_bool HE.out.symm, Below.refl _ _⟩

/-- the book of the examples -/
def bookX : List Chan := [⟨⟨#[101, 114, 114]⟩, 4, 8⟩, ⟨⟨#[97, 117, 120]⟩, 1, 4⟩]
theorem book_any (w : World) :
    Calls Tryd.prog 27 #[] w fun e w' => e = .returned (.slice (some ⟨w.heap.size, 0, none⟩) 2 2) ∧ w' = w.alloc (.cells #[.string ⟨#[101, 114, 114]⟩, .int .i64 4, .int .i64 8, .string ⟨#[97, 117, 120]⟩, .int .i64 1, .int .i64 4] 57) := by
  go_enter Tryd.func27, Tryd.ntmps27
  go_wp2
  go_ret
  exact ⟨rfl, rfl⟩
end Go.Proofs.YtoochleabcjljaaDoor

/- Lines: CheckLine, lined, Inject, amplitude. -/
namespace Go.Proofs.YtoochleabcjljaaDoor
open Go.RowKit

/-- a line -/
def sumL (xs : List Int) : Int := xs.foldl (· + ·) 0
theorem sumL_snoc (xs : List Int) (x : Int) : sumL (xs ++ [x]) = sumL xs + x := by simp [sumL]
def lineOK (xs : List Int) : Bool := xs.all (fun n => inB (-1000) n 1000) && (inB 2 xs.length 32 && (decide (sumL xs = 0) && xs.any (fun n => n != 0)))
def lineErr (xs : List Int) : Int := if lineOK xs then 0 else 54

theorem sumL_bd {xs : List Int} (h : ∀ x ∈ xs, -1000 ≤ x ∧ x ≤ 1000) : -(1000 * (xs.length : Int)) ≤ sumL xs ∧ sumL xs ≤ 1000 * (xs.length : Int) := by
  suffices ∀ (xs : List Int) (a : Int), (∀ x ∈ xs, -1000 ≤ x ∧ x ≤ 1000) → a - 1000 * (xs.length : Int) ≤ xs.foldl (· + ·) a ∧ xs.foldl (· + ·) a ≤ a + 1000 * (xs.length : Int) by
    have := this xs 0 h; simp only [sumL]; omega
  intro xs
  induction xs with
  | nil => intro a _; simp
  | cons x xs ih =>
    intro a h
    have h1 := h x (by simp)
    have h2 := ih (a + x) (fun y hy => h y (by simp [hy]))
    simp only [List.foldl_cons, List.length_cons]
    push_cast
    omega

theorem checkLine_any (ao : Option Addr) (xs : List Int) (cap : Nat) (w : World) (hc : Cells w ao (xs.map (Value.int .i64))) (hl : xs.length ≤ 17592186044416) :
    Calls Tryd.prog 51 #[.slice ao xs.length cap] w fun e w' => e = .returned (.int .i64 (lineErr xs)) ∧ w = w' := by
  have HC := Lib.hid hc; clear hc
  go_enter Tryd.func51, Tryd.ntmps51
  go_wp2
  go_loop [3, 4, 9] (fun sm so i => ∃ k : Nat, k ≤ xs.length ∧ i = .int .i64 k ∧ sm = .int .i64 (sumL (xs.take k)) ∧ so = .bool ((xs.take k).any (fun n => n != 0)) ∧ (xs.take k).all (fun n => inB (-1000) n 1000) = true) (fun _ _ i => xs.length - (intOf i).toNat)
  case atStart => exact ⟨0, Nat.zero_le _, rfl, rfl, rfl, rfl⟩
  case round =>
    obtain ⟨k, hk, rfl, rfl, rfl, hall⟩ := hrel
    have hbd := sumL_bd (xs := xs.take k) (fun x hx => by have := List.all_eq_true.1 hall x hx; simpa [inB] using this)
    rw [List.length_take, Nat.min_eq_left hk] at hbd
    obtain ⟨hb1, hb2⟩ := hbd
    by_cases hlt : k < xs.length
    · obtain ⟨x, hx⟩ := get_of_lt hlt
      obtain ⟨b, off, rfl⟩ := HC.out.addr (by simpa using List.ne_nil_of_length_pos (by omega))
      have hcell := HC.out.int hx
      have ht := take_get hx
      cases hin : inB (-1000) x 1000
      · have he : lineErr xs = 54 := by
          have : xs.all (fun n => inB (-1000) n 1000) = false := List.all_eq_false.2 ⟨x, List.mem_of_getElem? hx, by simp [hin]⟩
          simp [lineErr, lineOK, this]
        have HE := Lib.hid he; clear he hx ht hall
        go_wp2_with (go_at_call 22; refine (within_any _ _ _ _).mono ?_; rintro e w' ⟨rfl, rfl⟩)
        go_ret
        exact ⟨ret_int HE.out.symm, rfl⟩
      · have hx1 : -1000 ≤ x ∧ x ≤ 1000 := by simpa [inB] using hin
        obtain ⟨hx1, hx2⟩ := hx1
        have hs : sumL (xs.take (k + 1)) = sumL (xs.take k) + x := by rw [ht, sumL_snoc]
        have ha : (xs.take (k + 1)).all (fun n => inB (-1000) n 1000) = true := by rw [ht, List.all_append, hall]; simp [hin]
        have hn : (xs.take (k + 1)).any (fun n => n != 0) = ((xs.take k).any (fun n => n != 0) || x != 0) := by rw [ht, List.any_append]; simp
        have HS := Lib.hid hs; have HA := Lib.hid ha; have HN := Lib.hid hn
        clear hs ha hn ht hx hall
        generalize (xs.take k).any (fun n => n != 0) = so at *
        generalize sumL (xs.take k) = sm at *
        cases so
        all_goals
          go_wp2_with (go_at_call 22; refine (within_any _ _ _ _).mono ?_; rintro e w' ⟨rfl, rfl⟩)
          go_round
          case rel => exact ⟨k + 1, by omega, by go_num, by rw [HS.out], by rw [HN.out]; simp, HA.out⟩
          case measure => simp [intOf]; omega
    · obtain rfl : k = xs.length := by omega
      rw [List.take_length] at hall hb1 hb2 ⊢
      have he : lineErr xs = if (inB 2 xs.length 32 && (decide (sumL xs = 0) && xs.any (fun n => n != 0))) then 0 else 54 := by simp only [lineErr, lineOK, hall, Bool.true_and]
      have HE := Lib.hid he; clear he hall
      generalize xs.any (fun n => n != 0) = so at *
      generalize sumL xs = sm at *
      by_cases hsm : sm = 0
      · subst hsm
        cases so
        all_goals
          cases hin : inB 2 xs.length 32
          all_goals
            have HIN := Lib.hid hin
            go_wp2_with (go_at_call 22; refine (within_any _ _ _ _).mono ?_; rintro e w' ⟨rfl, rfl⟩)
            go_ret
            exact ⟨ret_int (by rw [HE.out, HIN.out]; rfl), rfl⟩
      · have h1 : (sm != 0) = true := by simpa using hsm
        have hd : decide (sm = 0) = false := by simpa using hsm
        have HD := Lib.hid hd; clear hd
        cases hin : inB 2 xs.length 32
        all_goals
          have HIN := Lib.hid hin
          go_wp2_with (go_at_call 22; refine (within_any _ _ _ _).mono ?_; rintro e w' ⟨rfl, rfl⟩)
          go_ret
          exact ⟨ret_int (by rw [HE.out, HIN.out, HD.out]; rfl), rfl⟩
end Go.Proofs.YtoochleabcjljaaDoor

/- Lines: lined, Inject, amplitude. -/
namespace Go.Proofs.YtoochleabcjljaaDoor
open Go.RowKit

def linedErr (sh xs : List Int) : Int := if lineErr sh ≠ 0 then lineErr sh else serErr xs

theorem lined_any (ao : Option Addr) (sh : List Int) (cap : Nat) (ax : Option Addr) (xs : List Int) (cx : Nat) (w : World) (hc : Cells w ao (sh.map (Value.int .i64))) (hl : sh.length ≤ 17592186044416) (hx : Cells w ax (xs.map (Value.int .i64))) (hlx : xs.length ≤ 9223372036854775807) :
    Calls Tryd.prog 39 #[.slice ao sh.length cap, .slice ax xs.length cx] w fun e w' => e = .returned (.int .i64 (linedErr sh xs)) ∧ Below w.heap.size w w' := by
  have HC := Lib.hid hc; clear hc
  have HX := Lib.hid hx; clear hx
  by_cases h1 : lineErr sh = 0
  · have he : linedErr sh xs = serErr xs := by simp [linedErr, h1]
    have HE := Lib.hid he; clear he
    have H1 := Lib.hid h1; clear h1
    go_enter Tryd.func39, Tryd.ntmps39
    go_wp2_with fail
    refine (checkLine_any ao sh cap _ HC.out hl).mono ?_
    rintro e w1 ⟨rfl, rfl⟩
    rw [H1.out]
    go_wp2_with fail
    refine (checkSeries_any ax xs cx _ HX.out hlx).mono ?_
    rintro e w2 ⟨rfl, hb2⟩
    go_wp2
    go_ret
    exact ⟨ret_int HE.out.symm, hb2⟩
  · have he : linedErr sh xs = lineErr sh := by simp [linedErr, h1]
    have HE := Lib.hid he; clear he
    have h3 : (lineErr sh != 0) = true := by simpa using h1
    have h4 : (lineErr sh == 0) = false := by simpa using h1
    go_enter Tryd.func39, Tryd.ntmps39
    go_wp2_with fail
    refine (checkLine_any ao sh cap _ HC.out hl).mono ?_
    rintro e w1 ⟨rfl, rfl⟩
    go_wp2
    go_ret
    exact ⟨ret_int HE.out.symm, Below.refl _ _⟩

theorem lineErr_zero {xs : List Int} (h : lineErr xs = 0) : 2 ≤ xs.length ∧ xs.length ≤ 32 ∧ sumL xs = 0 ∧ ∀ x ∈ xs, -1000 ≤ x ∧ x ≤ 1000 := by
  have h1 : lineOK xs = true := by
    cases e : lineOK xs
    · simp [lineErr, e] at h
    · rfl
  simp only [lineOK, inB, Bool.and_eq_true, decide_eq_true_eq, List.all_eq_true] at h1
  exact ⟨by omega, by omega, h1.2.2.1, h1.1⟩

theorem linedErr_zero {sh xs : List Int} (h : linedErr sh xs = 0) : lineErr sh = 0 ∧ serErr xs = 0 := by
  by_cases h1 : lineErr sh = 0
  · exact ⟨h1, by simpa [linedErr, h1] using h⟩
  · simp [linedErr, h1] at h

def injAt (sh : List Int) (a : Int) (xs : List Int) (t : Nat) : Int := xs.getD t 0 + a * sh.getD (t % sh.length) 0
def inj (sh : List Int) (a : Int) (xs : List Int) (n : Nat) : List Int := (List.range n).map (injAt sh a xs)
theorem inj_length (sh : List Int) (a : Int) (xs : List Int) (n : Nat) : (inj sh a xs n).length = n := by simp [inj]
theorem inj_succ (sh : List Int) (a : Int) (xs : List Int) (n : Nat) : inj sh a xs (n + 1) = inj sh a xs n ++ [injAt sh a xs n] := by simp [inj, List.range_succ]
def injErr (sh : List Int) (a : Int) (xs : List Int) : Int :=
  if linedErr sh xs ≠ 0 then linedErr sh xs else if inB (-1000) a 1000 = false then 8 else if serOK (inj sh a xs xs.length) = false then 8 else 0
def injRes (sh : List Int) (a : Int) (xs : List Int) : List Int := if injErr sh a xs = 0 then inj sh a xs xs.length else []

theorem mul_bd {a x A X : Int} (h1 : -A ≤ a) (h2 : a ≤ A) (h3 : -X ≤ x) (h4 : x ≤ X) : -(A * X) ≤ a * x ∧ a * x ≤ A * X := by
  have ha : a.natAbs ≤ A.natAbs := by omega
  have hx : x.natAbs ≤ X.natAbs := by omega
  have h := Nat.mul_le_mul ha hx
  rw [← Int.natAbs_mul, ← Int.natAbs_mul] at h
  have : 0 ≤ A * X := Int.mul_nonneg (by omega) (by omega)
  omega

theorem Tryd.infoInt : (Tryd.prog.info? 3).map (fun i => (i.zero, i.size, i.bytes)) = some (some (.int .i64 0), 1, 8) := by kernel_rfl

set_option maxRecDepth 100000 in
set_option maxHeartbeats 1000000 in
theorem inject_any (ao : Option Addr) (sh : List Int) (cap : Nat) (a : Int) (ax : Option Addr) (xs : List Int) (cx : Nat) (w : World) (hc : Cells w ao (sh.map (Value.int .i64))) (hl : sh.length ≤ 17592186044416) (hx : Cells w ax (xs.map (Value.int .i64))) (hlx : xs.length ≤ 9223372036854775807) :
    Calls Tryd.prog 29 #[.slice ao sh.length cap, .int .i64 a, .slice ax xs.length cx] w fun e w' => (∃ b c, e = .returned (.tuple #[.slice b (injRes sh a xs).length c, .int .i64 (injErr sh a xs)]) ∧ Cells w' b ((injRes sh a xs).map (Value.int .i64))) ∧ Below w.heap.size w w' := by
  have HC := Lib.hid hc; clear hc
  have HX := Lib.hid hx; clear hx
  by_cases h1 : linedErr sh xs = 0
  · cases h2 : inB (-1000) a 1000
    · have he : injErr sh a xs = 8 := by simp [injErr, h1, h2]
      have hr : injRes sh a xs = [] := by simp [injRes, he]
      have HE := Lib.hid he; clear he
      have HR := Lib.hid hr; clear hr
      have H1 := Lib.hid h1; clear h1
      go_enter Tryd.func29, Tryd.ntmps29
      go_wp2_with fail
      refine (lined_any ao sh cap ax xs cx _ HC.out hl HX.out hlx).mono ?_
      rintro e w1 ⟨rfl, hb⟩
      rw [H1.out]
      go_wp2_with fail
      refine (within_any _ _ _ _).mono ?_
      rintro e w2 ⟨rfl, rfl⟩
      go_wp2
      go_ret2
      exact ⟨⟨none, 0, by rw [HE.out, HR.out]; rfl, by rw [HR.out]; exact Cells.nil _ _⟩, hb⟩
    · obtain ⟨hl1, hl2⟩ := linedErr_zero h1
      have l1 := lineErr_zero hl1
      have l2 := serErr_zero hl2
      obtain ⟨l11, l12, _, l13⟩ := l1
      obtain ⟨l21, l22⟩ := l2
      have ha : -1000 ≤ a ∧ a ≤ 1000 := by simpa [inB] using h2
      obtain ⟨ha1, ha2⟩ := ha
      have he : injErr sh a xs = if serOK (inj sh a xs xs.length) = false then 8 else 0 := by simp [injErr, h1, h2]
      have HE := Lib.hid he; clear he
      have H1 := Lib.hid h1; clear h1
      have L13 := Lib.hid l13; clear l13
      have L22 := Lib.hid l22; clear l22
      have H2 := Lib.hid h2; clear h2
      clear hl1 hl2
      obtain ⟨i0, hi, hz0, hz1, hz2⟩ := info_parts Tryd.infoInt
      go_enter Tryd.func29, Tryd.ntmps29
      go_wp2_with fail
      refine (lined_any ao sh cap ax xs cx _ HC.out hl HX.out hlx).mono ?_
      rintro e w1 ⟨rfl, hb⟩
      rw [H1.out]
      go_wp2_with fail
      refine (within_any _ _ _ _).mono ?_
      rintro e w2 ⟨rfl, rfl⟩
      rw [H2.out]
      go_wp2
      go_loopw [9, 23] (fun v i wr => ∃ k : Nat, k ≤ xs.length ∧ i = .int .i64 k ∧ wr.ownsRow w.heap.size 3 1 v k ((inj sh a xs k).map (Value.int .i64)) ∧ Below w.heap.size w wr) (fun _ i _ => xs.length - (intOf i).toNat)
      case atStart => exact ⟨0, Nat.zero_le _, rfl, World.ownsRow_nil _ _ _ _, hb⟩
      case round =>
        clear hb
        obtain ⟨k, hk, rfl, hown, hb⟩ := hrel
        by_cases hlt : k < xs.length
        · obtain ⟨x, hx⟩ := get_of_lt hlt
          have hm0 : k % sh.length < sh.length := Nat.mod_lt _ (by omega)
          obtain ⟨y, hy⟩ := get_of_lt hm0
          obtain ⟨b, off, rfl⟩ := HC.out.addr (by simpa using List.ne_nil_of_length_pos (by omega))
          obtain ⟨bx, ox, rfl⟩ := HX.out.addr (by simpa using List.ne_nil_of_length_pos (by omega))
          have c1 := cell_keep (HX.out.int hx) hb (Nat.le_refl _)
          have c2 := cell_keep (HC.out.int hy) hb (Nat.le_refl _)
          have t1 := L22.out _ (List.mem_of_getElem? hx)
          have t2 := L13.out _ (List.mem_of_getElem? hy)
          have p1 := mul_bd ha1 ha2 t2.1 t2.2
          obtain ⟨t11, t12⟩ := t1
          obtain ⟨p11, p12⟩ := p1
          have hat : injAt sh a xs k = x + a * y := by simp [injAt, hx, hy]
          have HAT := Lib.hid hat; clear hat hx hy
          have hsz := hb.size
          have HOB : Hid (∀ j, u9.ownBlock = some j → w.heap.size ≤ j) := fun j e => (hown.lt j e).1
          go_wp2_with (at_builtin; refine wpList_append_own _ rfl _ _ 25 rfl w.heap.size 3 i0 (.int .i64 0) 1 8 Tryd.underlying25 hi hz0 hz1 hz2 rfl (by decide) _ _ _ rfl (hown.alloc _) ⟨wr.heap.size, 0, none⟩ 1 1 [.int .i64 (x + a * y)] rfl rfl (news1 _ _ _) (by simp [Value.oneCell']) (by unfold maxLen; omega) (by omega) (by simp; omega) ?_; intro v1 wz hown1 hgrow _)
          all_goals
            have hfin := hown1
            rw [show (inj sh a xs k).map (Value.int .i64) ++ [.int .i64 (x + a * y)] = (inj sh a xs (k + 1)).map (Value.int .i64) from by rw [inj_succ, List.map_append, HAT.out]; rfl] at hfin
            have hbz := (hb.alloc hsz (.cells #[.int .i64 (x + a * y)] 3)).grown hgrow (by simp; omega) HOB.out
            clear hown1 hgrow hown
            have HFIN := Lib.hid hfin; clear hfin
            go_wp2
            go_roundw
            case rel => exact ⟨k + 1, by omega, by go_num, HFIN.out, hbz⟩
            case measure => simp [intOf]; omega
        · obtain rfl : k = xs.length := by omega
          obtain ⟨g, c, rfl, hcs⟩ := own_cells hown
          have hli : (inj sh a xs xs.length).length = xs.length := inj_length _ _ _ _
          have HCS := Lib.hid hcs; clear hcs hown
          have hser := fun (wx : World) (h : Cells wx g ((inj sh a xs xs.length).map (Value.int .i64))) => seriesOK_any g (inj sh a xs xs.length) c wx h (by rw [hli]; omega)
          rw [hli] at hser
          have HL := Lib.hid hli; clear hli
          have HSER := Lib.hid hser; clear hser
          cases hok : serOK (inj sh a xs xs.length)
          · have he : injErr sh a xs = 8 := by rw [HE.out, hok]; rfl
            have hr : injRes sh a xs = [] := by simp [injRes, he]
            have HE2 := Lib.hid he; clear he
            have HR2 := Lib.hid hr; clear hr
            have HOK := Lib.hid hok; clear hok
            go_wp2_with fail
            refine (HSER.out _ HCS.out).mono ?_
            rintro e w2 ⟨rfl, hb2⟩
            rw [HOK.out]
            go_wp2
            go_ret2
            exact ⟨⟨none, 0, by rw [HE2.out, HR2.out]; rfl, by rw [HR2.out]; exact Cells.nil _ _⟩, hb.trans (hb2.mono hb.size)⟩
          · have he : injErr sh a xs = 0 := by rw [HE.out, hok]; rfl
            have hr : injRes sh a xs = inj sh a xs xs.length := by simp [injRes, he]
            have HE2 := Lib.hid he; clear he
            have HR2 := Lib.hid hr; clear hr
            have HOK := Lib.hid hok; clear hok
            go_wp2_with fail
            refine (HSER.out _ HCS.out).mono ?_
            rintro e w2 ⟨rfl, hb2⟩
            rw [HOK.out]
            go_wp2
            go_ret2
            exact ⟨⟨g, c, by rw [HE2.out, HR2.out, HL.out]; rfl, by rw [HR2.out]; exact HCS.out.below hb2 (Nat.le_refl _)⟩, hb.trans (hb2.mono hb.size)⟩
  · have he : injErr sh a xs = linedErr sh xs := by simp [injErr, h1]
    have hr : injRes sh a xs = [] := by simp [injRes, he, h1]
    have HE := Lib.hid he; clear he
    have HR := Lib.hid hr; clear hr
    have h3 : (linedErr sh xs != 0) = true := by simpa using h1
    have h4 : (linedErr sh xs == 0) = false := by simpa using h1
    go_enter Tryd.func29, Tryd.ntmps29
    go_wp2_with fail
    refine (lined_any ao sh cap ax xs cx _ HC.out hl HX.out hlx).mono ?_
    rintro e w1 ⟨rfl, hb⟩
    go_wp2
    go_ret2
    exact ⟨⟨none, 0, by rw [HE.out, HR.out]; rfl, by rw [HR.out]; exact Cells.nil _ _⟩, hb⟩
end Go.Proofs.YtoochleabcjljaaDoor

/- Lines: amplitude. -/
namespace Go.Proofs.YtoochleabcjljaaDoor
open Go.RowKit

def ampN (sh xs : List Int) : Nat → Int
  | 0 => 0
  | t + 1 => ampN sh xs t + xs.getD t 0 * sh.getD (t % sh.length) 0
def ampD (sh : List Int) : Nat → Int
  | 0 => 0
  | t + 1 => ampD sh t + sh.getD (t % sh.length) 0 * sh.getD (t % sh.length) 0
/-- the whole periods -/
def whole (sh xs : List Int) : Nat := xs.length / sh.length * sh.length

theorem amp_bd {sh xs : List Int} (h : linedErr sh xs = 0) (t : Nat) (ht : t ≤ xs.length) :
    -(8388608000 * (t : Int)) ≤ ampN sh xs t ∧ ampN sh xs t ≤ 8388608000 * (t : Int) ∧ 0 ≤ ampD sh t ∧ ampD sh t ≤ 1000000 * (t : Int) := by
  obtain ⟨h1, h2⟩ := linedErr_zero h
  obtain ⟨a1, a2, _, a3⟩ := lineErr_zero h1
  obtain ⟨b1, b2⟩ := serErr_zero h2
  induction t with
  | zero => simp [ampN, ampD]
  | succ t ih =>
    have ih := ih (by omega)
    have hm : t % sh.length < sh.length := Nat.mod_lt _ (by omega)
    have m1 := a3 (sh.getD (t % sh.length) 0) (by rw [List.getD_eq_getElem?_getD, List.getElem?_eq_getElem hm]; exact List.getElem_mem _)
    have m2 := b2 (xs.getD t 0) (by rw [List.getD_eq_getElem?_getD, List.getElem?_eq_getElem (by omega)]; exact List.getElem_mem _)
    have p1 := mul_bd (A := 8388608) (X := 1000) m2.1 m2.2 m1.1 m1.2
    have p2 := mul_bd (A := 1000) (X := 1000) m1.1 m1.2 m1.1 m1.2
    have p3 : 0 ≤ sh.getD (t % sh.length) 0 * sh.getD (t % sh.length) 0 := by
      rcases Int.le_total 0 (sh.getD (t % sh.length) 0) with h | h
      · exact Int.mul_nonneg h h
      · exact Int.mul_nonneg_of_nonpos_of_nonpos h h
    simp only [ampN, ampD]
    push_cast
    omega

theorem whole_le (sh xs : List Int) : whole sh xs ≤ xs.length := Nat.div_mul_le_self _ _

set_option maxRecDepth 100000 in
set_option maxHeartbeats 1000000 in
theorem amplitude_any (ao : Option Addr) (sh : List Int) (cap : Nat) (ax : Option Addr) (xs : List Int) (cx : Nat) (w : World) (hc : Cells w ao (sh.map (Value.int .i64))) (hx : Cells w ax (xs.map (Value.int .i64))) (h : linedErr sh xs = 0) :
    Calls Tryd.prog 40 #[.slice ao sh.length cap, .slice ax xs.length cx] w fun e w' => e = .returned (.tuple #[.int .i64 (ampN sh xs (whole sh xs)), .int .i64 (ampD sh (whole sh xs))]) ∧ w = w' := by
  have HC := Lib.hid hc; clear hc
  have HX := Lib.hid hx; clear hx
  obtain ⟨h1, h2⟩ := linedErr_zero h
  obtain ⟨a1, a2, _, a3⟩ := lineErr_zero h1
  obtain ⟨b1, b2⟩ := serErr_zero h2
  have HB := Lib.hid (fun t ht => amp_bd h t ht)
  have A3 := Lib.hid a3; clear a3
  have B2 := Lib.hid b2; clear b2
  have hw := whole_le sh xs
  have hw0 : ((xs.length : Int) / sh.length) * sh.length = (whole sh xs : Nat) := by simp [whole]
  have hw1 : 0 ≤ ((xs.length : Int) / sh.length) * sh.length := by rw [hw0]; omega
  have hw2 : ((xs.length : Int) / sh.length) * sh.length ≤ 4096 := by rw [hw0]; omega
  have hq1 : 0 ≤ (xs.length : Int) / sh.length := Int.ediv_nonneg (by omega) (by omega)
  have hq2 : (xs.length : Int) / sh.length ≤ 4096 := by have := Int.ediv_le_self (a := (xs.length : Int)) (sh.length : Int) (by omega); omega
  have HW := Lib.hid hw0; clear hw0
  have hne : ((sh.length : Int) == 0) = false := by simp; intro e; simp [e] at a1
  clear h h1 h2
  go_enter Tryd.func40, Tryd.ntmps40
  go_wp2
  rw [HW.out]
  clear hw1 hw2 hq1 hq2
  go_loop [4, 5, 16] (fun n d i => ∃ k : Nat, k ≤ whole sh xs ∧ i = .int .i64 k ∧ n = .int .i64 (ampN sh xs k) ∧ d = .int .i64 (ampD sh k)) (fun _ _ i => whole sh xs - (intOf i).toNat)
  case atStart => exact ⟨0, Nat.zero_le _, rfl, rfl, rfl⟩
  case round =>
    obtain ⟨k, hk, rfl, rfl, rfl⟩ := hrel
    obtain ⟨d1, d2, d3, d4⟩ := HB.out k (by omega)
    by_cases hlt : k < whole sh xs
    · obtain ⟨x, hx⟩ := get_of_lt (show k < xs.length by omega)
      have hm0 : k % sh.length < sh.length := Nat.mod_lt _ (by omega)
      obtain ⟨y, hy⟩ := get_of_lt hm0
      obtain ⟨b, off, rfl⟩ := HC.out.addr (by simpa using List.ne_nil_of_length_pos (by omega))
      obtain ⟨bx, ox, rfl⟩ := HX.out.addr (by simpa using List.ne_nil_of_length_pos (by omega))
      have c1 := HX.out.int hx
      have c2 := HC.out.int hy
      have t1 := B2.out _ (List.mem_of_getElem? hx)
      have t2 := A3.out _ (List.mem_of_getElem? hy)
      have p1 := mul_bd t1.1 t1.2 t2.1 t2.2
      have p2 := mul_bd t2.1 t2.2 t2.1 t2.2
      obtain ⟨p11, p12⟩ := p1
      obtain ⟨p21, p22⟩ := p2
      have e1 : ampN sh xs (k + 1) = ampN sh xs k + x * y := by simp [ampN, hx, hy]
      have e2 : ampD sh (k + 1) = ampD sh k + y * y := by simp [ampD, hy]
      have E1 := Lib.hid e1; have E2 := Lib.hid e2; clear e1 e2 hx hy
      go_wp2
      go_round
      case rel => exact ⟨k + 1, by omega, by go_num, by rw [E1.out], by rw [E2.out]⟩
      case measure => simp [intOf]; omega
    · obtain rfl : k = whole sh xs := by omega
      go_wp2
      go_ret2
      exact ⟨rfl, rfl⟩
end Go.Proofs.YtoochleabcjljaaDoor
