/- Parts of a proof, in build order: C4, F0, T1, T2, T3, T4, T5, S0. -/
import Derived.Test.YtoochleabcjljaaGreatDoorKf2
import Derived.Laws.AppendOwnNone
import Derived.Maps.AppendAt

/- Frames: CheckFrame. -/
namespace Go.Proofs.YtoochleabcjljaaGreatDoor
open Go.RowKit

def frmErr (bs : List Chan) (st : Int) (xss : List (List Int)) : Int := if bookErr bs ≠ 0 then bookErr bs else if frOK bs st xss then 0 else 51
theorem bookErr_zero {bs : List Chan} (h : bookErr bs = 0) : bookOK bs = true := by
  cases e : bookOK bs
  · simp [bookErr, e] at h
  · rfl

/-- what is asked of a book, whatever it holds -/
structure BookIn (w : World) (ao : Option Addr) (bs : List Chan) (cap : Nat) : Prop where
  cells : Cells w ao (chs bs)
  len : bs.length ≤ 9223372036854775807
  lecap : bs.length ≤ cap
  cap2 : cap ≤ 9223372036854775807
  names : ∀ c ∈ bs, c.name.size ≤ 9223372036854775807
  rates : ∀ c ∈ bs, -9223372036854775808 ≤ c.rate
theorem BookIn.below {w w' : World} {B : Nat} {ao : Option Addr} {bs : List Chan} {cap : Nat} (h : BookIn w ao bs cap) (hb : Below B w w') (hB : w.heap.size ≤ B) : BookIn w' ao bs cap :=
  ⟨h.cells.below hb hB, h.len, h.lecap, h.cap2, h.names, h.rates⟩

set_option maxRecDepth 100000 in
theorem checkFrame_any (ao : Option Addr) (bs : List Chan) (cap : Nat) (st : Int) (asm : Option Addr) (vs : List Value) (xss : List (List Int)) (cs : Nat) (w : World) (hb : BookIn w ao bs cap) (hs : Cells w asm vs) (hr : RowsV w vs xss) (hls : xss.length ≤ 9223372036854775807) :
    Calls Tryz.prog 26 #[.slice ao bs.length cap, .agg #[.int .i64 st, .slice asm xss.length cs]] w fun e w' => e = .returned (.int .i64 (frmErr bs st xss)) ∧ Below w.heap.size w w' := by
  have HB := Lib.hid hb; have HS := Lib.hid hs; have HR := Lib.hid hr
  have hlen := hb.len
  clear hs hr hb
  have hck := fun wx (h : BookIn wx ao bs cap) => checkBook_any ao bs cap wx h.cells (by have := h.len; omega) h.lecap h.cap2 h.names h.rates
  have HCK := Lib.hid hck; clear hck
  by_cases h1 : bookErr bs = 0
  · have hok := bookErr_zero h1
    have hfr := fun wx h2 h3 h4 => frameOK_any ao bs cap st asm vs xss cs wx h2 hlen h3 h4 hls hok
    have HFR := Lib.hid hfr; clear hfr hok
    have he : frmErr bs st xss = if frOK bs st xss then 0 else 51 := by simp [frmErr, h1]
    have HE := Lib.hid he; have H1 := Lib.hid h1; clear he h1
    cases h2 : frOK bs st xss
    all_goals
      have H2 := Lib.hid h2
      go_enter Tryz.func26, Tryz.ntmps26
      go_wp2_with fail
      refine (HCK.out _ (HB.out.below ((Below.refl _ _).alloc (Nat.le_refl _) _) (Nat.le_refl _))).mono ?_
      rintro e w1 ⟨rfl, hb1⟩
      rw [H1.out]
      have hbw : Below w.heap.size w w1 := ((Below.refl _ _).alloc (Nat.le_refl _) _).trans (hb1.mono (by simp))
      have q0 : w1.cell? ⟨w.heap.size, 0, none⟩ = some (.int .i64 st) := box_keep hb1 (by simp) 0
      have q1 : w1.cell? ⟨w.heap.size, 1, none⟩ = some (.slice asm xss.length cs) := box_keep hb1 (by simp) 1
      go_wp2_with fail
      refine (HFR.out _ (HB.out.below hbw (Nat.le_refl _)).cells (HS.out.below hbw (Nat.le_refl _)) (HR.out.below hbw (Nat.le_refl _))).mono ?_
      rintro e w2 ⟨rfl, hb2⟩
      go_wp2
      go_ret
      exact ⟨ret_int (by rw [HE.out, H2.out]; rfl), hbw.trans (hb2.mono hbw.size)⟩
  · have he : frmErr bs st xss = bookErr bs := by simp [frmErr, h1]
    have h3 : (bookErr bs != 0) = true := by simpa using h1
    have h4 : (bookErr bs == 0) = false := by simpa using h1
    have HE := Lib.hid he; clear he
    go_enter Tryz.func26, Tryz.ntmps26
    go_wp2_with fail
    refine (HCK.out _ (HB.out.below ((Below.refl _ _).alloc (Nat.le_refl _) _) (Nat.le_refl _))).mono ?_
    rintro e w1 ⟨rfl, hb1⟩
    go_wp2
    go_ret
    exact ⟨ret_int HE.out.symm, ((Below.refl _ _).alloc (Nat.le_refl _) _).trans (hb1.mono (by simp))⟩
end Go.Proofs.YtoochleabcjljaaGreatDoor

/- Codes: encode. -/
namespace Go.Proofs.YtoochleabcjljaaGreatDoor
open Go.RowKit Go.Shelf

theorem grown_of_below {n : Nat} {w w' : World} (hb : Below n w w') (hn : w.heap.size ≤ n) (row : Option Nat) : w.grownBy w' row := ⟨hb.os, hb.tape, hb.output, hb.size, fun k hk _ => hb.block k (by omega)⟩
theorem own_base {w : World} {B B' : Nat} {e : TypeId} {s : Nat} {v : Value} {n : Nat} {xs : List Value} (h : w.ownsRow B e s v n xs) (hB : B' ≤ B) : w.ownsRow B' e s v n xs := by
  refine ⟨h.1, h.2.imp id ?_⟩
  rintro ⟨g, cap, cur, h1, h2, h3⟩
  exact ⟨g, cap, cur, h1, by omega, h3⟩
theorem own_below {w w' : World} {B n : Nat} {e : TypeId} {s : Nat} {v : Value} {m : Nat} {xs : List Value} (h : w.ownsRow B e s v m xs) (hb : Below n w w') (hn : w.heap.size ≤ n) : w'.ownsRow B e s v m xs :=
  h.kept (row := none) (grown_of_below hb hn none) (by cases hv : v.ownBlock <;> simp)
theorem WrS.wide {B bW n : Nat} {S : Nat → Prop} {w w' : World} {bs : List Nat} (h : WrS B bW S w bs) (hb : Below n w w') (hn : w.heap.size ≤ n) : WrS B bW (fun k => S k ∨ (w.heap.size ≤ k ∧ k < w'.heap.size)) w' bs := by
  obtain ⟨h1, h2, v, h3, h4, h5, h6⟩ := h
  have hl := heap_lt h3
  refine ⟨h1, h2, v, by rw [hb.block _ (by omega)]; exact h3, own_below h4 hb hn, h5, fun k hk => ?_⟩
  have hs := hb.size
  rcases hk with hk | ⟨hk1, hk2⟩
  · have := h6 k hk; exact ⟨by omega, this.2⟩
  · exact ⟨hk2, by omega, fun e => by have := (h4.lt _ e).2; omega⟩
theorem WrS.new (B : Nat) (S : Nat → Prop) (W : World) (hB : B ≤ W.heap.size) (hS : ∀ k, S k → k < W.heap.size) : WrS B W.heap.size S (W.alloc (.cells #[.slice none 0 0, .int .i64 0] 167)) [] :=
  ⟨hB, by simp, .slice none 0 0, World.alloc_heap_new W _, by rw [octs_nil]; exact World.ownsRow_nil _ _ _ _, by simp [Value.ownBlock], fun k hk => ⟨by have := hS k hk; simp; omega, by have := hS k hk; omega, by simp [Value.ownBlock]⟩⟩
theorem frBits_bits (st : Int) (xss : List (List Int)) : ∀ b ∈ frBits st xss, b ≤ 1 := by
  intro b hb
  rcases List.mem_append.1 hb with h | h
  · exact binL_bits _ _ b h
  · obtain ⟨x, _, hx⟩ := List.mem_flatMap.1 h
    unfold encC encL at hx
    rcases List.mem_append.1 hx with h | h
    · rcases List.mem_append.1 h with h | h <;> exact binL_bits _ _ b h
    · obtain ⟨r, _, hr⟩ := List.mem_flatMap.1 h
      exact encU_bits _ _ b hr

theorem best_way (ao : Option Addr) (xs : List Int) (cap : Nat) (w : World) (hc : Cells w ao (xs.map (Value.int .i64))) (hl : xs.length ≤ 4096) (hx : ∀ x ∈ xs, -8388608 ≤ x ∧ x ≤ 8388608) :
    Calls Tryz.prog 122 #[.slice ao xs.length cap] w fun e w' => ∃ o s : Nat, wayOf xs = (o, s) ∧ e = .returned (.agg #[.int .i64 (o : Nat), .int .i64 (s : Nat)]) ∧ Below w.heap.size w w' := by
  have h := best_any ao xs cap w hc hl hx
  unfold wayOf
  generalize wvs 124 = q at *
  exact h.mono fun e w' h => ⟨_, _, rfl, h⟩

theorem enc_write {B bW : Nat} (S : Nat → Prop) (o sh : Nat) (ho : o ≤ 3) (hsh : sh ≤ 30) (al : Option Addr) (l : List Int) (cl : Nat) (bs : List Nat) {n : Nat} (w : World)
    (hst : WrS B bW S w bs) (hS : ∀ b, n ≤ b ∧ b < w.heap.size → S b) (hl : ∀ b off, al = some ⟨b, off, none⟩ → n ≤ b) (hc : Cells w al (l.map (Value.int .i64))) (hlen : l.length ≤ 4096) (hbs : bs.length ≤ 1000000) (hr : ∀ r ∈ l, -67108864 ≤ r ∧ r ≤ 67108864) :
    Calls Tryz.prog 123 #[.agg #[.int .i64 (o : Nat), .int .i64 (sh : Nat)], .iface 165 (.pointer (some ⟨bW, 0, none⟩)), .slice al l.length cl] w fun e w' => e = .returned (.tuple #[]) ∧ WrS B bW S w' (bs ++ encL o sh l) ∧ KeepS S B w w' := by
  refine write_any (writer_ok B bW) S o sh ho hsh al l cl bs w hst (fun b off hb hne => hS b ⟨hl b off hb, ?_⟩) hc hlen hbs hr
  subst hb
  obtain ⟨r, hr0⟩ := get_of_lt (List.length_pos_iff.2 hne)
  exact World.block_lt_of_cell? w _ (hc.at (j := 0) (by rw [List.getElem?_map, hr0]; rfl))

theorem WrS.lit (w : World) : WrS w.heap.size (w.heap.size + 1) (fun k => k < w.heap.size) ((w.alloc (.cells #[.int .u8 165, .int .u8 90] 5)).alloc (.cells #[.slice (some ⟨w.heap.size, 0, none⟩) 2 2, .int .i64 0] 167)) (unB [165, 90]) := by
  refine ⟨by omega, unB_bits _, .slice (some ⟨w.heap.size, 0, none⟩) 2 2, ?_, ?_, by simp [Value.ownBlock], fun k hk => ⟨by simp; omega, by omega, by simp [Value.ownBlock]; omega⟩⟩
  · have h := World.alloc_heap_new (w.alloc (.cells #[.int .u8 165, .int .u8 90] 5)) (.cells #[.slice (some ⟨w.heap.size, 0, none⟩) 2 2, .int .i64 0] 167)
    rw [World.size_alloc] at h
    exact h
  · rw [octs_unB _ (by decide)]
    refine ⟨rfl, .inr ⟨w.heap.size, 2, #[.int .u8 165, .int .u8 90], rfl, Nat.le_refl _, ?_, by decide, by unfold maxLen; omega, rfl, rfl⟩⟩
    rw [Below.heap_alloc _ _ _ (by simp)]
    exact World.alloc_heap_new w _

set_option maxRecDepth 100000 in
set_option maxHeartbeats 2000000 in
theorem encode_any (ao : Option Addr) (nb : Nat) (cap : Nat) (st : Int) (asm : Option Addr) (vs : List Value) (xss : List (List Int)) (cs : Nat) (w : World) (hl : nb ≤ 16) (hnb : xss.length = nb) (hs : Cells w asm vs) (hr : RowsV w vs xss)
    (hst0 : 0 ≤ st) (hst1 : st ≤ 1073741824) (hxl : ∀ xs ∈ xss, xs.length ≤ 64) (hxb : ∀ xs ∈ xss, ∀ x ∈ xs, -8388608 ≤ x ∧ x ≤ 8388608) :
    Calls Tryz.prog 75 #[.slice ao nb cap, .agg #[.int .i64 st, .slice asm nb cs]] w fun e w' => (∃ v, e = .returned v ∧ w'.ownsRow w.heap.size 5 1 v (encB st xss).length (bys (encB st xss))) ∧ Below w.heap.size w w' := by
  have HS := Lib.hid hs; have HR := Lib.hid hr; have HXL := Lib.hid hxl; have HXB := Lib.hid hxb; have HNB := Lib.hid hnb
  clear hs hr hxl hxb hnb
  go_enter Tryz.func75, Tryz.ntmps75
  go_wp2_with fail
  have hw0 := WrS.new (w.heap.size + 1) (fun _ => False) (w.alloc (.cells #[.int .i64 st, .slice asm nb cs] 43)) (by simp) (fun k h => h.elim)
  rw [World.size_alloc] at hw0
  refine (writer_put _ _ _ _ st 32 _ hw0 hst0 (by omega) (by omega) (by simp)).mono ?_
  rintro e w1 ⟨rfl, hw1, hk1⟩
  have hb1 : Below (w.heap.size + 1) (w.alloc (.cells #[.int .i64 st, .slice asm nb cs] 43)) w1 := ((Below.refl _ _).alloc (by simp) _).trans hk1.below
  have HW1 := Lib.hid hw1
  clear hw0 hw1 hk1
  go_wp2
  go_loopw [18] (fun i wr => ∃ k : Nat, k ≤ nb ∧ i = .int .i64 k ∧ WrS (w.heap.size + 1) (w.heap.size + 1) (fun _ => False) wr (frBits st (xss.take k)) ∧ Below (w.heap.size + 1) (w.alloc (.cells #[.int .i64 st, .slice asm nb cs] 43)) wr) (fun i _ => nb - (intOf i).toNat)
  case atStart => exact ⟨0, Nat.zero_le _, rfl, by simpa [frBits] using HW1.out, hb1⟩
  case round =>
    clear hb1 HW1
    obtain ⟨k, hk, rfl, hwr, hb⟩ := hrel
    have HWR := Lib.hid hwr; clear hwr
    have hsz : w.heap.size + 1 ≤ wr.heap.size := by have := hb.size; simpa using this
    by_cases hlt : k < nb
    · obtain ⟨xs, hxs⟩ := get_of_lt (show k < xss.length by have := HNB.out; omega)
      obtain ⟨v, hv⟩ := get_of_lt (show k < vs.length by have := HR.out.1; have := HNB.out; omega)
      obtain ⟨b2, off2, rfl⟩ := HS.out.addr (List.ne_nil_of_length_pos (by have := HR.out.1; have := HNB.out; omega))
      have hbw : Below w.heap.size w wr := ((Below.refl _ _).alloc (Nat.le_refl _) _).trans (hb.mono (by omega))
      have c3 := cell_keep (HS.out.at hv) hbw (Nat.le_refl _)
      have p1 : wr.cell? ⟨w.heap.size, 1, none⟩ = some (.slice (some ⟨b2, off2, none⟩) nb cs) := box_keep hb (by simp) 1
      obtain ⟨ax, cx, rfl, hax, _⟩ := HR.out.2 k v xs hv hxs
      have hmem := List.mem_of_getElem? hxs
      have hxl := HXL.out xs hmem
      have hxb := HXB.out xs hmem
      have hax2 := hax.below hbw (Nat.le_refl _)
      have HXB2 := Lib.hid hxb; have HAX := Lib.hid hax2
      have HT : Hid (frBits st (xss.take (k + 1)) = frBits st (xss.take k) ++ encC xs) := Lib.hid (by
        rw [frBits, frBits, take_get hxs, List.flatMap_append]; simp)
      have HFL : Hid ((frBits st (xss.take k)).length ≤ 32 + 3335 * 16) := Lib.hid (by
        have h1 := flat_encC (xss.take k) 64 (fun y hy => HXL.out y (List.mem_of_mem_take hy))
        rw [List.length_take, Nat.min_eq_left (by have := HNB.out; omega)] at h1
        rw [frBits, List.length_append, binL_length]; omega)
      clear hv hxs hax hax2 hxb hmem
      go_wp2_with fail
      refine (best_way ax xs cx wr HAX.out (by omega) HXB2.out).mono ?_
      rintro e w1 ⟨o, sh, hwy, rfl, hb1⟩
      have hwb := wayOf_bd xs
      rw [hwy] at hwb
      obtain ⟨ho, hsh⟩ := hwb
      simp only at ho hsh
      have HE : Hid (encC xs = encL o sh (resid xs o)) := Lib.hid (by rw [encC, hwy])
      clear hwy
      have hb2 := hb.trans (hb1.mono hsz)
      have hbx := hb1.alloc hb1.size (.cells #[.int .i64 o, .int .i64 sh] 170)
      have HW2 := Lib.hid ((HWR.out.wide hbx (Nat.le_refl _)))
      have hn1 := hb1.size
      go_wp2
      have hax3 := HAX.out.below hbx.drew (Nat.le_refl _)
      have HAX3 := Lib.hid hax3
      have bw := (Blk.new w1 170 #[.int .i64 o, .int .i64 sh]).drew
      have HWd : Hid (WrS (w.heap.size + 1) (w.heap.size + 1) (fun k => False ∨ (wr.heap.size ≤ k ∧ k < (w1.alloc (.cells #[.int .i64 o, .int .i64 sh] 170)).drew.heap.size)) (w1.alloc (.cells #[.int .i64 o, .int .i64 sh] 170)).drew (frBits st (xss.take k))) := Lib.hid HW2.out
      have hsc : (w1.alloc (.cells #[.int .i64 o, .int .i64 sh] 170)).drew.heap.size = w1.heap.size + 1 := by simp
      have hbd := hbx.drew
      clear hax3 HW2 HAX hb1 hbx c3 p1
      have e0 := bw.c0
      have e1 := bw.c1
      have HBW := Lib.hid bw; have HSC := Lib.hid hsc
      clear bw hsc
      generalize (w1.alloc (.cells #[.int .i64 o, .int .i64 sh] 170)) = Wc at *
      go_region_with (first
        | (go_at_call 124; refine (residues_any ax xs cx o Wc.drew HAX3.out (by omega) ho HXB2.out).mono ?_; rintro e w2 ⟨⟨a1, k1, rfl, hca, hna⟩, hb3⟩; have HCA := Lib.hid hca; have HNA := Lib.hid hna; clear hca hna; have d0 := cell_keep e0 hb3 (Nat.le_refl _); have d1 := cell_keep e1 hb3 (Nat.le_refl _))
        | (go_at_call 123; refine (enc_write _ o sh ho hsh a1 (resid xs o) k1 _ w2 (HWd.out.wide hb3 (Nat.le_refl _)) (fun b hb => .inr hb) HNA.out HCA.out (by rw [resid_length]; omega) (by have := HFL.out; omega) (resid_bd HXB2.out o ho)).mono ?_; rintro e w3 ⟨rfl, hw3, hk3⟩; have hb4 := hk3.below; have HW3 := Lib.hid hw3; clear hw3 hk3))
      all_goals
        have hbz := (hb.trans ((hbd.mono hsz).trans (hb3.mono (Nat.le_trans hsz hbd.size)))).trans hb4
        have HBZ := Lib.hid hbz
        clear hbz hb4 hb3 hbd hb
        go_wp2
        go_roundw
        case rel => exact ⟨k + 1, by omega, by go_num, by rw [HT.out, HE.out]; exact (writer_ok _ _).mono _ _ _ _ (fun k h => h.elim) HW3.out, HBZ.out⟩
        case measure => simp [intOf]; omega
    · obtain rfl : k = nb := by omega
      have ht : xss.take k = xss := by rw [List.take_of_length_le (by have := HNB.out; omega)]
      rw [ht] at HWR
      have hfl : (frBits st xss).length ≤ 32 + 3335 * 16 := by
        have h1 := flat_encC xss 64 HXL.out
        have := HNB.out
        rw [frBits, List.length_append, binL_length]; omega
      have hfl2 : 32 ≤ (frBits st xss).length := by rw [frBits, List.length_append, binL_length]; omega
      have HBI := Lib.hid (frBits_bits st xss)
      have hol := octs_len (frBits st xss)
      have hbw : Below w.heap.size w wr := ((Below.refl _ _).alloc (Nat.le_refl _) _).trans (hb.mono (by omega))
      clear ht hb
      have HENC : Hid (encB st xss = hdB (octs (frBits st xss)) ++ octs (binL (chkL (hdB (octs (frBits st xss))) : Nat) 24)) := Lib.hid rfl
      have hok := (octs_ok _ HBI.out).1
      obtain ⟨eb, heb⟩ : ∃ eb, eb = encB st xss := ⟨_, rfl⟩
      rw [← heb] at HENC
      have HEB := Lib.hid heb
      clear heb
      generalize frBits st xss = fb at *
      have hn1 : 4 ≤ (octs fb).length := by omega
      have hn2 : (octs fb).length ≤ 6674 := by omega
      have HOK := Lib.hid hok
      clear hol hfl hfl2 hok
      obtain ⟨_, _, v1, hbk, hown, hne, _⟩ := HWR.out
      generalize octs fb = body at *
      obtain ⟨a1, c1, rfl, hca⟩ := own_cells hown
      obtain ⟨bv, ov, rfl⟩ := hca.addr (bys_ne (by omega))
      have p0 : wr.cell? ⟨w.heap.size + 1, 0, none⟩ = some (.slice (some ⟨bv, ov, none⟩) body.length c1) := by rw [Lib.cell_of_heap hbk]; rfl
      have hlt1 := heap_lt hbk
      have hlt2 := (hown.lt bv rfl).2
      have HBK := Lib.hid hbk; have HCA := Lib.hid hca; have HNE := Lib.hid hne
      have hba := (((Below.refl wr.heap.size wr).alloc (Nat.le_refl _) (.cells #[.int .u8 165, .int .u8 90] 5)).alloc (by simp) (.cells #[.slice (some ⟨wr.heap.size, 0, none⟩) 2 2, .int .i64 0] 167))
      have p1 := cell_keep p0 hba (Nat.le_refl _)
      have HPK := Lib.hid p0
      clear hbk hown hca hne HWR
      go_wp2_with fail
      have hw2 := WrS.lit wr
      clear p0 p1
      generalize ((wr.alloc (.cells #[.int .u8 165, .int .u8 90] 5)).alloc (.cells #[.slice (some ⟨wr.heap.size, 0, none⟩) 2 2, .int .i64 0] 167)) = wq at *
      refine (writer_put _ _ _ _ (body.length : Nat) 16 _ hw2 (by omega) (by omega) (by omega) (by rw [unB_length]; simp)).mono ?_
      rintro e w2 ⟨rfl, hw3, hk3⟩
      have hb3 := hba.trans hk3.below
      obtain ⟨_, hbits2, v2, hbk2, hown2, hne2, _⟩ := hw3
      have hoc : octs (unB [165, 90] ++ binL (body.length : Nat) 16) = [165, 90] ++ octs (binL (body.length : Nat) 16) := by
        rw [octs_append _ (by rw [unB_length]; rfl), octs_unB _ (by decide)]
      have hol := octs_len (binL (body.length : Nat) 16)
      rw [binL_length] at hol
      have hfr : freeOf (unB [165, 90] ++ binL (body.length : Nat) 16).length = 0 := by rw [List.length_append, unB_length, binL_length]; rfl
      rw [hoc] at hown2
      rw [hfr] at hbk2
      have hln : ([165, 90] ++ octs (binL (body.length : Nat) 16)).length = 4 := by rw [List.length_append, hol]; rfl
      rw [hln] at hown2
      have p2 := cell_keep HPK.out hb3 (Nat.le_refl _)
      have HC2 := Lib.hid hoc; have HLN := Lib.hid hln; have HBT := Lib.hid hbits2
      clear hoc hln hbits2 hol hfr hk3
      obtain ⟨g2, cg2, rfl, hg2, hg2l⟩ := hown2.form (by omega)
      have hne3 : g2 ≠ wr.heap.size + 1 := by simpa [Value.ownBlock] using hne2
      have q0 : w2.cell? ⟨wr.heap.size + 1, 0, none⟩ = some (.slice (some ⟨g2, 0, none⟩) 4 cg2) := by rw [Lib.cell_of_heap hbk2]; rfl
      have f0 : w2.frozen? ⟨wr.heap.size + 1, 0, none⟩ = false := Lib.frozen_of_heap hbk2 0
      have hl2 := heap_lt hbk2
      have hcb := HCA.out.below hb3 (Nat.le_refl _)
      have HCB := Lib.hid hcb; have HB2 := Lib.hid hbk2; have HO2 := Lib.hid hown2
      clear hne2 hcb hbk2 hown2 HNE HBK
      obtain ⟨i0, hi, hz0, hz1, hz2⟩ := info_parts Tryz.infoByte
      have hsz2 := hb3.size
      go_wp2
      have FA : ∀ (g : Nat) (wz : World), w2.drew.grownBy wz (some g2) → wz.frozen? ⟨wr.heap.size + 1, 0, none⟩ = false ∧ ∃ u, wz.cell? ⟨wr.heap.size + 1, 0, none⟩ = some u := fun g wz hg => by
        have e := hg.block (wr.heap.size + 1) hl2 (by simpa using Ne.symm hne3)
        have e2 := e.trans HB2.out
        exact ⟨Lib.frozen_of_heap e2 0, _, by rw [Lib.cell_of_heap e2]; rfl⟩
      replace FA := Lib.hid FA
      go_region_law (refine step_append_lies _ (by rfl) _ _ _ (by rfl) wr.heap.size 5 i0 _ 1 1 Tryz.underlying48 hi hz0 hz1 hz2 rfl (by omega) (.slice (some ⟨g2, 0, none⟩) 4 cg2) 4 _ (by rfl) (own_drewN HO2.out 1) ⟨bv, ov, none⟩ body.length c1 (bys body) (by rfl) (by simp [bys_length]) (fun j u hu => by rw [Addr.add_lit]; exact HCB.out.at hu) (by intro u hu; obtain ⟨d, _, rfl⟩ := List.mem_map.1 hu; rfl) (by omega) (by unfold maxLen; omega) (by omega) (by simp; omega) w2.heap.size (by simp) ?_; intro gg cp wz hown1 hgrow hat hlt1; obtain ⟨f9, u9, c9⟩ := FA.out gg wz hgrow)
      all_goals
        have hgne : gg ≠ wr.heap.size + 1 := by
          rcases hat with h | h
          · simp [Value.ownBlock] at h; omega
          · omega
        have hbz : wz.heap[wr.heap.size + 1]? = some (.cells #[.slice (some ⟨g2, 0, none⟩) 4 cg2, .int .i64 (0 : Nat)] 167 (0, 0)) := (hgrow.block (wr.heap.size + 1) hl2 (by simpa [Value.ownBlock] using Ne.symm hne3)).trans HB2.out
        have hbel : Below wr.heap.size wr wz := (hb3.drew).grown hgrow (by simpa using hsz2) (fun j e => by simp [Value.ownBlock] at e; omega)
        have hy1 := heap_set1 (u := .int .i64 0) (heap_set0 (u := .slice (some ⟨gg, 0, none⟩) (4 + body.length) cp) hbz)
        have hy2 := own_set_other (p := ⟨wr.heap.size + 1, 1, none⟩) (u := .int .i64 0) (own_set_other (p := ⟨wr.heap.size + 1, 0, none⟩) (u := .slice (some ⟨gg, 0, none⟩) (4 + body.length) cp) hown1 (by simpa [Value.ownBlock] using hgne)) (by simpa [Value.ownBlock] using hgne)
        have hy3 := (hbel.setCell (p := ⟨wr.heap.size + 1, 0, none⟩) (by simp) (.slice (some ⟨gg, 0, none⟩) (4 + body.length) cp)).setCell (p := ⟨wr.heap.size + 1, 1, none⟩) (by simp) (.int .i64 0)
        have f1 := Lib.frozen_of_heap hbz 1
        have c1' : ∃ u, wz.cell? ⟨wr.heap.size + 1, 1, none⟩ = some u := ⟨_, by rw [Lib.cell_of_heap hbz]; rfl⟩
        obtain ⟨_, c1'⟩ := c1'
        have HY1 := Lib.hid hy1; have HY2 := Lib.hid hy2; have HY3 := Lib.hid hy3
        clear hown1 hgrow hat hbz hbel hy1 hy2 hy3
        have hhd : bys ([165, 90] ++ octs (binL (body.length : Nat) 16)) ++ bys body = bys (hdB body) := by rw [hdB, bys_append (_ ++ _)]
        have hhl : (hdB body).length = 4 + body.length := by rw [hdB, List.length_append, HLN.out]
        have hhok : ∀ d ∈ hdB body, d < 256 := by
          intro d hd
          rcases List.mem_append.1 hd with h | h
          · have := (octs_ok (unB [165, 90] ++ binL (body.length : Nat) 16) HBT.out).1 d
            rw [HC2.out] at this
            exact this h
          · exact HOK.out d h
        have HHD := Lib.hid hhd; have HHL := Lib.hid hhl; have HHOK := Lib.hid hhok
        clear hhd hhl hhok
        go_wp2_with fail
        clear f1 f9 c9 c1'
        generalize ((wz.setCell ⟨wr.heap.size + 1, 0, none⟩ (.slice (some ⟨gg, 0, none⟩) (4 + body.length) cp)).setCell ⟨wr.heap.size + 1, 1, none⟩ (.int .i64 0)) = wx at *
        have hown4 := HY2.out
        rw [HHD.out] at hown4
        have hck := check_any (some ⟨gg, 0, none⟩) (hdB body) cp wx (by obtain ⟨a, c, h1, h2⟩ := own_cells hown4; simp at h1; rw [h1.1]; exact h2) HHOK.out (by rw [HHL.out]; omega)
        rw [HHL.out] at hck
        refine hck.mono ?_
        rintro e w4 ⟨rfl, rfl⟩
        clear hck
        go_wp2_with fail
        have hwx : WrS wr.heap.size (wr.heap.size + 1) (fun _ => False) wx (unB [165, 90] ++ binL (body.length : Nat) 16 ++ unB body) := by
          have ho : octs (unB [165, 90] ++ binL (body.length : Nat) 16 ++ unB body) = hdB body := by
            rw [octs_append _ (by rw [List.length_append, unB_length, binL_length]; rfl), HC2.out, octs_unB _ HOK.out]; rfl
          refine ⟨by omega, ?_, .slice (some ⟨gg, 0, none⟩) (4 + body.length) cp, ?_, ?_, by simpa [Value.ownBlock] using hgne, fun k h => h.elim⟩
          · intro b hb
            rcases List.mem_append.1 hb with h | h
            · exact HBT.out b h
            · exact unB_bits _ b h
          · have : freeOf (unB [165, 90] ++ binL (body.length : Nat) 16 ++ unB body).length = 0 := by
              unfold freeOf; rw [List.length_append, List.length_append, unB_length, unB_length, binL_length]; simp
            rw [this]; exact HY1.out
          · rw [ho, HHL.out]; exact hown4
        have hcl := chkL_lt (hdB body)
        have hpt := writer_put _ _ _ _ (chkL (hdB body) : Nat) 24 _ hwx (by omega) (by omega) (by omega) (by rw [List.length_append, List.length_append, unB_length, unB_length, binL_length]; simp <;> omega)
        have HPT := Lib.hid hpt
        clear hpt hwx hown4
        refine HPT.out.mono ?_
        rintro e w5 ⟨rfl, hw5, hk5⟩
        have hb5 := HY3.out.trans hk5.below
        obtain ⟨_, _, v5, hbk5, hown5, _, _⟩ := hw5
        have ho5 : octs (unB [165, 90] ++ binL (body.length : Nat) 16 ++ unB body ++ binL (chkL (hdB body) : Nat) 24) = eb := by
          rw [HENC.out, octs_append _ (by rw [List.length_append, List.length_append, unB_length, unB_length, binL_length]; simp <;> omega), octs_append _ (by rw [List.length_append, unB_length, binL_length]; rfl), HC2.out, octs_unB _ HOK.out]; rfl
        rw [ho5] at hown5
        have q5 : w5.cell? ⟨wr.heap.size + 1, 0, none⟩ = some v5 := by rw [Lib.cell_of_heap hbk5]; rfl
        have HO5 := Lib.hid (own_base hown5 (show w.heap.size ≤ wr.heap.size by omega))
        have hfin := hbw.trans (hb5.mono hbw.size)
        clear hbk5 hown5 ho5 hk5
        go_wp2_with fail
        go_ret
        exact ⟨⟨v5, rfl, by rw [← HEB.out]; exact HO5.out⟩, hfin⟩
end Go.Proofs.YtoochleabcjljaaGreatDoor

/- Codes of the chapter: binary, unary. -/
namespace Go.Proofs.YtoochleabcjljaaGreatDoor
open Go.RowKit

theorem grown_refl (w : World) (row : Option Nat) : w.grownBy w row := ⟨rfl, rfl, rfl, Nat.le_refl _, fun _ _ _ => rfl⟩
/-- append of a row of one's own, nil or not, to another one -/
theorem wpList_append_two {P : Program} {w : World} {ops : Array Oper} {rest : List Oper} {o : Oper} {a : Act} {Q : Exit → Act → World → Prop} (hgd : o.guard = none) (s x : Operand) (t : TypeId)
    (ho : o.op = .call { callee := .builtin .append, args := #[s, x], argTypes := #[t, t] })
    (base : Nat) (e : TypeId) (i : TypeInfo) (z : Value) (size bytes : Nat) (ht : P.underlying t = some (.slice e)) (hi : P.info? e = some i) (hz : i.zero = some z)
    (hsize : i.size = size) (hby : i.bytes = bytes) (hzs : z.cells.size = size) (hsz : 0 < size)
    (v : Value) (n : Nat) (xs : List Value) (hs : a.eval s = v) (hown : w.ownsRow base e size v n xs)
    (b2 : Nat) (vx : Value) (m : Nat) (news : List Value) (hx : a.eval x = vx) (hown2 : w.ownsRow b2 e size vx m news) (h1 : ∀ u ∈ news, u.oneCell' = true)
    (h63 : n + m ≤ maxLen) (hbytes : (n + m) * bytes ≤ 140737488355328) (hbase : base ≤ w.heap.size)
    (h : ∀ v' w', w'.ownsRow base e size v' (n + m) (xs ++ news) → w.grownBy w' v.ownBlock → (v'.ownBlock = v.ownBlock ∨ v'.ownBlock = some w.heap.size) → wpList P ops Q rest (a.put o.dst v') w') : wpList P ops Q (o :: rest) a w := by
  have hown2' := hown2
  obtain ⟨h0, h2⟩ := hown2
  rcases h2 with ⟨rfl, rfl⟩ | ⟨g, cap, cur, rfl, hb, hg, hn, hm, hs2, ht2⟩
  · have hnil : news = [] := by simpa using h0
    subst hnil
    refine wpList_append_own_none hgd s x t ho base e i size ht hi v n xs hs hown hx (h v w ?_ (grown_refl _ _) (.inl rfl))
    rw [List.append_nil]; exact hown
  · refine wpList_append_own_at w hgd s x t ho base e i z size bytes ht hi hz hsize hby hzs hsz v n xs hs hown ⟨g, 0, none⟩ m cap news hx h0 (fun j u hu => ?_) h1 h63 hbytes hbase fun v' w' h5 h6 _ h7 => h v' w' h5 h6 h7
    exact World.ownsRow.cells hown2' rfl j u hu
theorem bts_one (l : List Nat) : ∀ u ∈ bts l, u.oneCell' = true := by
  intro u hu; obtain ⟨d, _, rfl⟩ := List.mem_map.1 hu; rfl

set_option maxRecDepth 100000 in
theorem refBinary_any (n : Int) (k : Nat) (w : World) (hn0 : 0 ≤ n) (hn1 : n ≤ 4294967295) (hk : k ≤ 32) :
    Calls Tryz.prog 180 #[.int .i64 n, .int .i64 (k : Nat)] w fun e w' => (∃ v, e = .returned v ∧ w'.ownsRow w.heap.size 3 1 v k (bts (binL n k))) ∧ Below w.heap.size w w' := by
  obtain ⟨i0, hi, hz0, hz1, hz2⟩ := info_parts Tryz.infoInt
  go_enter Tryz.func180, Tryz.ntmps180
  go_wp2
  go_loopw [5, 6] (fun v i wr => ∃ m : Nat, m ≤ k ∧ i = .int .i64 ((m : Int) - 1) ∧ wr.ownsRow w.heap.size 3 1 v (k - m) (bts ((binL n k).take (k - m))) ∧ Below w.heap.size w wr) (fun _ i _ => (intOf i + 1).toNat)
  case atStart => exact ⟨k, Nat.le_refl _, rfl, by rw [Nat.sub_self]; exact World.ownsRow_nil _ _ _ _, Below.refl _ _⟩
  case round =>
    obtain ⟨m, hm, rfl, hown, hb⟩ := hrel
    by_cases h0 : m = 0
    · subst h0
      rw [Nat.sub_zero, List.take_of_length_le (by rw [binL_length]; omega)] at hown
      have HO := Lib.hid hown; clear hown
      go_wp2
      go_ret
      exact ⟨⟨_, rfl, HO.out⟩, hb⟩
    · obtain ⟨q, rfl⟩ : ∃ q, m = q + 1 := ⟨m - 1, by omega⟩
      have e1 : (((q + 1 : Nat) : Int) - 1) = (q : Int) := by omega
      rw [e1]
      have hst := bin_step n (show 0 < q + 1 by omega) hm
      rw [Nat.add_sub_cancel] at hst
      have hx0 : 0 ≤ n / 2 ^ q := Int.ediv_nonneg hn0 (Int.le_of_lt (Int.pow_pos (by decide)))
      have hx1 : n / 2 ^ q ≤ 4294967295 := by have := Int.ediv_le_self (2 ^ q) hn0; omega
      have hand : bits BinOp.and IntKind.i64 (n / 2 ^ q) 1 = ((n / 2 ^ q % 2).toNat : Int) := by rw [bit_and hx0 hx1]; omega
      have hmq : min q 64 = q := by omega
      have hkk : k - q = (k - (q + 1)) + 1 := by omega
      have HST := Lib.hid hst; have HKK := Lib.hid hkk; have HO := Lib.hid hown
      clear hst e1 hkk hown
      generalize (n / 2 ^ q % 2).toNat = b at *
      have hz := hb.size
      go_wp2_with (at_builtin; refine wpList_append_own _ rfl _ _ 22 rfl w.heap.size 3 i0 (.int .i64 0) 1 8 Tryz.underlying22 hi hz0 hz1 hz2 rfl (by decide) _ _ _ rfl (HO.out.alloc _) ⟨wr.heap.size, 0, none⟩ 1 1 [.int .i64 (b : Nat)] rfl rfl (news1 _ _ _) (by simp [Value.oneCell']) (by unfold maxLen; omega) (by omega) (by simp; omega) ?_; intro v1 wz hown1 hgrow _)
      have hbz := (hb.alloc hz (.cells #[.int .i64 (b : Nat)] 3)).grown hgrow (by simp; omega) (fun j e => (HO.out.lt j e).1)
      have hfin : wz.ownsRow w.heap.size 3 1 v1 (k - q) (bts ((binL n k).take (k - q))) := by
        rw [HST.out, HKK.out, bts_append]; exact hown1
      have HF := Lib.hid hfin
      clear hown1 hgrow hfin
      go_wp2
      go_roundw
      case rel => exact ⟨q, by omega, rfl, HF.out, hbz⟩
      case measure => simp [intOf]
theorem refFolded_any (r : Int) (w : World) (h1 : -1099511627776 ≤ r) (h2 : r ≤ 1099511627776) :
    Calls Tryz.prog 220 #[.int .i64 r] w fun e w' => e = .returned (.int .i64 (foldU r)) ∧ w = w' := by
  by_cases h : r < 0
  · have hf : foldU r = -2 * r - 1 := by rw [foldU, if_pos h]
    have HF := Lib.hid hf; clear hf
    go_enter Tryz.func220, Tryz.ntmps220
    go_wp2
    go_ret
    exact ⟨ret_int (by rw [HF.out]), rfl⟩
  · have hf : foldU r = 2 * r := by rw [foldU, if_neg h]
    have HF := Lib.hid hf; clear hf
    go_enter Tryz.func220, Tryz.ntmps220
    go_wp2
    go_ret
    exact ⟨ret_int (by rw [HF.out]), rfl⟩

theorem rep_succ (k : Nat) : bts (List.replicate (k + 1) 1) = bts (List.replicate k 1) ++ [.int .i64 1] := by
  rw [List.replicate_succ', bts_append]; rfl

set_option maxRecDepth 100000 in
set_option maxHeartbeats 1000000 in
theorem refUnary_any (u : Int) (k : Nat) (w : World) (hu0 : 0 ≤ u) (hu1 : u ≤ 4294967295) (hk : k ≤ 30) :
    Calls Tryz.prog 219 #[.int .i64 u, .int .i64 (k : Nat)] w fun e w' => (∃ v, e = .returned v ∧ w'.ownsRow w.heap.size 3 1 v (encU u k).length (bts (encU u k))) ∧ Below w.heap.size w w' := by
  obtain ⟨i0, hi, hz0, hz1, hz2⟩ := info_parts Tryz.infoInt
  have hq0 : 0 ≤ u / 2 ^ k := Int.ediv_nonneg hu0 (Int.le_of_lt (Int.pow_pos (by decide)))
  have hq1 : u / 2 ^ k ≤ 4294967295 := by have := Int.ediv_le_self (2 ^ k) hu0; omega
  obtain ⟨q, hq⟩ := Int.eq_ofNat_of_zero_le hq0
  have hmq : min k 64 = k := by omega
  have hlt : q < 20 → encU u k = List.replicate q 1 ++ 0 :: binL u k := fun h => encU_lt hq h
  have hge : 20 ≤ q → encU u k = List.replicate 20 1 ++ binL u 32 := fun h => encU_ge (by rw [hq]; omega)
  have HLT := Lib.hid hlt; have HGE := Lib.hid hge
  clear hlt hge
  have hqq : (q : Int) ≤ 4294967295 := by rw [← hq]; exact hq1
  clear hq0 hq1
  go_enter Tryz.func219, Tryz.ntmps219
  go_wp2
  clear hq
  go_loopw [5, 7] (fun v i wr => ∃ m : Nat, m ≤ q ∧ m ≤ 20 ∧ i = .int .i64 m ∧ wr.ownsRow w.heap.size 3 1 v m (bts (List.replicate m 1)) ∧ Below w.heap.size w wr) (fun _ i _ => q - (intOf i).toNat)
  case atStart => exact ⟨0, Nat.zero_le _, Nat.zero_le _, rfl, World.ownsRow_nil _ _ _ _, Below.refl _ _⟩
  case round =>
    obtain ⟨m, hm, hm2, rfl, hown, hb⟩ := hrel
    have hz := hb.size
    have HO := Lib.hid hown; clear hown
    by_cases h1 : m < q ∧ m < 20
    · obtain ⟨h1, h2⟩ := h1
      have i1 : (m : Int) < q := by omega
      go_wp2_with (at_builtin; refine wpList_append_own _ rfl _ _ 22 rfl w.heap.size 3 i0 (.int .i64 0) 1 8 Tryz.underlying22 hi hz0 hz1 hz2 rfl (by decide) _ _ _ rfl (HO.out.alloc _) ⟨wr.heap.size, 0, none⟩ 1 1 [.int .i64 1] rfl rfl (news1 _ _ _) (by simp [Value.oneCell']) (by unfold maxLen; omega) (by omega) (by simp; omega) ?_; intro v1 wz hown1 hgrow _)
      have hbz := (hb.alloc hz (.cells #[.int .i64 1] 3)).grown hgrow (by simp; omega) (fun j e => (HO.out.lt j e).1)
      rw [← rep_succ] at hown1
      have HF := Lib.hid hown1
      clear hown1 hgrow
      go_wp2
      go_roundw
      case rel => exact ⟨m + 1, by omega, by omega, by go_num, HF.out, hbz⟩
      case measure => simp [intOf]; omega
    · by_cases hge : 20 ≤ q
      · obtain rfl : m = 20 := by omega
        have he := HGE.out hge
        have HE := Lib.hid he
        have i1 : (20 : Int) ≤ q := by omega
        clear he h1 HLT HGE
        have hj : (20 : Int) < q ∨ ¬ (20 : Int) < q := by omega
        rcases hj with hj | hj
        all_goals
          go_wp2_with fail
          refine (refBinary_any u 32 _ hu0 hu1 (by omega)).mono ?_
          rintro e w1 ⟨⟨v1, rfl, ho1⟩, hb1⟩
          have HO1 := Lib.hid ho1
          have HOL := Lib.hid (own_below HO.out hb1 (Nat.le_refl _))
          have hbb := hb.trans (hb1.mono hz)
          have hz1' := hbb.size
          have hzz := hb1.size
          clear ho1
          go_wp2_with (at_builtin; refine wpList_append_two rfl _ _ 22 rfl w.heap.size 3 i0 (.int .i64 0) 1 8 Tryz.underlying22 hi hz0 hz1 hz2 rfl (by decide) _ _ _ rfl HOL.out _ _ _ _ rfl HO1.out (bts_one _) (by unfold maxLen; omega) (by omega) (by omega) ?_; intro v2 wz hown2 hgrow hat0)
          have hbz := hbb.grown hgrow (by omega) (fun j e => (HOL.out.lt j e).1)
          rw [← bts_append] at hown2
          have HF := Lib.hid hown2
          clear hown2 hgrow
          go_wp2
          go_ret
          exact ⟨⟨_, rfl, by rw [HE.out, List.length_append, List.length_replicate, binL_length]; exact HF.out⟩, hbz⟩
      · obtain rfl : m = q := by omega
        have he := HLT.out (by omega)
        have HE := Lib.hid he
        have i1 : ¬ (20 : Int) ≤ m := by omega
        clear he h1 HLT HGE hge
        go_wp2_with (at_builtin; refine wpList_append_own _ rfl _ _ 22 rfl w.heap.size 3 i0 (.int .i64 0) 1 8 Tryz.underlying22 hi hz0 hz1 hz2 rfl (by decide) _ _ _ rfl (HO.out.alloc _) ⟨wr.heap.size, 0, none⟩ 1 1 [.int .i64 0] rfl rfl (news1 _ _ _) (by simp [Value.oneCell']) (by unfold maxLen; omega) (by omega) (by simp; omega) ?_; intro v1 wz hown1 hgrow _)
        have hbz := (hb.alloc hz (.cells #[.int .i64 0] 3)).grown hgrow (by simp; omega) (fun j e => (HO.out.lt j e).1)
        have HF := Lib.hid hown1
        have hzz := hbz.size
        clear hown1 hgrow
        go_wp2_with fail
        refine (refBinary_any u k _ hu0 hu1 (by omega)).mono ?_
        rintro e w1 ⟨⟨v2, rfl, ho1⟩, hb1⟩
        have HO1 := Lib.hid ho1
        have HOL := Lib.hid (own_below HF.out hb1 (Nat.le_refl _))
        have hbb := hbz.trans (hb1.mono hzz)
        have hz1' := hbb.size
        clear ho1
        go_wp2_with (at_builtin; refine wpList_append_two rfl _ _ 22 rfl w.heap.size 3 i0 (.int .i64 0) 1 8 Tryz.underlying22 hi hz0 hz1 hz2 rfl (by decide) _ _ _ rfl HOL.out _ _ _ _ rfl HO1.out (bts_one _) (by unfold maxLen; omega) (by omega) (by omega) ?_; intro v3 wy hown2 hgrow hat0)
        have hby := hbb.grown hgrow (by omega) (fun j e => (HOL.out.lt j e).1)
        have HG := Lib.hid hown2
        clear hown2 hgrow
        go_wp2
        go_ret
        refine ⟨⟨_, rfl, ?_⟩, hby⟩
        rw [HE.out, List.length_append, List.length_cons, List.length_replicate, binL_length]
        have h9 := HG.out
        rw [show m + 1 + k = m + (k + 1) from by omega, show bts (List.replicate m 1) ++ [Value.int .i64 0] ++ bts (binL u k) = bts (List.replicate m 1 ++ 0 :: binL u k) from by rw [bts_append, List.append_assoc]; rfl] at h9
        exact h9
end Go.Proofs.YtoochleabcjljaaGreatDoor

/- Codes of the chapter: residues. -/
namespace Go.Proofs.YtoochleabcjljaaGreatDoor
open Go.RowKit

theorem diffs_take {ys : List Int} {k : Nat} (hk : k < ys.length) : (diffs ys).take (k + 1) = (diffs ys).take k ++ [if k = 0 then ys.getD 0 0 else ys.getD k 0 - ys.getD (k - 1) 0] := take_get (diffs_get hk)

set_option maxRecDepth 100000 in
set_option maxHeartbeats 1000000 in
theorem refResidues_any (ao : Option Addr) (xs : List Int) (cap : Nat) (o : Nat) : ∀ (w : World) (_ : Cells w ao (xs.map (Value.int .i64))) (_ : xs.length ≤ 4096) (_ : o ≤ 3) (_ : ∀ x ∈ xs, -8388608 ≤ x ∧ x ≤ 8388608),
    Calls Tryz.prog 218 #[.slice ao xs.length cap, .int .i64 (o : Nat)] w fun e w' => (∃ a c, e = .returned (.slice a (resid xs o).length c) ∧ Cells w' a ((resid xs o).map (Value.int .i64)) ∧ (a = ao ∨ ∀ b off, a = some ⟨b, off, none⟩ → w.heap.size ≤ b)) ∧ Below w.heap.size w w' := by
  induction o with
  | zero =>
    intro w hc hl ho hx
    have HC := Lib.hid hc; clear hc hx
    go_enter Tryz.func218, Tryz.ntmps218
    go_wp2
    go_ret
    exact ⟨⟨ao, cap, rfl, HC.out, .inl rfl⟩, Below.refl _ _⟩
  | succ o ih =>
    intro w hc hl ho hx
    have hih := ih w hc hl (by omega) hx
    have hrb := resid_bd hx o (by omega)
    have hrl := resid_length xs o
    have hrs : resid xs (o + 1) = diffs (resid xs o) := rfl
    rw [hrs]
    clear hrs hc hx
    generalize resid xs o = ys at *
    have HIH := Lib.hid hih; have HRB := Lib.hid hrb
    have hyl : ys.length ≤ 4096 := by omega
    have hdl := diffs_length ys
    have HDL := Lib.hid hdl
    clear hih hrb hrl ih hdl
    obtain ⟨i0, hi, hz0, hz1, hz2⟩ := info_parts Tryz.infoInt
    go_enter Tryz.func218, Tryz.ntmps218
    go_wp2_with fail
    refine HIH.out.mono ?_
    rintro e w1 ⟨⟨a, c, rfl, hca, _⟩, hb1⟩
    have HCA := Lib.hid hca
    have hz1' := hb1.size
    clear hca
    have hrf := Below.refl w1.heap.size w1
    go_wp2
    go_loopw [6, 7] (fun v i wr => ∃ k : Nat, k ≤ ys.length ∧ i = .int .i64 k ∧ wr.ownsRow w1.heap.size 3 1 v k (((diffs ys).take k).map (Value.int .i64)) ∧ Below w1.heap.size w1 wr) (fun _ i _ => ys.length - (intOf i).toNat)
    case atStart => exact ⟨0, Nat.zero_le _, rfl, World.ownsRow_nil _ _ _ _, hrf⟩
    case round =>
      clear hrf
      obtain ⟨k, hk, rfl, hown, hbr⟩ := hrel
      have HO := Lib.hid hown; clear hown
      have hz := hbr.size
      by_cases hlt : k < ys.length
      · have hdt := diffs_take hlt
        obtain ⟨x, hx⟩ := get_of_lt hlt
        have hxb := HRB.out x (List.mem_of_getElem? hx)
        obtain ⟨b, off, rfl⟩ := HCA.out.addr (by simpa using List.ne_nil_of_length_pos (by omega))
        have hbl : b < w1.heap.size := by have := World.block_lt_of_cell? w1 _ (HCA.out.int hx); simpa using this
        have c1 := cell_keep (HCA.out.int hx) hbr (Nat.le_refl _)
        obtain ⟨hx1, hx2⟩ := hxb
        rcases Nat.eq_zero_or_pos k with h0 | h0
        · subst h0
          have hst : ((diffs ys).take 1).map (Value.int .i64) = ((diffs ys).take 0).map (Value.int .i64) ++ [.int .i64 x] := by
            rw [hdt, if_pos rfl, List.getD_eq_getElem?_getD, hx, List.map_append]; rfl
          have HST := Lib.hid hst
          rw [Nat.add_zero] at c1
          clear hst hdt hx
          go_wp2_with (at_builtin; refine wpList_append_own _ rfl _ _ 22 rfl w1.heap.size 3 i0 (.int .i64 0) 1 8 Tryz.underlying22 hi hz0 hz1 hz2 rfl (by decide) _ _ _ rfl (HO.out.alloc _) ⟨wr.heap.size, 0, none⟩ 1 1 [.int .i64 x] rfl rfl (news1 _ _ _) (by simp [Value.oneCell']) (by unfold maxLen; omega) (by omega) (by simp; omega) ?_; intro v1 wz hown1 hgrow _)
          have hbz := (hbr.alloc hz (.cells #[.int .i64 x] 3)).grown hgrow (by simp; omega) (fun j e => (HO.out.lt j e).1)
          have hfin : wz.ownsRow w1.heap.size 3 1 v1 (0 + 1) (((diffs ys).take 1).map (Value.int .i64)) := by
            rw [HST.out]; exact hown1
          have HF := Lib.hid hfin
          clear hown1 hgrow hfin
          go_wp2
          go_roundw
          case rel => exact ⟨1, by omega, rfl, HF.out, hbz⟩
          case measure => simp [intOf]; omega
        · obtain ⟨q, rfl⟩ : ∃ q, k = q + 1 := ⟨k - 1, by omega⟩
          obtain ⟨y, hy⟩ := get_of_lt (show q < ys.length by omega)
          have hyb := HRB.out y (List.mem_of_getElem? hy)
          obtain ⟨hy1, hy2⟩ := hyb
          have c2 := cell_keep (HCA.out.int hy) hbr (Nat.le_refl _)
          have hst : ((diffs ys).take (q + 1 + 1)).map (Value.int .i64) = ((diffs ys).take (q + 1)).map (Value.int .i64) ++ [.int .i64 (x - y)] := by
            rw [hdt, if_neg (by omega), List.getD_eq_getElem?_getD, List.getD_eq_getElem?_getD, hx, Nat.add_sub_cancel, hy, List.map_append]; rfl
          have HST := Lib.hid hst
          clear hst hdt hx hy
          have hblr : b < wr.heap.size := by omega
          have hne : (some b : Option Nat) ≠ u6.ownBlock := fun e => by have := (HO.out.lt b e.symm).1; omega
          have j1 : (0 : Int) ≤ (q : Int) + 1 := by omega
          have j2 : (q : Int) + 1 < ys.length := by omega
          have j3 : (q : Int) < ys.length := by omega
          have j4 : (0 : Int) ≤ (q : Int) := by omega
          have q5 : IntKind.i64.wrap ((q : Int) + 1 - 1) = (q : Int) := by rw [IntWalk.i64_in _ (by omega)]; omega
          have q7 : IntKind.i64.wrap (q : Int) = q := IntWalk.i64_in _ (by omega)
          have q6 : IntKind.i64.wrap (x - y) = x - y := IntWalk.i64_in _ (by omega)
          have q3 : (((q : Int) + 1)).toNat = q + 1 := by omega
          go_wp2
          go_region_held3 (fun w' => w'.cell? ⟨b, off + (q + 1), none⟩ = some (.int .i64 x) ∧ w'.cell? ⟨b, off + q, none⟩ = some (.int .i64 y))
            (first | go_keep | (rw [hgrow.cell_far _ (by simp; omega) hne, hgrow.cell_far _ (by simp; omega) hne]; simp [*]))
            ((refine step_append_lies _ (by rfl) _ _ _ (by rfl) w1.heap.size 3 i0 _ 1 8 Tryz.underlying22 hi hz0 hz1 hz2 rfl (by omega) u6 (q + 1) (((diffs ys).take (q + 1)).map (Value.int .i64)) (by rfl) ((HO.out.alloc _).drew) ⟨wr.heap.size, 0, none⟩ 1 1 [.int .i64 (x - y)] (by rfl) (by rfl) (World.news_of_block (cs := #[.int .i64 (x - y)]) (t := 3) (fr := (0, 0)) (heap_alloc_new wr _)) (by simp [Value.oneCell']) (by omega) (by unfold maxLen; omega) (by omega) (by simp; omega) (wr.heap.size + 1) (by simp) ?_; intro gg cp wz hown1 hgrow hat hlt1))
          have hfin : wz.ownsRow w1.heap.size 3 1 (.slice (some ⟨gg, 0, none⟩) (q + 1 + 1) cp) (q + 1 + 1) (((diffs ys).take (q + 1 + 1)).map (Value.int .i64)) := by
            rw [HST.out]; exact hown1
          have hbz := (bel_drewN (hbr.alloc hz (.cells #[.int .i64 (x - y)] 3)) 1).grown hgrow (by simp; omega) (fun j e => (HO.out.lt j e).1)
          have HF := Lib.hid hfin
          clear hown1 hgrow hfin q5 q6 q3 q7
          go_wp2
          go_roundw
          case rel => exact ⟨q + 1 + 1, by omega, by go_num, HF.out, hbz⟩
          case measure => simp [intOf]; omega
      · obtain rfl : k = ys.length := by omega
        have ho : wr.ownsRow w1.heap.size 3 1 u6 ys.length ((diffs ys).map (Value.int .i64)) := by
          have := HO.out
          rwa [List.take_of_length_le (by rw [HDL.out]; omega)] at this
        have hbf := hb1.trans (hbr.mono hb1.size)
        obtain ⟨g, cg, hv, hcs⟩ := own_cells ho
        have hlt2 : ∀ b off, g = some ⟨b, off, none⟩ → w.heap.size ≤ b := fun b off e => by
          subst e; rw [hv] at ho
          have := (ho.lt b (by simp [Value.ownBlock])).1; omega
        subst hv
        have HCS := Lib.hid hcs; have HG := Lib.hid hlt2
        clear ho hcs hlt2 HO
        go_wp2
        go_ret
        exact ⟨⟨g, cg, by rw [HDL.out]; rfl, HCS.out, .inr HG.out⟩, hbf⟩
end Go.Proofs.YtoochleabcjljaaGreatDoor

/- Codes of the chapter: the bits of a channel. -/
namespace Go.Proofs.YtoochleabcjljaaGreatDoor
open Go.RowKit

theorem flat_take {f : Int → List Nat} {l : List Int} {k : Nat} {x : Int} (h : l[k]? = some x) : (l.take (k + 1)).flatMap f = (l.take k).flatMap f ++ f x := by
  rw [take_get h, List.flatMap_append]; simp
theorem flat_take_le (l : List Int) (sh k : Nat) (hs : sh ≤ 30) : ((l.take k).flatMap fun r => encU (foldU r) sh).length ≤ 52 * l.length := by
  have := flat_length (l.take k) sh hs
  rw [List.length_take] at this; omega

theorem Cells.grown {w w' : World} {row : Option Nat} {ao : Option Addr} {cs : List Value} (h : Cells w ao cs) (hg : w.grownBy w' row) (hne : ∀ b off, ao = some ⟨b, off, none⟩ → cs ≠ [] → some b ≠ row) : Cells w' ao cs := by
  rcases h with h | ⟨b, off, rfl, h2⟩
  · exact .inl h
  · refine .inr ⟨b, off, rfl, fun j u hu => ?_⟩
    have h3 := h2 j u hu
    have h4 := World.block_lt_of_cell? w _ h3
    rw [hg.cell_far _ h4 (hne b off rfl (by rintro rfl; simp at hu))]
    exact h3
theorem Cells.blk_lt {w : World} {ao : Option Addr} {cs : List Value} (h : Cells w ao cs) (hne : cs ≠ []) {b off : Nat} (ha : ao = some ⟨b, off, none⟩) : b < w.heap.size := by
  subst ha
  obtain ⟨r, hr⟩ := get_of_lt (List.length_pos_iff.2 hne)
  exact World.block_lt_of_cell? w _ (h.at (j := 0) hr)

set_option maxRecDepth 100000 in
set_option maxHeartbeats 1000000 in
theorem refWith_any (ao : Option Addr) (xs : List Int) (cap : Nat) (o sh : Nat) (w : World) (hc : Cells w ao (xs.map (Value.int .i64))) (hl : xs.length ≤ 4096) (ho : o ≤ 3) (hs : sh ≤ 30) (hx : ∀ x ∈ xs, -8388608 ≤ x ∧ x ≤ 8388608) :
    Calls Tryz.prog 179 #[.slice ao xs.length cap, .int .i64 (o : Nat), .int .i64 (sh : Nat)] w fun e w' => (∃ v, e = .returned v ∧ w'.ownsRow w.heap.size 3 1 v (encL o sh (resid xs o)).length (bts (encL o sh (resid xs o)))) ∧ Below w.heap.size w w' := by
  obtain ⟨i0, hi, hz0, hz1, hz2⟩ := info_parts Tryz.infoInt
  have hrb := resid_bd hx o ho
  have hrl := resid_length xs o
  have HC := Lib.hid hc; have HX := Lib.hid hx
  have hR := fun wx h => refResidues_any ao xs cap o wx h hl ho hx
  have HR := Lib.hid hR
  clear hc hx hR
  have hN : (encL o sh (resid xs o)) = (binL o 2 ++ binL sh 5) ++ (resid xs o).flatMap fun r => encU (foldU r) sh := by rw [encL]
  rw [hN]
  clear hN
  generalize resid xs o = ys at *
  have HRB := Lib.hid hrb
  have hyl : ys.length ≤ 4096 := by omega
  have hft := flat_take_le ys sh
  have HFT := Lib.hid hft
  have HRL := Lib.hid hrl
  clear hrb hrl hft
  obtain ⟨hd, hhd⟩ : ∃ hd, hd = binL o 2 ++ binL sh 5 := ⟨_, rfl⟩
  have hhl : hd.length = 2 + 5 := by rw [hhd, List.length_append, binL_length, binL_length]
  rw [← hhd]
  have HHD := Lib.hid hhd; have HHL := Lib.hid hhl
  clear hhd hhl
  go_enter Tryz.func179, Tryz.ntmps179
  go_wp2_with fail
  refine (refBinary_any (o : Nat) 2 _ (by omega) (by omega) (by omega)).mono ?_
  rintro e w1 ⟨⟨v1, rfl, ho1⟩, hb1⟩
  have hz1' := hb1.size
  have HO1 := Lib.hid ho1
  clear ho1
  go_wp2_with fail
  refine (refBinary_any (sh : Nat) 5 _ (by omega) (by omega) (by omega)).mono ?_
  rintro e w2 ⟨⟨v2, rfl, ho2⟩, hb2⟩
  have hbb := hb1.trans (hb2.mono hb1.size)
  have hz2' := hb2.size
  have HO2 := Lib.hid ho2
  have HO3 := Lib.hid (own_below HO1.out hb2 (Nat.le_refl _))
  clear ho2 hb1 hb2
  go_wp2_with (at_builtin; refine wpList_append_two rfl _ _ 22 rfl w.heap.size 3 i0 (.int .i64 0) 1 8 Tryz.underlying22 hi hz0 hz1 hz2 rfl (by decide) _ _ _ rfl HO3.out _ _ _ _ rfl HO2.out (bts_one _) (by unfold maxLen; omega) (by omega) (by omega) ?_; intro v3 w3 hown3 hgrow _)
  have hb3 := hbb.grown hgrow (by omega) (fun j e => (HO3.out.lt j e).1)
  have ho3 : w3.ownsRow w.heap.size 3 1 v3 (2 + 5) (bts hd) := by rw [HHD.out, bts_append]; exact hown3
  have HO4 := Lib.hid ho3
  clear hown3 hgrow ho3 hbb
  go_wp2_with fail
  refine (HR.out w3 (HC.out.below hb3 (Nat.le_refl _))).mono ?_
  rintro e w4 ⟨⟨a4, c4, rfl, hc4, ha4⟩, hb4⟩
  have hb5 := hb3.trans (hb4.mono hb3.size)
  have HO5 := Lib.hid (own_below HO4.out hb4 (Nat.le_refl _))
  have HC4 := Lib.hid hc4
  have hne0 : ∀ b off, a4 = some ⟨b, off, none⟩ → ys.map (Value.int .i64) ≠ [] → v3.ownBlock ≠ some b ∧ b < w4.heap.size := by
    intro b off e hnil
    have h4 := hc4.blk_lt hnil e
    refine ⟨fun hv => ?_, h4⟩
    have hl3 := HO4.out.lt b hv
    rcases ha4 with h | h
    · have hxn : xs.map (Value.int .i64) ≠ [] := by
        have h1 := HRL.out
        intro h2
        have h3 := congrArg List.length h2
        simp at h3
        rw [h3] at h1; simp at h1; exact hnil (by rw [h1]; rfl)
      have := HC.out.blk_lt hxn (h ▸ e)
      omega
    · have := h b off e; omega
  have HNE := Lib.hid hne0
  have hz4 := hb5.size
  clear hc4 ha4 hne0 hb3 hb4
  go_wp2
  go_loopw [7, 9] (fun v i wr => ∃ k : Nat, k ≤ ys.length ∧ i = .int .i64 k ∧ wr.ownsRow w.heap.size 3 1 v (hd ++ (ys.take k).flatMap fun r => encU (foldU r) sh).length (bts (hd ++ (ys.take k).flatMap fun r => encU (foldU r) sh)) ∧ (∀ b off, a4 = some ⟨b, off, none⟩ → ys.map (Value.int .i64) ≠ [] → v.ownBlock ≠ some b) ∧ Cells wr a4 (ys.map (Value.int .i64)) ∧ Below w.heap.size w wr ∧ w4.heap.size ≤ wr.heap.size) (fun _ i _ => ys.length - (intOf i).toNat)
  case atStart => exact ⟨0, Nat.zero_le _, rfl, by simpa [HHL.out] using HO5.out, fun b off e hn => (HNE.out b off e hn).1, HC4.out, hb5, Nat.le_refl _⟩
  case round =>
    clear hb5 hz4
    obtain ⟨k, hk, rfl, hown, hnb, hcl, hbr, hz⟩ := hrel
    have hle := HFT.out k hs
    have hlen : (hd ++ (ys.take k).flatMap fun r => encU (foldU r) sh).length ≤ 7 + 52 * ys.length := by rw [List.length_append, HHL.out]; omega
    have HO := Lib.hid hown; have HNB := Lib.hid hnb; have HCL := Lib.hid hcl
    have hzw := hbr.size
    by_cases hlt : k < ys.length
    · obtain ⟨x, hx⟩ := get_of_lt hlt
      obtain ⟨b4, o4, rfl⟩ := hcl.addr (by simpa using List.ne_nil_of_length_pos (by omega))
      have c1 := hcl.int hx
      have t1 := HRB.out x (List.mem_of_getElem? hx)
      obtain ⟨t11, t12⟩ := t1
      obtain ⟨f1, f2⟩ := foldU_bd t11 t12
      have hft := flat_take (f := fun r => encU (foldU r) sh) hx
      have hul := encU_length (foldU x) sh hs
      have HF := Lib.hid hft
      have i1 : (k : Int) < ys.length := by omega
      have i2 : (0 : Int) ≤ k := by omega
      clear hown hnb hcl hft hx
      go_wp2_with fail
      refine (refFolded_any x _ (by omega) (by omega)).mono ?_
      rintro e w' ⟨rfl, rfl⟩
      go_wp2_with fail
      refine (refUnary_any (foldU x) sh _ (by omega) (by omega) hs).mono ?_
      rintro e w5 ⟨⟨v5, rfl, ho5⟩, hb5⟩
      have hbb := hbr.trans (hb5.mono hzw)
      have HO6 := Lib.hid ho5
      have HO7 := Lib.hid (own_below HO.out hb5 (Nat.le_refl _))
      have hzz := hbb.size
      have h5z := hb5.size
      have HCL5 := Lib.hid (HCL.out.below hb5 (Nat.le_refl _))
      clear ho5 hb5
      generalize hcs : (hd ++ (ys.take k).flatMap fun r => encU (foldU r) sh) = cs at *
      have HCS := Lib.hid hcs
      clear hcs
      go_wp2_with (at_builtin; refine wpList_append_two rfl _ _ 22 rfl w.heap.size 3 i0 (.int .i64 0) 1 8 Tryz.underlying22 hi hz0 hz1 hz2 rfl (by decide) _ _ _ rfl HO7.out _ _ _ _ rfl HO6.out (bts_one _) (by unfold maxLen; omega) (by omega) (by omega) ?_; intro v6 w6 hown6 hgrow hat)
      have hb6 := hbb.grown hgrow (by omega) (fun j e => (HO7.out.lt j e).1)
      have hst : (hd ++ (ys.take (k + 1)).flatMap fun r => encU (foldU r) sh) = cs ++ encU (foldU x) sh := by rw [HF.out, ← List.append_assoc, HCS.out]
      have ho6 : w6.ownsRow w.heap.size 3 1 v6 (hd ++ (ys.take (k + 1)).flatMap fun r => encU (foldU r) sh).length (bts (hd ++ (ys.take (k + 1)).flatMap fun r => encU (foldU r) sh)) := by
        rw [hst, List.length_append, bts_append]; exact hown6
      have hcl6 : Cells w6 (some ⟨b4, o4, none⟩) (ys.map (Value.int .i64)) := HCL5.out.grown hgrow fun b off e hn => by
        have := HNB.out b off e hn
        exact fun h => this h.symm
      have hnb6 : ∀ b off, some (⟨b4, o4, none⟩ : Addr) = some ⟨b, off, none⟩ → ys.map (Value.int .i64) ≠ [] → v6.ownBlock ≠ some b := by
        intro b off e hn hv
        rcases hat with h | h
        · exact HNB.out b off e hn (h ▸ hv)
        · rw [h] at hv
          have := (HNE.out b off e hn).2
          simp at hv; omega
      have h6z := hgrow.size
      have HQ1 := Lib.hid ho6; have HQ2 := Lib.hid hcl6; have HQ3 := Lib.hid hnb6
      clear hown6 hgrow hat hst ho6 hcl6 hnb6
      go_wp2
      go_roundw
      case rel => exact ⟨k + 1, by omega, by go_num, HQ1.out, HQ3.out, HQ2.out, hb6, by omega⟩
      case measure => simp [intOf]; omega
    · obtain rfl : k = ys.length := by omega
      rw [List.take_length] at HO
      clear hown hnb hcl hlen hle
      go_wp2
      go_ret
      exact ⟨⟨_, rfl, HO.out⟩, hbr⟩

set_option maxRecDepth 100000 in
set_option maxHeartbeats 1000000 in
theorem refChannel_any (ao : Option Addr) (xs : List Int) (cap : Nat) (w : World) (hc : Cells w ao (xs.map (Value.int .i64))) (hl : xs.length ≤ 4096) (hx : ∀ x ∈ xs, -8388608 ≤ x ∧ x ≤ 8388608) :
    Calls Tryz.prog 126 #[.slice ao xs.length cap] w fun e w' => (∃ v, e = .returned v ∧ w'.ownsRow w.heap.size 3 1 v (encC xs).length (bts (encC xs))) ∧ Below w.heap.size w w' := by
  have HC := Lib.hid hc
  have hW := fun (o s : Nat) (wx : World) h1 h2 h3 => refWith_any ao xs cap o s wx h1 hl h2 h3 hx
  have HW := Lib.hid hW
  have HX := Lib.hid hx
  have HLE := Lib.hid (fun k => encK_le xs k)
  clear hc hW hx
  go_enter Tryz.func126, Tryz.ntmps126
  go_wp2_with fail
  refine (HW.out 0 0 w HC.out (by omega) (by omega)).mono ?_
  rintro e w1 ⟨⟨v1, rfl, ho1⟩, hb1⟩
  rw [show encL 0 0 (resid xs 0) = encK xs (31 * 0) from rfl] at ho1
  have HO1 := Lib.hid ho1
  clear ho1
  go_wp2
  go_loopw [3, 4] (fun v o wr => ∃ k : Nat, k ≤ 4 ∧ o = .int .i64 k ∧ wr.ownsRow w.heap.size 3 1 v (encK xs (31 * k)).length (bts (encK xs (31 * k))) ∧ Below w.heap.size w wr) (fun _ o _ => 4 - (intOf o).toNat)
  case atStart => exact ⟨0, Nat.zero_le _, rfl, HO1.out, hb1⟩
  case round =>
    clear hb1 HO1
    obtain ⟨k, hk, rfl, hown, hbr⟩ := hrel
    obtain ⟨wo, rfl⟩ : ∃ wo : World, wo = wr := ⟨_, rfl⟩
    have HO := Lib.hid hown; clear hown
    by_cases hlt : k < 4
    · have i1 : (k : Int) ≤ 3 := by omega
      go_wp2
      go_loopw [3, 5] (fun v s wi => ∃ j : Nat, j ≤ 31 ∧ s = .int .i64 j ∧ wi.ownsRow w.heap.size 3 1 v (encK xs (31 * k + j)).length (bts (encK xs (31 * k + j))) ∧ Below w.heap.size w wi) (fun _ s _ => 31 - (intOf s).toNat)
      case atStart => exact ⟨0, Nat.zero_le _, rfl, HO.out, hbr⟩
      case round =>
        clear hbr HO
        obtain ⟨j, hj, rfl, hown, hbi⟩ := hrel
        have HO := Lib.hid hown; clear hown
        have hzi := hbi.size
        by_cases hlt2 : j < 31
        · have j1 : (j : Int) ≤ 30 := by omega
          go_wp2_with fail
          refine (HW.out k j wr (HC.out.below hbi (Nat.le_refl _)) (by omega) (by omega)).mono ?_
          rintro e w2 ⟨⟨v2, rfl, ho2⟩, hb2⟩
          have hbz := hbi.trans (hb2.mono hzi)
          have HOL := Lib.hid (own_below HO.out hb2 (Nat.le_refl _))
          have ho2' := own_base ho2 hzi
          have HO2 := Lib.hid ho2'
          obtain ⟨g2, c2, hv2, _⟩ := own_cells ho2'
          obtain ⟨g3, c3, hv3, _⟩ := own_cells HOL.out
          have hle1 := HLE.out (31 * k + j)
          by_cases hlen : (encL k j (resid xs k)).length < (encK xs (31 * k + j)).length
          · have hst := encK_lt xs hlt hlt2 hlen
            have HST := Lib.hid hst
            rw [← hst] at HO2
            have hlI : (((encL k j (resid xs k)).length : Nat) : Int) < ((encK xs (31 * k + j)).length : Nat) := by omega
            subst hv2 hv3
            clear ho2 ho2' hst hb2
            go_wp2
            go_roundw
            case rel => exact ⟨j + 1, by omega, by go_num, HO2.out, hbz⟩
            case measure => simp [intOf]; omega
          · have hst := encK_ge xs hlt hlt2 hlen
            have HST := Lib.hid hst
            rw [← hst] at HOL
            have hlI : ¬ (((encL k j (resid xs k)).length : Nat) : Int) < ((encK xs (31 * k + j)).length : Nat) := by omega
            rw [hst] at HOL
            subst hv2 hv3
            clear ho2 ho2' hb2
            go_wp2
            go_roundw
            case rel => exact ⟨j + 1, by omega, by go_num, by rw [← Nat.add_assoc, HST.out]; exact HOL.out, hbz⟩
            case measure => simp [intOf]; omega
        · obtain rfl : j = 31 := by omega
          have hee : 31 * k + 31 = 31 * (k + 1) := by omega
          rw [hee] at HO
          go_wp2
          go_roundw
          case rel => exact ⟨k + 1, by omega, by go_num, HO.out, hbi⟩
          case measure => simp [intOf]; omega
    · obtain rfl : k = 4 := by omega
      rw [show 31 * 4 = 124 from rfl, encK_all] at HO
      go_wp2
      go_ret
      exact ⟨⟨_, rfl, HO.out⟩, hbr⟩
end Go.Proofs.YtoochleabcjljaaGreatDoor

/- Codes of the chapter: bytes. -/
namespace Go.Proofs.YtoochleabcjljaaGreatDoor
open Go.RowKit

theorem bys_one (l : List Nat) : ∀ u ∈ bys l, u.oneCell' = true := by
  intro u hu; obtain ⟨d, _, rfl⟩ := List.mem_map.1 hu; rfl

set_option maxRecDepth 100000 in
set_option maxHeartbeats 1000000 in
theorem refOctets_any (ao : Option Addr) (l : List Nat) (cap : Nat) (w : World) (hc : Cells w ao (bts l)) (hb : ∀ b ∈ l, b ≤ 1) (hl : l.length ≤ 1099511627776) :
    Calls Tryz.prog 128 #[.slice ao l.length cap] w fun e w' => (∃ v, e = .returned v ∧ w'.ownsRow w.heap.size 5 1 v (octs l).length (bys (octs l))) ∧ Below w.heap.size w w' := by
  obtain ⟨i0, hi, hz0, hz1, hz2⟩ := info_parts Tryz.infoByte
  have HC := Lib.hid hc; have HB := Lib.hid hb
  clear hc hb
  go_enter Tryz.func128, Tryz.ntmps128
  go_wp2
  go_loopw [3, 4] (fun v i wr => ∃ m : Nat, m ≤ l.length + 7 ∧ i = .int .i64 m ∧ m % 8 = 0 ∧ wr.ownsRow w.heap.size 5 1 v (octs (l.take m)).length (bys (octs (l.take m))) ∧ Below w.heap.size w wr) (fun _ i _ => l.length + 8 - (intOf i).toNat)
  case atStart => exact ⟨0, Nat.zero_le _, rfl, rfl, World.ownsRow_nil _ _ _ _, Below.refl _ _⟩
  case round =>
    obtain ⟨m, hm, rfl, hm8, hown, hbr⟩ := hrel
    have HO := Lib.hid hown; clear hown
    have hz := hbr.size
    have hol := octs_len (l.take m)
    rw [List.length_take] at hol
    have hol2 : (octs (l.take m)).length ≤ 1099511627783 := by omega
    have HOL := Lib.hid hol
    clear hol
    by_cases hlt : m < l.length
    · have hst := octs_take hlt hm8
      have hp8 := padP_lt (b := l.drop m) (fun x hx => HB.out x (List.mem_of_mem_drop hx)) 8
      have HST := Lib.hid hst; have HP8 := Lib.hid hp8
      have i1 : (m : Int) < l.length := by omega
      clear hst hp8
      go_wp2
      go_loop [5, 6] (fun nv kv => ∃ j : Nat, j ≤ 8 ∧ kv = .int .i64 ((m + j : Nat) : Int) ∧ nv = .int .i64 (padP (l.drop m) j : Nat)) (fun _ kv => m + 8 - (intOf kv).toNat)
      case atStart => exact ⟨0, Nat.zero_le _, rfl, rfl⟩
      case round =>
        obtain ⟨j, hj, rfl, rfl⟩ := hrel
        have hpj := padP_lt (b := l.drop m) (fun x hx => HB.out x (List.mem_of_mem_drop hx)) j
        have hp2 : (2 : Nat) ^ j ≤ 2 ^ 8 := Nat.pow_le_pow_right (by decide) hj
        have hps : padP (l.drop m) (j + 1) = 2 * padP (l.drop m) j + (l.drop m).getD j 0 := rfl
        have h28 : (2 : Nat) ^ 8 = 256 := by decide
        have hpb : padP (l.drop m) j < 256 := by omega
        have HPS := Lib.hid hps
        have em : ((m + j : Nat) : Int) = (m : Int) + j := by omega
        rw [em]
        clear hpj hp2 hps h28 em
        by_cases hj8 : j < 8
        · have j1 : (m : Int) + j < (m : Int) + 8 := by omega
          by_cases hin : m + j < l.length
          · obtain ⟨b, hb⟩ := get_of_lt hin
            have hb1 := HB.out b (List.mem_of_getElem? hb)
            obtain ⟨bb, ob, rfl⟩ := HC.out.addr (bts_ne (by omega))
            have c1 := cell_keep (HC.out.at (bts_get hb)) hbr (Nat.le_refl _)
            have hg : (l.drop m).getD j 0 = b := by rw [List.getD_eq_getElem?_getD, List.getElem?_drop, hb]; rfl
            rw [hg] at HPS
            have j2 : (m : Int) + j < l.length := by omega
            have j3 : (0 : Int) ≤ (m : Int) + j := by omega
            have j4 : ((m : Int) + j).toNat = m + j := by omega
            clear hb hg
            generalize padP (l.drop m) j = p at *
            go_wp2
            go_round
            case rel => exact ⟨j + 1, by omega, by go_num, by rw [HPS.out]; go_num⟩
            case measure => simp [intOf]; omega
          · have hg : (l.drop m).getD j 0 = 0 := by rw [List.getD_eq_getElem?_getD, List.getElem?_drop, List.getElem?_eq_none (by omega)]; rfl
            rw [hg] at HPS
            have j2 : ¬ (m : Int) + j < l.length := by omega
            clear hg
            generalize padP (l.drop m) j = p at *
            go_wp2
            go_round
            case rel => exact ⟨j + 1, by omega, by go_num, by rw [HPS.out]; go_num⟩
            case measure => simp [intOf]; omega
        · obtain rfl : j = 8 := by omega
          clear HPS
          generalize hp : padP (l.drop m) 8 = p at *
          have hcv : IntKind.u8.wrap (p : Int) = (p : Int) := IntWalk.u8_in _ (by omega)
          clear hp HP8
          have j1 : ¬ (m : Int) + 8 < (m : Int) + 8 := by omega
          go_wp2_with (at_builtin; refine wpList_append_own _ rfl _ _ 48 rfl w.heap.size 5 i0 (.int .u8 0) 1 1 Tryz.underlying48 hi hz0 hz1 hz2 rfl (by decide) _ _ _ rfl (HO.out.alloc _) ⟨wr.heap.size, 0, none⟩ 1 1 [.int .u8 (p : Nat)] rfl rfl (news1 _ _ _) (by simp [Value.oneCell']) (by unfold maxLen; omega) (by omega) (by simp; omega) ?_; intro v1 wz hown1 hgrow _)
          have hbz := (hbr.alloc hz (.cells #[.int .u8 (p : Nat)] 5)).grown hgrow (by simp; omega) (fun j e => (HO.out.lt j e).1)
          have hfin : wz.ownsRow w.heap.size 5 1 v1 (octs (l.take (m + 8))).length (bys (octs (l.take (m + 8)))) := by
            rw [HST.out, List.length_append, bys_append]; exact hown1
          have HF := Lib.hid hfin
          clear hown1 hgrow hfin hcv
          go_wp2
          go_roundw
          case rel => exact ⟨m + 8, by omega, by go_num, by omega, HF.out, hbz⟩
          case measure => simp [intOf]; omega
    · have ho := HO.out
      rw [List.take_of_length_le (by omega)] at ho
      have HF := Lib.hid ho
      have i1 : ¬ (m : Int) < l.length := by omega
      clear ho
      go_wp2
      go_ret
      exact ⟨⟨_, rfl, HF.out⟩, hbr⟩

set_option maxRecDepth 100000 in
theorem refLarge_any (n : Int) (k : Nat) (w : World) (hn0 : 0 ≤ n) (hn1 : n ≤ 4294967295) (hk : k ≤ 4) :
    Calls Tryz.prog 127 #[.int .i64 n, .int .i64 (k : Nat)] w fun e w' => (∃ v, e = .returned v ∧ w'.ownsRow w.heap.size 5 1 v (octs (binL n (8 * k))).length (bys (octs (binL n (8 * k))))) ∧ Below w.heap.size w w' := by
  have h8 : ((8 * k : Nat) : Int) = 8 * (k : Int) := by omega
  have hbn := fun W => refBinary_any n (8 * k) W hn0 hn1 (by omega)
  rw [h8] at hbn
  have HBN := Lib.hid hbn
  have hlen : (binL n (8 * k)).length = 8 * k := binL_length _ _
  have HLEN := Lib.hid hlen
  have hbits := binL_bits n (8 * k)
  have HBT := Lib.hid hbits
  clear hbn hlen hbits h8
  go_enter Tryz.func127, Tryz.ntmps127
  go_wp2_with fail
  refine (HBN.out _).mono ?_
  rintro e w1 ⟨⟨v1, rfl, ho1⟩, hb1⟩
  obtain ⟨a1, c1, rfl, hc1⟩ := own_cells ho1
  have hoc := refOctets_any a1 (binL n (8 * k)) c1 w1 hc1 HBT.out (by rw [HLEN.out]; omega)
  rw [HLEN.out] at hoc
  have HOC := Lib.hid hoc
  have hz := hb1.size
  clear ho1 hc1 hoc
  go_wp2_with fail
  refine HOC.out.mono ?_
  rintro e w2 ⟨⟨v2, rfl, ho2⟩, hb2⟩
  have HO2 := Lib.hid (own_base ho2 hz)
  have hbf := hb1.trans (hb2.mono hz)
  clear ho2
  go_wp2
  go_ret
  exact ⟨⟨_, rfl, HO2.out⟩, hbf⟩

theorem refCheckSum_any (ao : Option Addr) (l : List Nat) (cap : Nat) (w : World) (hc : Cells w ao (bys l)) (hb : ∀ d ∈ l, d < 256) (hl : l.length ≤ 9223372036854775807) :
    Calls Tryz.prog 129 #[.slice ao l.length cap] w fun e w' => e = .returned (.int .i64 (chkL l : Nat)) ∧ w = w' := by
  have HC := Lib.hid hc; have HB := Lib.hid hb
  clear hc hb
  go_enter Tryz.func129, Tryz.ntmps129
  go_wp2
  go_loop [3, 4] (fun c i => ∃ k : Nat, k ≤ l.length ∧ i = .int .i64 k ∧ c = .int .i64 (chkL (l.take k) : Nat)) (fun _ i => l.length - (intOf i).toNat)
  case atStart => exact ⟨0, Nat.zero_le _, rfl, rfl⟩
  case round =>
    obtain ⟨k, hk, rfl, rfl⟩ := hrel
    by_cases hlt : k < l.length
    · obtain ⟨d, hd⟩ := get_of_lt hlt
      obtain ⟨b, off, rfl⟩ := HC.out.addr (bys_ne (by omega))
      have c1 := HC.out.at (bys_get hd)
      have hd1 := HB.out d (List.mem_of_getElem? hd)
      have hcl := chkL_lt (l.take k)
      have hst : chkL (l.take (k + 1)) = (chkL (l.take k) * 257 + d + 1) % 16777213 := by rw [take_get hd, chkL_snoc]
      have HST := Lib.hid hst
      clear hst hd
      generalize chkL (l.take k) = c at *
      have e1 : ((c : Int) * 257 + d + 1) % 16777213 = (((c * 257 + d + 1) % 16777213 : Nat) : Int) := by simp
      have E1 := Lib.hid e1
      clear e1
      go_wp2
      go_round
      case rel => exact ⟨k + 1, by omega, by go_num, by rw [HST.out, E1.out]⟩
      case measure => simp [intOf]; omega
    · obtain rfl : k = l.length := by omega
      rw [List.take_length]
      go_wp2
      go_ret
      exact ⟨rfl, rfl⟩
end Go.Proofs.YtoochleabcjljaaGreatDoor

/- Codes of the chapter: the code of a frame. -/
namespace Go.Proofs.YtoochleabcjljaaGreatDoor
open Go.RowKit

theorem own_lit (w : World) (cs : List Value) (T : TypeId) (b : Nat) (hb : b ≤ w.heap.size) (hl : cs.length ≤ 1000000) : (w.alloc (.cells cs.toArray T)).ownsRow b T 1 (.slice (some ⟨w.heap.size, 0, none⟩) cs.length cs.length) cs.length cs :=
  ⟨by omega, .inr ⟨w.heap.size, cs.length, cs.toArray, rfl, hb, World.alloc_heap_new w _, Nat.le_refl _, by unfold maxLen; omega, by simp, by simp⟩⟩
theorem encB_eq (st : Int) (xss : List (List Int)) : octs (binL st 32) ++ octs (xss.flatMap encC) = octs (frBits st xss) := by
  rw [frBits, octs_append _ (by rw [binL_length])]
theorem octs_bd (l : List Nat) : (octs l).length ≤ l.length + 7 := by rw [octs_len]; omega
theorem flat_bits (xss : List (List Int)) : ∀ b ∈ xss.flatMap encC, b ≤ 1 := fun b hb => frBits_bits 0 xss b (List.mem_append_right _ hb)

set_option maxRecDepth 100000 in
set_option maxHeartbeats 2000000 in
theorem refCode_any (st : Int) (asm : Option Addr) (vs : List Value) (xss : List (List Int)) (cs : Nat) (w : World) (hs : Cells w asm vs) (hr : RowsV w vs xss) (hl : xss.length ≤ 16) (h0 : 0 ≤ st) (h1 : st ≤ 1073741824) (hxl : ∀ xs ∈ xss, xs.length ≤ 64) (hxb : ∀ xs ∈ xss, ∀ x ∈ xs, -8388608 ≤ x ∧ x ≤ 8388608) :
    Calls Tryz.prog 76 #[.agg #[.int .i64 st, .slice asm xss.length cs]] w fun e w' => (∃ v, e = .returned v ∧ w'.ownsRow w.heap.size 5 1 v (encB st xss).length (bys (encB st xss))) ∧ Below w.heap.size w w' := by
  obtain ⟨i0, hi, hz0, hz1, hz2⟩ := info_parts Tryz.infoInt
  obtain ⟨j0, hj, hy0, hy1, hy2⟩ := info_parts Tryz.infoByte
  have hb0 := (Below.refl w.heap.size w).alloc (Nat.le_refl _) (.cells #[.int .i64 st, .slice asm xss.length cs] 43)
  have HS := Lib.hid (hs.below hb0 (Nat.le_refl _)); have HR := Lib.hid (hr.below hb0 (Nat.le_refl _)); have HXL := Lib.hid hxl; have HXB := Lib.hid hxb
  have q0 : (w.alloc (.cells #[.int .i64 st, .slice asm xss.length cs] 43)).cell? ⟨w.heap.size, 0, none⟩ = some (.int .i64 st) := by simp
  have q1 : (w.alloc (.cells #[.int .i64 st, .slice asm xss.length cs] 43)).cell? ⟨w.heap.size, 1, none⟩ = some (.slice asm xss.length cs) := by simp
  have hvl := hr.1
  have HB0 := Lib.hid hb0; have HQ0 := Lib.hid q0; have HQ1 := Lib.hid q1
  clear hs hr hxl hxb hb0 q0 q1
  obtain ⟨eb, heb⟩ : ∃ eb, eb = encB st xss := ⟨_, rfl⟩
  have hen : eb = hdB (octs (frBits st xss)) ++ octs (binL (chkL (hdB (octs (frBits st xss))) : Nat) 24) := heb
  rw [← heb]
  have HEN := Lib.hid hen
  clear heb hen
  go_enter Tryz.func76, Tryz.ntmps76
  go_wp2_with fail
  generalize (w.alloc (.cells #[.int .i64 st, .slice asm xss.length cs] 43)) = W at *
  have hWz := HB0.out.size
  go_loopw [3, 4] (fun v i wr => ∃ k : Nat, k ≤ xss.length ∧ i = .int .i64 k ∧ wr.ownsRow W.heap.size 3 1 v ((xss.take k).flatMap encC).length (bts ((xss.take k).flatMap encC)) ∧ Below W.heap.size W wr) (fun _ i _ => xss.length - (intOf i).toNat)
  case atStart => exact ⟨0, Nat.zero_le _, rfl, World.ownsRow_nil _ _ _ _, Below.refl _ _⟩
  case round =>
    obtain ⟨k, hk, rfl, hown, hbr⟩ := hrel
    have HO := Lib.hid hown; clear hown
    have hz := hbr.size
    have hfl := flat_encC (xss.take k) 64 (fun xs hx => HXL.out xs (List.mem_of_mem_take hx))
    have hfl2 : ((xss.take k).flatMap encC).length ≤ 53360 := by
      have : (xss.take k).length ≤ 16 := by rw [List.length_take]; omega
      omega
    clear hfl
    have c1 := cell_keep HQ1.out hbr (Nat.le_refl _)
    have c0 := cell_keep HQ0.out hbr (Nat.le_refl _)
    by_cases hlt : k < xss.length
    · obtain ⟨xs, hx⟩ := get_of_lt hlt
      obtain ⟨v, hv⟩ := get_of_lt (show k < vs.length by omega)
      obtain ⟨ax, cx, rfl, hax, _⟩ := HR.out.2 k v xs hv hx
      obtain ⟨ba, oa, rfl⟩ := HS.out.addr (List.ne_nil_of_length_pos (by omega))
      have c2 := cell_keep (HS.out.at hv) hbr (Nat.le_refl _)
      have hm := List.mem_of_getElem? hx
      have hx64 := HXL.out xs hm
      have hch := fun wx h => refChannel_any ax xs cx wx h (by omega) (HXB.out xs hm)
      have HCH := Lib.hid hch
      have HAX := Lib.hid (hax.below hbr (Nat.le_refl _))
      have hst : (xss.take (k + 1)).flatMap encC = (xss.take k).flatMap encC ++ encC xs := by rw [take_get hx, List.flatMap_append]; simp
      have hcl := encC_length xs
      have HST := Lib.hid hst
      have i1 : (k : Int) < xss.length := by omega
      have i2 : (0 : Int) ≤ k := by omega
      clear hch hax hst hv hx hm
      generalize (xss.take k).flatMap encC = cs' at *
      go_wp2_with fail
      refine (HCH.out wr HAX.out).mono ?_
      rintro e w1 ⟨⟨v1, rfl, ho1⟩, hb1⟩
      have HO1 := Lib.hid ho1
      have HOL := Lib.hid (own_below HO.out hb1 (Nat.le_refl _))
      have hbb := hbr.trans (hb1.mono hz)
      have hzz := hbb.size
      clear ho1 hb1
      go_wp2_with (at_builtin; refine wpList_append_two rfl _ _ 22 rfl W.heap.size 3 i0 (.int .i64 0) 1 8 Tryz.underlying22 hi hz0 hz1 hz2 rfl (by decide) _ _ _ rfl HOL.out _ _ _ _ rfl HO1.out (bts_one _) (by unfold maxLen; omega) (by omega) (by omega) ?_; intro v2 wz hown2 hgrow _)
      have hbz := hbb.grown hgrow (by omega) (fun j e => (HOL.out.lt j e).1)
      have hfin : wz.ownsRow W.heap.size 3 1 v2 ((xss.take (k + 1)).flatMap encC).length (bts ((xss.take (k + 1)).flatMap encC)) := by
        rw [HST.out, List.length_append, bts_append]; exact hown2
      have HF := Lib.hid hfin
      clear hown2 hgrow hfin
      go_wp2
      go_roundw
      case rel => exact ⟨k + 1, by omega, by go_num, HF.out, hbz⟩
      case measure => simp [intOf]; omega
    · obtain rfl : k = xss.length := by omega
      rw [List.take_length] at HO hfl2
      have i1 : ¬ (xss.length : Int) < xss.length := by omega
      have hbody : (octs (frBits st xss)).length ≤ 6700 := by
        rw [octs_len, frBits, List.length_append, binL_length]; omega
      have hfb := encB_eq st xss
      have hfbb := flat_bits xss
      have hbok := (octs_ok (frBits st xss) (frBits_bits st xss)).1
      have hHd : hdB (octs (frBits st xss)) = [165, 90] ++ octs (binL ((octs (frBits st xss)).length : Nat) 16) ++ octs (frBits st xss) := rfl
      have HFB := Lib.hid hfb; have HFBB := Lib.hid hfbb; have HBOK := Lib.hid hbok; have HHD := Lib.hid hHd
      have hl32 : (octs (binL st 32)).length = 4 := by rw [octs_len, binL_length]
      have HL32 := Lib.hid hl32
      clear hfb hfbb hbok hHd hl32 HR
      generalize hbd : octs (frBits st xss) = body at *
      generalize hfm : xss.flatMap encC = fm at *
      clear hbd hfm
      go_wp2_with fail
      refine (refLarge_any st 4 wr h0 (by omega) (by omega)).mono ?_
      rintro e w1 ⟨⟨v1, rfl, ho1⟩, hb1⟩
      rw [show 8 * 4 = 32 from rfl, HL32.out] at ho1
      have HO1 := Lib.hid ho1
      have HOL := Lib.hid (own_below HO.out hb1 (Nat.le_refl _))
      have hbb1 := hbr.trans (hb1.mono hz)
      have hz1' := hbb1.size
      clear ho1 hb1 c0 c1
      obtain ⟨ab, cb, hub, hcb⟩ := own_cells HOL.out
      subst hub
      go_wp2_with fail
      refine (refOctets_any ab fm cb w1 hcb HFBB.out (by omega)).mono ?_
      rintro e w2 ⟨⟨v2, rfl, ho2⟩, hb2⟩
      have HO2 := Lib.hid ho2
      have HO3 := Lib.hid (own_below HO1.out hb2 (Nat.le_refl _))
      have hbb2 := hbb1.trans (hb2.mono hz1')
      have hz2' := hbb2.size
      have hzr := hb2.size
      have hol2 := octs_bd fm
      have hol1 := HL32.out
      clear ho2 hb2 hcb HOL
      have HO4 := Lib.hid (own_base HO3.out hz)
      have hbl : 4 + (octs fm).length = body.length := by
        have h := congrArg List.length HFB.out
        rw [List.length_append, hol1] at h; exact h
      go_wp2_with (at_builtin; refine wpList_append_two rfl _ _ 48 rfl W.heap.size 5 j0 (.int .u8 0) 1 1 Tryz.underlying48 hj hy0 hy1 hy2 rfl (by decide) _ _ _ rfl HO4.out _ _ _ _ rfl HO2.out (bys_one _) (by unfold maxLen; omega) (by omega) (by omega) ?_; intro v3 w3 hown3 hgrow3 _)
      have hbb3 := hbb2.grown hgrow3 (by omega) (fun j e => (HO4.out.lt j e).1)
      rw [← bys_append, HFB.out, hbl] at hown3
      have hz3 := hbb3.size
      have HO5 := Lib.hid hown3
      obtain ⟨g3, c3, hv3, hg3, hg3l⟩ := hown3.form (by omega)
      subst hv3
      have HBL := Lib.hid hbl
      have hbpos : 4 ≤ body.length := by omega
      clear hown3 hgrow3 hbl hol1 hvl
      have hlit : (w3.alloc (.cells #[.int .u8 165, .int .u8 90] 5)).ownsRow W.heap.size 5 1 (.slice (some ⟨w3.heap.size, 0, none⟩) 2 2) 2 [.int .u8 165, .int .u8 90] := own_lit w3 [.int .u8 165, .int .u8 90] 5 W.heap.size hz3 (by decide)
      have HLIT := Lib.hid hlit
      clear hlit
      have hbb4 := hbb3.alloc hz3 (.cells #[.int .u8 165, .int .u8 90] 5)
      have hz4 := hbb4.size
      go_wp2_with fail
      simp only [go_sem, Tryz.underlying48]
      go_wp2_with fail
      refine (refLarge_any (body.length : Nat) 2 _ (by omega) (by omega) (by omega)).mono ?_
      rintro e w5 ⟨⟨v5, rfl, ho5⟩, hb5⟩
      have HO6 := Lib.hid ho5
      have HLIT2 := Lib.hid (own_below HLIT.out hb5 (Nat.le_refl _))
      have HIN := Lib.hid (own_below (HO5.out.alloc (.cells #[.int .u8 165, .int .u8 90] 5)) hb5 (Nat.le_refl _))
      have hbb5 := hbb4.trans (hb5.mono hz4)
      have hz5 := hbb5.size
      have h16 : (octs (binL (body.length : Nat) (8 * 2))).length = 2 := by rw [octs_len, binL_length]
      have H16 := Lib.hid h16
      have hne36 : (Value.slice (some ⟨g3, 0, none⟩) body.length c3).ownBlock ≠ (Value.slice (some ⟨w3.heap.size, 0, none⟩) 2 2).ownBlock := by
        intro h
        have h2 : g3 = w3.heap.size := Option.some.inj h
        omega
      have HNE36 := Lib.hid hne36
      clear ho5 hb5 h16 hne36
      go_wp2_with (first
        | (at_builtin
           refine wpList_append_two rfl _ _ 48 rfl W.heap.size 5 j0 (.int .u8 0) 1 1 Tryz.underlying48 hj hy0 hy1 hy2 rfl (by decide) _ _ _ rfl HLIT2.out _ _ _ _ rfl HO6.out (bys_one _) (by rw [H16.out]; unfold maxLen; decide) (by rw [H16.out]; decide) (by omega) ?_
           intro v6 w6 hown6 hgrow6 _
           have hbb6 := hbb5.grown hgrow6 (by omega) (fun j e => (HLIT2.out.lt j e).1)
           have hz6 := hbb6.size
           have hin6 := HIN.out.kept hgrow6 (.inr HNE36.out)
           rw [H16.out] at hown6
           have HO7 := Lib.hid hown6
           have HIN6 := Lib.hid hin6
           clear hown6 hgrow6 hin6)
        | (at_builtin
           refine wpList_append_two rfl _ _ 48 rfl W.heap.size 5 j0 (.int .u8 0) 1 1 Tryz.underlying48 hj hy0 hy1 hy2 rfl (by decide) _ _ _ rfl HO7.out _ _ _ _ rfl HIN6.out (bys_one _) (by unfold maxLen; omega) (by omega) (by omega) ?_
           intro v7 w7 hown7 hgrow7 _))
      have hbb7 := hbb6.grown hgrow7 (by omega) (fun j e => (HO7.out.lt j e).1)
      have hz7 := hbb7.size
      rw [show [Value.int .u8 165, Value.int .u8 90] = bys [165, 90] from rfl, ← bys_append, ← bys_append, ← HHD.out] at hown7
      have hhl : 2 + 2 + body.length = (hdB body).length := by
        have h := congrArg List.length HHD.out
        rw [List.length_append, List.length_append] at h
        have h2 : (octs (binL (body.length : Nat) 16)).length = 2 := H16.out
        simp only [List.length_cons, List.length_nil] at h h2 ⊢
        omega
      rw [hhl] at hown7
      have hhok : ∀ d ∈ hdB body, d < 256 := by
        intro d hd
        rw [HHD.out] at hd
        rcases List.mem_append.1 hd with h | h
        · rcases List.mem_append.1 h with h | h
          · simp at h; omega
          · exact (octs_ok _ (binL_bits _ _)).1 d h
        · exact HBOK.out d h
      have hhl2 : (hdB body).length ≤ 6710 := by
        rw [← hhl]; omega
      obtain ⟨g7, c7, hv7, hg7, hg7l⟩ := hown7.form (by omega)
      obtain ⟨a7', c7', hv7', hc7⟩ := own_cells hown7
      rw [hv7] at hv7'
      simp only [Value.slice.injEq, true_and] at hv7'
      obtain ⟨rfl, rfl⟩ := hv7'
      have HO8 := Lib.hid hown7
      have hck := refCheckSum_any _ (hdB body) c7 w7 hc7 hhok (by omega)
      have HCK := Lib.hid hck
      have hchk := chkL_lt (hdB body)
      subst hv7
      clear hown7 hgrow7 hhl hhok hc7 hck
      go_wp2_with fail
      refine HCK.out.mono ?_
      rintro e w' ⟨rfl, rfl⟩
      go_wp2_with fail
      refine (refLarge_any (chkL (hdB body) : Nat) 3 w7 (by omega) (by omega) (by omega)).mono ?_
      rintro e w8 ⟨⟨v8, rfl, ho8⟩, hb8⟩
      have HO9 := Lib.hid ho8
      have HO10 := Lib.hid (own_below HO8.out hb8 (Nat.le_refl _))
      have hbb8 := hbb7.trans (hb8.mono hz7)
      have hz8 := hbb8.size
      have h24 : (octs (binL (chkL (hdB body) : Nat) (8 * 3))).length = 3 := by rw [octs_len, binL_length]
      have H24 := Lib.hid h24
      clear ho8 hb8 h24
      go_wp2_with (at_builtin; refine wpList_append_two rfl _ _ 48 rfl W.heap.size 5 j0 (.int .u8 0) 1 1 Tryz.underlying48 hj hy0 hy1 hy2 rfl (by decide) _ _ _ rfl HO10.out _ _ _ _ rfl HO9.out (bys_one _) (by rw [H24.out]; unfold maxLen; omega) (by rw [H24.out]; omega) (by omega) ?_; intro v9 w9 hown9 hgrow9 _)
      have hbb9 := hbb8.grown hgrow9 (by omega) (fun j e => (HO10.out.lt j e).1)
      rw [← bys_append, show hdB body ++ octs (binL (chkL (hdB body) : Nat) (8 * 3)) = eb from HEN.out.symm, ← List.length_append, show hdB body ++ octs (binL (chkL (hdB body) : Nat) (8 * 3)) = eb from HEN.out.symm] at hown9
      have hfin := HB0.out.trans (hbb9.mono hWz)
      have HF := Lib.hid (own_base hown9 hWz)
      clear hown9 hgrow9
      go_wp2
      go_ret
      exact ⟨⟨_, rfl, HF.out⟩, hfin⟩
end Go.Proofs.YtoochleabcjljaaGreatDoor

/- The chapter's own checks: IsName, Find. -/
namespace Go.Proofs.YtoochleabcjljaaGreatDoor
open Go.RowKit

theorem nameOK_of {s : ByteArray} (h : nameTo s s.size = true) (h1 : 1 ≤ s.size) (h2 : s.size ≤ 16) : nameOK s = true := by simp [nameOK, h, h1, h2]

set_option maxRecDepth 100000 in
set_option maxHeartbeats 1000000 in
theorem refIsName_any (s : ByteArray) (w : World) (hs : s.size ≤ 9223372036854775807) :
    Calls Tryz.prog 69 #[.string s] w fun e w' => e = .returned (.bool (nameOK s)) ∧ w = w' := by
  by_cases h0 : s.size < 1
  · have hn : nameOK s = false := by
      have : decide (1 ≤ s.size) = false := decide_eq_false (by omega)
      simp [nameOK, this]
    have HN := Lib.hid hn; clear hn
    have h0' : (s.size : Int) < 1 := by omega
    go_enter Tryz.func69, Tryz.ntmps69
    go_wp2
    go_ret
    exact ⟨ret_bool HN.out.symm, rfl⟩
  · by_cases h1 : 16 < s.size
    · have hn : nameOK s = false := by
        have : decide (s.size ≤ 16) = false := decide_eq_false (by omega)
        simp [nameOK, this]
      have HN := Lib.hid hn; clear hn
      go_enter Tryz.func69, Tryz.ntmps69
      go_wp2
      go_ret
      exact ⟨ret_bool HN.out.symm, rfl⟩
    · have hp : 0 < s.size := by omega
      by_cases hc : 97 ≤ s[0].toNat ∧ s[0].toNat ≤ 122
      · obtain ⟨hc1, hc2⟩ := hc
        have g1 : ¬ ((s[0].toNat : Int) < 97) := by omega
        have g2 : ¬ ((122 : Int) < s[0].toNat) := by omega
        go_enter Tryz.func69, Tryz.ntmps69
        go_wp2
        go_loop [3] (fun i => ∃ k : Nat, k ≤ s.size ∧ i = .int .i64 k ∧ nameTo s k = true) (fun i => s.size - (intOf i).toNat)
        case atStart => exact ⟨0, Nat.zero_le _, rfl, rfl⟩
        case round =>
          obtain ⟨k, hk, rfl, hn⟩ := hrel
          by_cases hlt : k < s.size
          · have hsu := nameTo_succ s k
            rw [hn, Bool.true_and] at hsu
            have hfa := fun h => nameTo_false (s := s) (k := k) h hlt
            have hk0 : k = 0 → 97 ≤ s[k].toNat ∧ s[k].toNat ≤ 122 := fun h => by subst h; exact ⟨hc1, hc2⟩
            rw [chAt_eq hlt] at hsu hfa
            have HSU := Lib.hid hsu; have HFA := Lib.hid hfa; have HK0 := Lib.hid hk0
            clear hsu hfa hn hk0 g1 g2 hc1 hc2
            have hb : ((97 ≤ s[k].toNat ∧ s[k].toNat ≤ 122) ∨ (s[k].toNat = 95 ∨ 48 ≤ s[k].toNat ∧ s[k].toNat ≤ 57)) ∨ ¬ ((97 ≤ s[k].toNat ∧ s[k].toNat ≤ 122) ∨ (s[k].toNat = 95 ∨ 48 ≤ s[k].toNat ∧ s[k].toNat ≤ 57)) := Decidable.em _
            generalize hbk : s[k].toNat = c at *
            rcases hb with (⟨h2, h3⟩ | (h2 | ⟨h2, h3⟩)) | hb
            · have HSU2 : Hid (nameTo s (k + 1) = true) := by show _ = _; rw [HSU.out]; simp [chOK]; omega
              have d1 : ¬ ((c : Int) < 97) := by omega
              have d2 : ¬ ((122 : Int) < c) := by omega
              go_wp2
              go_round
              case rel => exact ⟨k + 1, by omega, by go_num, HSU2.out⟩
              case measure => simp [intOf]; omega
            · have hk1 : k ≠ 0 := fun h => by have := HK0.out h; omega
              have HSU2 : Hid (nameTo s (k + 1) = true) := by show _ = _; rw [HSU.out]; simp [chOK]; omega
              subst h2
              go_wp2
              go_round
              case rel => exact ⟨k + 1, by omega, by go_num, HSU2.out⟩
              case measure => simp [intOf]; omega
            · have hk1 : k ≠ 0 := fun h => by have := HK0.out h; omega
              have HSU2 : Hid (nameTo s (k + 1) = true) := by show _ = _; rw [HSU.out]; simp [chOK]; omega
              have d1 : (c : Int) < 97 := by omega
              have d2 : ¬ ((c : Int) < 48) := by omega
              have d3 : ¬ ((57 : Int) < c) := by omega
              go_wp2
              go_round
              case rel => exact ⟨k + 1, by omega, by go_num, HSU2.out⟩
              case measure => simp [intOf]; omega
            · have HN : Hid (nameOK s = false) := HFA.out (by simp [chOK]; omega)
              have e0 : ((c : Int) != 95) = true := by rw [bne_iff_ne]; omega
              have hj : (c < 97 ∧ c < 48) ∨ (48 ≤ c ∧ c < 97 ∧ 57 < c) ∨ (122 < c) := by omega
              clear hb
              rcases hj with ⟨h2, h3⟩ | ⟨h2, h3, h4⟩ | h2
              · have d1 : (c : Int) < 97 := by omega
                have d2 : (c : Int) < 48 := by omega
                go_wp2
                go_ret
                exact ⟨ret_bool HN.out.symm, rfl⟩
              · have d1 : (c : Int) < 97 := by omega
                have d2 : ¬ ((c : Int) < 48) := by omega
                have d3 : (57 : Int) < c := by omega
                go_wp2
                go_ret
                exact ⟨ret_bool HN.out.symm, rfl⟩
              · have d1 : ¬ ((c : Int) < 97) := by omega
                have d2 : (122 : Int) < c := by omega
                have d3 : ¬ ((c : Int) < 48) := by omega
                have d4 : (57 : Int) < c := by omega
                go_wp2
                go_ret
                exact ⟨ret_bool HN.out.symm, rfl⟩
          · obtain rfl : k = s.size := by omega
            have HN : Hid (nameOK s = true) := nameOK_of hn (by omega) (by omega)
            go_wp2
            go_ret
            exact ⟨ret_bool HN.out.symm, rfl⟩
      · have HN : Hid (nameOK s = false) := nameTo_false (k := 0) (by rw [chAt_eq hp]; simp [chOK]; omega) hp
        have hj : s[0].toNat < 97 ∨ (97 ≤ s[0].toNat ∧ 122 < s[0].toNat) := by omega
        clear hc
        rcases hj with h2 | ⟨h2, h3⟩
        · have d1 : (s[0].toNat : Int) < 97 := by omega
          go_enter Tryz.func69, Tryz.ntmps69
          go_wp2
          go_ret
          exact ⟨ret_bool HN.out.symm, rfl⟩
        · have d1 : ¬ ((s[0].toNat : Int) < 97) := by omega
          have d2 : (122 : Int) < s[0].toNat := by omega
          go_enter Tryz.func69, Tryz.ntmps69
          go_wp2
          go_ret
          exact ⟨ret_bool HN.out.symm, rfl⟩

/-- Find: is a number in a list? -/
theorem refFind_any (ao : Option Addr) (xs : List Int) (cap : Nat) (n : Int) (w : World) (hc : Cells w ao (xs.map (Value.int .i64))) (hl : xs.length ≤ 9223372036854775807) :
    Calls Tryz.prog 70 #[.slice ao xs.length cap, .int .i64 n] w fun e w' => (∃ r : Int, e = .returned (.int .i64 r) ∧ (0 ≤ r ↔ n ∈ xs)) ∧ w = w' := by
  have HC := Lib.hid hc; clear hc
  go_enter Tryz.func70, Tryz.ntmps70
  go_wp2
  go_loop [5] (fun i => ∃ k : Nat, k ≤ xs.length ∧ i = .int .i64 k ∧ n ∉ xs.take k) (fun i => xs.length - (intOf i).toNat)
  case atStart => exact ⟨0, Nat.zero_le _, rfl, by simp⟩
  case round =>
    obtain ⟨k, hk, rfl, hn⟩ := hrel
    have HN := Lib.hid hn; clear hn
    by_cases hlt : k < xs.length
    · obtain ⟨x, hx⟩ := get_of_lt hlt
      obtain ⟨b, off, rfl⟩ := HC.out.addr (by simpa using List.ne_nil_of_length_pos (by omega))
      have c0 := HC.out.int hx
      have HX := Lib.hid hx; clear hx
      by_cases hxn : x = n
      · have h1 : (x == n) = true := by simp [hxn]
        have HXN := Lib.hid hxn; clear hxn
        go_wp2
        go_ret
        refine ⟨⟨_, rfl, ?_⟩, rfl⟩
        simp only [Int.natCast_nonneg, true_iff]
        rw [← HXN.out]; exact List.mem_of_getElem? HX.out
      · have h1 : (x == n) = false := by simp [hxn]
        have HXN := Lib.hid hxn; clear hxn
        go_wp2
        go_round
        case rel =>
          refine ⟨k + 1, by omega, by go_num, ?_⟩
          have h2 := HN.out
          have h3 := HXN.out
          rw [take_get HX.out, List.mem_append, List.mem_singleton]
          rintro (h | h)
          · exact h2 h
          · exact h3 h.symm
        case measure => simp [intOf]; omega
    · obtain rfl : k = xs.length := by omega
      rw [List.take_length] at HN
      go_wp2
      go_ret
      exact ⟨⟨_, rfl, ⟨fun h => absurd h (by decide), fun h => absurd h HN.out⟩⟩, rfl⟩
end Go.Proofs.YtoochleabcjljaaGreatDoor
