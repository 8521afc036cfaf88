/- Parts of a proof, in build order: Q8, Dc, Dj, Q7, D9, QB, Dd, QA. -/
import Derived.Test.YtoochleabcjljaaGreatDoorKd9
import Derived.WalkMore

/- Codes: Decode as the reference does it. -/
namespace Go.Proofs.YtoochleabcjljaaGreatDoor
open Go.RowKit

set_option maxRecDepth 100000 in
set_option maxHeartbeats 2000000 in
theorem refDecode_any (ao : Option Addr) (bs : List Chan) (cap : Nat) (ac : Option Addr) (l : List Nat) (cc : Nat) (w : World) (hb : BookIn w ao bs cap) (hc : ByIn w ac l cc) :
    Calls Tryz.prog 40 #[.slice ao bs.length cap, .slice ac l.length cc] w fun e w' => DecRes w.heap.size (decR bs l) (decErr bs l) e w' ∧ Below w.heap.size w w' := by
  have HB := Lib.hid hb; have HC := Lib.hid hc
  have hlen := hb.len
  have hcl := hc.len
  have hbw := (Below.refl w.heap.size w).alloc (Nat.le_refl _) (.cells #[.int .i64 0, .slice none 0 0] 43)
  have hb1 := hb.below hbw (Nat.le_refl _)
  have hck := refCheckBook_any ao bs cap _ hb1.in0
  have HCK := Lib.hid hck
  have HX := Lib.hid (Blk.new w 43 #[.int .i64 0, .slice none 0 0])
  clear hb hc hb1 hck
  by_cases h1 : bookErr bs = 0
  · have hok := bookErr_zero h1
    have H1 := Lib.hid h1
    have HR : Hid (decR bs l = match firstR bs l with | some p => if p.2 = l.length then some p.1 else none | none => none) := Lib.hid (by rw [decR, if_pos h1] <;> rfl)
    have HE : Hid (decErr bs l = if (decR bs l).isSome then 0 else 5) := Lib.hid (by rw [decErr, if_neg (by simpa using h1)])
    have hfc := fun (W : World) (h : BookIn W ao bs cap) (h2 : ByIn W ac l cc) => begins_any ao bs cap ac l cc W h hok h2
    have HFC := Lib.hid hfc
    clear h1 hok hfc
    go_enter Tryz.func40, Tryz.ntmps40
    go_wp2_with fail
    refine HCK.out.mono ?_
    rintro e w1 ⟨rfl, hb1⟩
    rw [H1.out]
    have hx1 := HX.out.below hb1 (by simp)
    have hbe1 := hbw.trans (hb1.mono (by simp))
    have hz1 := hb1.size
    simp only [World.size_alloc] at hz1
    have HX1 := Lib.hid hx1
    clear hb1 hx1
    go_wp2_with fail
    refine (HFC.out w1 (HB.out.below hbe1 (Nat.le_refl _)) (HC.out.below hbe1 (Nat.le_refl _))).mono ?_
    rintro e w2 ⟨hres, hb2⟩
    have hx2 := HX1.out.below hb2 (by omega)
    have hbe2 := hbe1.trans (hb2.mono (by omega))
    have hz2 := hb2.size
    have HX2 := Lib.hid hx2
    clear hb2 hx2 HCK HFC HX HX1
    cases hf : firstR bs l with
    | none =>
      rw [hf] at hres
      obtain rfl : e = .returned (.tuple #[.agg #[.int .i64 0, .slice none 0 0], .int .i64 0, .bool false]) := hres
      have hr : decR bs l = none := by rw [HR.out, hf]
      have he : decErr bs l = 5 := by rw [HE.out, hr]; rfl
      have HR2 := Lib.hid hr; have HE2 := Lib.hid he
      have hbe3 := hbe2.alloc (by omega) (.cells #[.int .i64 0, .slice none 0 0] 43)
      have hx3 := HX2.out.alloc (.cells #[.int .i64 0, .slice none 0 0] 43)
      have x0 := hx3.c0
      have x1 := hx3.c1
      have y0 := hx3.free 0
      have y1 := hx3.free 1
      clear hr he hf hx3
      go_wp2_with fail
      (try simp only [Exit.inBlock, Exit.then])
      refine bodyPost_ret (v := .tuple #[.agg #[.int .i64 0, .slice none 0 0], .int .i64 5]) (by rw [results_cell_tmp rfl]; go_simp) rfl ⟨by rw [HR2.out, HE2.out]; exact rfl, ?_⟩
      exact (hbe3.setCell (p := ⟨w.heap.size, 0, none⟩) (Nat.le_refl _) _).setCell (p := ⟨w.heap.size, 1, none⟩) (Nat.le_refl _) _
    | some p =>
      obtain ⟨⟨st, xss⟩, n⟩ := p
      rw [hf] at hres
      obtain ⟨v, rfl, hfo⟩ := hres
      obtain ⟨a, c, vs, rfl, -, -, -⟩ := hfo.cells
      have hbe3 := hbe2.alloc (by omega) (.cells #[.int .i64 st, .slice a xss.length c] 43)
      have hx3 := HX2.out.alloc (.cells #[.int .i64 st, .slice a xss.length c] 43)
      have x0 := hx3.c0
      have x1 := hx3.c1
      have y0 := hx3.free 0
      have y1 := hx3.free 1
      have HX3 := Lib.hid hx3
      have HFO := Lib.hid hfo
      clear hx3 hfo
      by_cases hn : n = l.length
      · have hr : decR bs l = some (st, xss) := by rw [HR.out, hf]; simp [hn]
        have he : decErr bs l = 0 := by rw [HE.out, hr]; rfl
        have HR2 := Lib.hid hr; have HE2 := Lib.hid he
        have hf3 := Blk.new w2 43 #[.int .i64 st, .slice a xss.length c]
        have z0 := hf3.c0
        have z1 := hf3.c1
        have hne : ((n : Int) != l.length) = false := by simp [hn]
        have hfo3 := (HFO.out.base (show w.heap.size ≤ w1.heap.size by omega)).kept (World.grownBy_alloc w2 (.cells #[.int .i64 st, .slice a xss.length c] 43) none) (fun k e => by simp at e)
        have hgs0 := grown_set (w2.alloc (.cells #[.int .i64 st, .slice a xss.length c] 43)) ⟨w.heap.size, 0, none⟩ (.int .i64 st)
        have hgs1 := grown_set ((w2.alloc (.cells #[.int .i64 st, .slice a xss.length c] 43)).setCell ⟨w.heap.size, 0, none⟩ (.int .i64 st)) ⟨w.heap.size, 1, none⟩ (.slice a xss.length c)
        have hfo6 := (hfo3.kept_blk hgs0 HX3.out (by decide) (by decide)).kept_blk hgs1 (HX3.out.set0 _) (by decide) (by decide)
        have HFO6 := Lib.hid hfo6
        clear hr he hf hn hf3 hfo3 hgs0 hgs1 hfo6
        go_wp2_with fail
        (try simp only [Exit.inBlock, Exit.then])
        refine bodyPost_ret (v := .tuple #[.agg #[.int .i64 st, .slice a xss.length c], .int .i64 0]) (by rw [results_cell_tmp rfl]; go_simp) rfl ⟨by rw [HR2.out, HE2.out]; exact ⟨_, rfl, HFO6.out⟩, ?_⟩
        exact (hbe3.setCell (p := ⟨w.heap.size, 0, none⟩) (Nat.le_refl _) _).setCell (p := ⟨w.heap.size, 1, none⟩) (Nat.le_refl _) _
      · have hr : decR bs l = none := by rw [HR.out, hf]; simp [hn]
        have he : decErr bs l = 5 := by rw [HE.out, hr]; rfl
        have HR2 := Lib.hid hr; have HE2 := Lib.hid he
        have hne : ((n : Int) != l.length) = true := by rw [bne_iff_ne]; omega
        clear hr he hf
        go_wp2_with fail
        (try simp only [Exit.inBlock, Exit.then])
        refine bodyPost_ret (v := .tuple #[.agg #[.int .i64 0, .slice none 0 0], .int .i64 5]) (by rw [results_cell_tmp rfl]; go_simp) rfl ⟨by rw [HR2.out, HE2.out]; exact rfl, ?_⟩
        exact (hbe3.setCell (p := ⟨w.heap.size, 0, none⟩) (Nat.le_refl _) _).setCell (p := ⟨w.heap.size, 1, none⟩) (Nat.le_refl _) _
  · have hr : decR bs l = none := by rw [decR, if_neg h1]
    have he : decErr bs l = bookErr bs := by rw [decErr, if_pos h1]
    have HR2 := Lib.hid hr; have HE2 := Lib.hid he
    have h3 : (bookErr bs != 0) = true := by simpa using h1
    have h4 : (bookErr bs == 0) = false := by simpa using h1
    clear hr he
    go_enter Tryz.func40, Tryz.ntmps40
    go_wp2_with fail
    refine HCK.out.mono ?_
    rintro e w1 ⟨rfl, hb1⟩
    have hx1 := HX.out.below hb1 (by simp)
    have hbe1 := hbw.trans (hb1.mono (by simp))
    have x0 := hx1.c0
    have x1 := hx1.c1
    have y0 := hx1.free 0
    have y1 := hx1.free 1
    clear hx1 hb1
    go_wp2_with fail
    (try simp only [Exit.inBlock, Exit.then])
    refine bodyPost_ret (v := .tuple #[.agg #[.int .i64 0, .slice none 0 0], .int .i64 (bookErr bs)]) (by rw [results_cell_tmp rfl]; go_simp) rfl ⟨by rw [HR2.out, HE2.out]; exact rfl, ?_⟩
    exact (hbe1.setCell (p := ⟨w.heap.size, 0, none⟩) (Nat.le_refl _) _).setCell (p := ⟨w.heap.size, 1, none⟩) (Nat.le_refl _) _
end Go.Proofs.YtoochleabcjljaaGreatDoor

/- Codes: one changed byte, in plain words. -/
namespace Go.Proofs.YtoochleabcjljaaGreatDoor
open Go.RowKit

theorem chk_step_inj {n m b : Nat} (hn : n < 16777213) (hm : m < 16777213) (h : (n * 257 + b + 1) % 16777213 = (m * 257 + b + 1) % 16777213) : n = m := by omega
theorem chk_byte_inj {n b c : Nat} (hb : b < 256) (hc : c < 256) (h : (n * 257 + b + 1) % 16777213 = (n * 257 + c + 1) % 16777213) : b = c := by omega
theorem chk_tail (l : List Nat) {n m : Nat} (hn : n < 16777213) (hm : m < 16777213) (h : l.foldl (fun n b => (n * 257 + b + 1) % 16777213) n = l.foldl (fun n b => (n * 257 + b + 1) % 16777213) m) : n = m := by
  induction l generalizing n m with
  | nil => exact h
  | cons b l ih =>
    rw [List.foldl_cons, List.foldl_cons] at h
    exact chk_step_inj hn hm (ih (Nat.mod_lt _ (by decide)) (Nat.mod_lt _ (by decide)) h)
/-- bytes that differ in one place have another check -/
theorem chk_one (a r : List Nat) {x y : Nat} (hx : x < 256) (hy : y < 256) (h : chkL (a ++ x :: r) = chkL (a ++ y :: r)) : x = y := by
  unfold chkL at h
  rw [List.foldl_append, List.foldl_append, List.foldl_cons, List.foldl_cons] at h
  exact chk_byte_inj hx hy (chk_tail r (Nat.mod_lt _ (by decide)) (Nat.mod_lt _ (by decide)) h)
theorem octs24_inj {n m : Nat} (hn : n < 16777216) (hm : m < 16777216) (h : octs (binL (n : Int) 24) = octs (binL (m : Int) 24)) : n = m := by
  have key : ∀ k : Nat, unB (octs (binL (k : Int) 24)) = binL (k : Int) 24 := by
    intro k
    obtain ⟨p, hp⟩ := unB_octs 24 (binL (k : Int) 24) (by rw [binL_length]; omega) (binL_bits _ _)
    have hl := congrArg List.length hp
    rw [unB_length, octs_len, List.length_append, binL_length] at hl
    have : p = [] := List.length_eq_zero_iff.1 (by omega)
    rw [hp, this, List.append_nil]
  have h1 := congrArg unB h
  rw [key, key] at h1
  have h2 := congrArg valB h1
  rw [valB_bin, valB_bin, Nat.mod_eq_of_lt (by omega), Nat.mod_eq_of_lt (by omega)] at h2
  exact h2
/-- no code is another one with one byte changed -/
theorem enc_one {f g : Fr} {i x : Nat} (hx : x < 256) (hf : ∀ d ∈ encF f, d < 256) (h : encF g = (encF f).set i x) : x = (encF f).getD i 0 ∨ (encF f).length ≤ i := by
  by_cases hi : i < (encF f).length
  · refine .inl ?_
    have hF : encF f = hdB (octs (frBits f.1 f.2)) ++ octs (binL (chkL (hdB (octs (frBits f.1 f.2))) : Nat) 24) := rfl
    have hG : encF g = hdB (octs (frBits g.1 g.2)) ++ octs (binL (chkL (hdB (octs (frBits g.1 g.2))) : Nat) 24) := rfl
    generalize hdB (octs (frBits f.1 f.2)) = a at *
    generalize hdB (octs (frBits g.1 g.2)) = b at *
    have la := octs_len (binL (chkL a : Nat) 24)
    have lb := octs_len (binL (chkL b : Nat) 24)
    rw [binL_length] at la lb
    have ca := chkL_lt a
    have cb := chkL_lt b
    rw [hF] at hi hf h ⊢
    rw [hG] at h
    have hlen : b.length = a.length := by
      have := congrArg List.length h
      rw [List.length_set, List.length_append, List.length_append] at this; omega
    rw [List.length_append] at hi
    by_cases hia : i < a.length
    · rw [List.set_append_left _ _ hia] at h
      obtain ⟨h1, h2⟩ := List.append_inj h (by rw [List.length_set, hlen])
      have h3 := octs24_inj (by omega) (by omega) h2
      have hd : a = a.take i ++ a[i] :: a.drop (i + 1) := by rw [← List.drop_eq_getElem_cons hia, List.take_append_drop]
      have hs : a.set i x = a.take i ++ x :: a.drop (i + 1) := List.set_eq_take_append_cons_drop .. |>.trans (by rw [if_pos hia])
      rw [h1, hs] at h3
      conv at h3 => rhs; rw [hd]
      have h4 := chk_one _ _ hx (hf _ (by simp [List.getElem_mem hia])) h3
      rw [List.getD_eq_getElem?_getD, List.getElem?_append_left hia, List.getElem?_eq_getElem hia]
      exact h4
    · rw [List.set_append_right _ _ (by omega)] at h
      obtain ⟨h1, h2⟩ := List.append_inj h hlen
      rw [h1] at h2
      have hi3 : i - a.length < (octs (binL (chkL a : Nat) 24)).length := by omega
      have h3 : (octs (binL (chkL a : Nat) 24))[i - a.length]? = some x := by rw [h2]; rw [List.getElem?_set_self hi3]
      rw [List.getD_eq_getElem?_getD, List.getElem?_append_right (by omega), h3]; rfl
  · exact .inr (by omega)
end Go.Proofs.YtoochleabcjljaaGreatDoor

/- Codes: what Salvage finds and what is lost lie one after the other; plain. -/
namespace Go.Proofs.YtoochleabcjljaaGreatDoor
open Go.RowKit

/-- codes and spans, one after the other, from the front: 'b': a span lies right ahead -/
inductive Til (L : List Nat) : Bool → Nat → List Fr → List (Int × Int) → Prop
  | nil : Til L false 0 [] []
  | code {b : Bool} {e : Nat} {fs : List Fr} {lost : List (Int × Int)} {x : Fr} : Til L b e fs lost → (L.drop e).take (encF x).length = encF x → e + (encF x).length ≤ L.length → Til L false (e + (encF x).length) (fs ++ [x]) lost
  | span {e z : Nat} {fs : List Fr} {lost : List (Int × Int)} : Til L false e fs lost → e < z → Til L true z fs (lost ++ [((e : Int), (z : Int))])
theorem joinS_snoc' (ss : List (Int × Int)) (p : Int × Int) (i : Nat) : joinS (ss ++ [p]) i = if p.2 = (i : Int) then ss ++ [(p.1, (i : Int) + 1)] else ss ++ [p] ++ [((i : Int), (i : Int) + 1)] := by
  unfold joinS; simp
theorem Til.ends {L : List Nat} {b : Bool} {e : Nat} {fs : List Fr} {lost : List (Int × Int)} (h : Til L b e fs lost) : (∀ p ∈ lost, p.2 ≤ (e : Int)) ∧ (b = false → ∀ p ∈ lost, p.2 < (e : Int)) := by
  induction h with
  | nil => exact ⟨fun p hp => by simp at hp, fun _ p hp => by simp at hp⟩
  | code h hc hl ih =>
    rename_i x
    have hp0 := encF_pos x
    exact ⟨fun p hp => by have := ih.1 p hp; omega, fun _ p hp => by have := ih.1 p hp; omega⟩
  | span h hl ih =>
    refine ⟨fun p hp => ?_, fun e => by cases e⟩
    rcases List.mem_append.1 hp with h1 | h1
    · have := ih.1 p h1; omega
    · rw [List.mem_singleton.1 h1]; exact Int.le_refl _
theorem Til.inv {L : List Nat} {b : Bool} {e : Nat} {fs : List Fr} {lost : List (Int × Int)} (h : Til L b e fs lost) (hb : b = true) : ∃ (e0 : Nat) (lost' : List (Int × Int)), lost = lost' ++ [((e0 : Int), (e : Int))] ∧ Til L false e0 fs lost' ∧ e0 < e := by
  cases h with
  | nil => cases hb
  | code => cases hb
  | span h hl => exact ⟨_, _, rfl, h, hl⟩
/-- the same from a place on -/
def TlC (L : List Nat) : Nat → List Fr → List (Int × Int) → Prop
  | e, [], lost => lost = [] ∧ e = L.length
  | e, x :: fs, lost => (L.drop e).take (encF x).length = encF x ∧ e + (encF x).length ≤ L.length ∧
      ((∃ (z : Nat) (rest : List (Int × Int)), lost = (((e + (encF x).length : Nat) : Int), (z : Int)) :: rest ∧ e + (encF x).length < z ∧ TlC L z fs rest ∧ ∀ p ∈ rest, (z : Int) < p.1) ∨ (TlC L (e + (encF x).length) fs lost ∧ ∀ p ∈ lost, ((e + (encF x).length : Nat) : Int) < p.1))
def Tl (L : List Nat) (e : Nat) (fs : List Fr) (lost : List (Int × Int)) : Prop :=
  (∃ (z : Nat) (rest : List (Int × Int)), lost = ((e : Int), (z : Int)) :: rest ∧ e < z ∧ TlC L z fs rest ∧ ∀ p ∈ rest, (z : Int) < p.1) ∨ (TlC L e fs lost ∧ ∀ p ∈ lost, (e : Int) < p.1)
theorem Tl.heads {L : List Nat} {e : Nat} {fs : List Fr} {lost : List (Int × Int)} (h : Tl L e fs lost) : ∀ p ∈ lost, (e : Int) ≤ p.1 := by
  intro p hp
  rcases h with ⟨z, rest, rfl, h1, _, h3⟩ | ⟨_, h2⟩
  · rcases List.mem_cons.1 hp with h | h
    · rw [h]; exact Int.le_refl _
    · have := h3 p h; omega
  · have := h2 p hp; omega
theorem TlC.cons {L : List Nat} {e : Nat} {x : Fr} {fs : List Fr} {lost : List (Int × Int)} (h1 : (L.drop e).take (encF x).length = encF x) (h2 : e + (encF x).length ≤ L.length) (h3 : Tl L (e + (encF x).length) fs lost) : TlC L e (x :: fs) lost := ⟨h1, h2, h3⟩
theorem TlC.next {L : List Nat} {e : Nat} {x : Fr} {fs : List Fr} {lost : List (Int × Int)} (h : TlC L e (x :: fs) lost) : (L.drop e).take (encF x).length = encF x ∧ e + (encF x).length ≤ L.length ∧ Tl L (e + (encF x).length) fs lost := h
theorem Til.front {L : List Nat} {b : Bool} {e : Nat} {fs : List Fr} {lost : List (Int × Int)} (h : Til L b e fs lost) : ∀ (fs2 : List Fr) (lost2 : List (Int × Int)), (b = true → TlC L e fs2 lost2 ∧ ∀ p ∈ lost2, (e : Int) < p.1) → (b = false → Tl L e fs2 lost2) → Tl L 0 (fs ++ fs2) (lost ++ lost2) := by
  induction h with
  | nil => intro fs2 lost2 _ h2; exact h2 rfl
  | code h hc hl ih =>
    rename_i b e fs lost x
    intro fs2 lost2 _ h2
    have ht := h2 rfl
    have hh := ht.heads
    have hp0 := encF_pos x
    have hk := TlC.cons hc hl ht
    have hlt : ∀ p ∈ lost2, (e : Int) < p.1 := fun p hp => by have := hh p hp; omega
    have := ih (x :: fs2) lost2 (fun _ => ⟨hk, hlt⟩) (fun _ => .inr ⟨hk, hlt⟩)
    simpa using this
  | span h hl ih =>
    rename_i e z fs lost
    intro fs2 lost2 h1 _
    obtain ⟨ht, hh⟩ := h1 rfl
    have := ih fs2 (((e : Int), (z : Int)) :: lost2) (fun e => by cases e) (fun _ => .inl ⟨z, lost2, rfl, hl, ht, hh⟩)
    simpa using this

/-- what Salvage has found before place i -/
theorem sal_til (bs : List Chan) (L : List Nat) (i : Nat) (hi : i ≤ L.length) :
    ((i ≤ (salTo bs L i).2 ∧ Til L false (salTo bs L i).2 (salTo bs L i).1 (lostTo bs L i)) ∨ ((salTo bs L i).2 < i ∧ Til L true i (salTo bs L i).1 (lostTo bs L i))) ∧
    (∀ (a b : List Fr) (x : Fr), (salTo bs L i).1 = a ++ x :: b → lastR a < x.1) ∧ ∀ x ∈ (salTo bs L i).1, frOK bs x.1 x.2 = true := by
  induction i with
  | zero => exact ⟨.inl ⟨Nat.le_refl _, Til.nil⟩, fun a b x h => by simp [salTo] at h, fun x hx => by simp [salTo] at hx⟩
  | succ i ih =>
    obtain ⟨h1, h2, h3⟩ := ih (by omega)
    rw [salTo, lostTo]
    generalize salTo bs L i = S at *
    obtain ⟨out, beh⟩ := S
    simp only at h1 h2 h3
    generalize lostTo bs L i = lost at *
    have hlost : ¬ i < beh → Til L true (i + 1) out (joinS lost i) := by
      intro hn
      rcases h1 with ⟨ha, hb⟩ | ⟨ha, hb⟩
      · obtain rfl : beh = i := by omega
        have hends := hb.ends.2 rfl
        have hj : joinS lost beh = lost ++ [((beh : Int), ((beh + 1 : Nat) : Int))] := by
          unfold joinS
          split
          · rename_i p hp
            have := hends p (List.mem_of_getLast? hp)
            rw [if_neg (by omega)]; simp
          · simp
        rw [hj]
        exact Til.span hb (Nat.lt_succ_self _)
      · obtain ⟨e, lost', rfl, hb, hl⟩ := hb.inv rfl
        rw [joinS_snoc', if_pos rfl]
        have := Til.span (z := i + 1) hb (by omega)
        simpa using this
    by_cases hin : i < beh
    · rw [salP_in (s := (out, beh)) hin]
      refine ⟨.inl ⟨hin, ?_⟩, h2, h3⟩
      rcases h1 with ⟨_, hb⟩ | ⟨ha, _⟩
      · simpa using hb
      · omega
    · by_cases h64 : out.length < 64
      · cases hf : firstR bs (L.drop i) with
        | none =>
          rw [salP_none (s := (out, beh)) hin h64 hf]
          refine ⟨.inr ⟨by simp only; omega, by simpa using hlost hin⟩, h2, h3⟩
        | some p =>
          obtain ⟨x, n⟩ := p
          by_cases hnew : lastR out < x.1
          · rw [salP_new (s := (out, beh)) hin h64 hf hnew]
            obtain ⟨k1, k2, k3, k4, -⟩ := firstR_sound (st := x.1) (xss := x.2) hf
            have he : encB x.1 x.2 = encF x := rfl
            rw [he] at k2 k4
            rw [List.length_drop] at k3
            rw [← k4] at k2 ⊢
            have hcode : ∀ b, Til L b i out lost → Til L false (i + (encF x).length) (out ++ [x]) lost := fun b hb => Til.code hb k2.symm (by omega)
            have hp0 := encF_pos x
            refine ⟨.inl ⟨by simp only; omega, ?_⟩, ?_, ?_⟩
            · rcases h1 with ⟨ha, hb⟩ | ⟨ha, hb⟩
              · obtain rfl : beh = i := by omega
                simpa using hcode _ hb
              · simpa using hcode _ hb
            · intro a b y hy
              simp only at hy
              rcases List.eq_nil_or_concat b with rfl | ⟨b', z, rfl⟩
              · have := List.append_inj' hy rfl
                obtain ⟨rfl, hz⟩ := this
                simp at hz; rw [← hz]; exact hnew
              · rw [List.concat_eq_append, ← List.cons_append, ← List.append_assoc] at hy
                have := List.append_inj' hy rfl
                exact h2 a b' y this.1
            · intro y hy
              rcases List.mem_append.1 hy with h | h
              · exact h3 y h
              · rw [List.mem_singleton.1 h]; exact k1
          · rw [salP_old (s := (out, beh)) hin h64 hf hnew]
            refine ⟨.inr ⟨by simp only; omega, by simpa using hlost hin⟩, h2, h3⟩
      · rw [salP_full (s := (out, beh)) hin h64]
        refine ⟨.inr ⟨by simp only; omega, by simpa using hlost hin⟩, h2, h3⟩
theorem sal_tiles (bs : List Chan) (L : List Nat) : Tl L 0 (salTo bs L L.length).1 (lostTo bs L L.length) ∧ (∀ (a b : List Fr) (x : Fr), (salTo bs L L.length).1 = a ++ x :: b → lastR a < x.1) ∧ ∀ x ∈ (salTo bs L L.length).1, frOK bs x.1 x.2 = true := by
  obtain ⟨h1, h2, h3⟩ := sal_til bs L L.length (Nat.le_refl _)
  refine ⟨?_, h2, h3⟩
  have hbd := (salTo_bd bs L L.length (Nat.le_refl _)).1
  have hC : TlC L L.length [] [] := ⟨rfl, rfl⟩
  have hT : Tl L L.length [] [] := .inr ⟨hC, fun p hp => by simp at hp⟩
  rcases h1 with ⟨ha, hb⟩ | ⟨ha, hb⟩
  · have e : (salTo bs L L.length).2 = L.length := by omega
    rw [e] at hb
    have := hb.front [] [] (fun e => by cases e) (fun _ => hT)
    simpa using this
  · have := hb.front [] [] (fun _ => ⟨hC, fun p hp => by simp at hp⟩) (fun e => by cases e)
    simpa using this

/-- a code with one byte changed is none -/
theorem dec_changed {bs : List Chan} {f : Fr} {i x : Nat} (hx : x < 256) (hi : i < (encF f).length) (hne : x ≠ (encF f).getD i 0) (hf : ∀ d ∈ encF f, d < 256) : decR bs ((encF f).set i x) = none := by
  unfold decR
  split
  · cases h : firstR bs ((encF f).set i x) with
    | none => rfl
    | some p =>
      simp only
      split
      · rename_i hn
        exfalso
        obtain ⟨-, h2, -, -, -⟩ := firstR_sound (st := p.1.1) (xss := p.1.2) (n := p.2) h
        rw [hn, List.take_length] at h2
        rcases enc_one (g := p.1) hx hf h2 with h3 | h3
        · exact hne h3
        · omega
      · rfl
  · rfl
end Go.Proofs.YtoochleabcjljaaGreatDoor

/- Codes: Unpack and Salvage as the reference does them; plain. -/
namespace Go.Proofs.YtoochleabcjljaaGreatDoor
open Go.RowKit

/-- Unpack as the reference does it: all codes, one after the other, whatever they are -/
def allR (bs : List Chan) : Nat → List Nat → List Fr → Option (List Fr)
  | _, [], out => some out
  | 0, _ :: _, _ => none
  | f + 1, b :: l, out => match firstR bs (b :: l) with
    | none => none
    | some (x, n) => allR bs f ((b :: l).drop n) (out ++ [x])
theorem allR_nil (bs : List Chan) (f : Nat) (out : List Fr) : allR bs f [] out = some out := by cases f <;> rfl
theorem allR_none {bs : List Chan} {f : Nat} {l : List Nat} {out : List Fr} (h0 : 0 < l.length) (h : firstR bs l = none) : allR bs f l out = none := by
  match f, l, h0 with
  | 0, b :: l, _ => rfl
  | f + 1, b :: l, _ => rw [allR, h]
theorem allR_step {bs : List Chan} {f : Nat} {l : List Nat} {out : List Fr} {x : Fr} {n : Nat} (h0 : 0 < l.length) (h : firstR bs l = some (x, n)) : allR bs (f + 1) l out = allR bs f (l.drop n) (out ++ [x]) := by
  match l, h0 with
  | b :: l, _ => rw [allR, h]
theorem allR_ext (bs : List Chan) : ∀ (f : Nat) (l : List Nat) (out res : List Fr), allR bs f l out = some res → ∃ m, res = out ++ m
  | f, [], out, res, h => by rw [allR_nil] at h; exact ⟨[], by simp at h; simp [h]⟩
  | 0, b :: l, out, res, h => by cases h
  | f + 1, b :: l, out, res, h => by
    rw [allR] at h
    cases hf : firstR bs (b :: l) with
    | none => rw [hf] at h; cases h
    | some p =>
      obtain ⟨x, n⟩ := p
      rw [hf] at h
      obtain ⟨m, hm⟩ := allR_ext bs f _ _ res h
      exact ⟨x :: m, by rw [hm]; simp⟩
/-- the seconds go up -/
def incB : Int → List Fr → Bool
  | _, [] => true
  | a, f :: l => decide (a < f.1) && incB f.1 l
def lastD (a : Int) : List Fr → Int
  | [] => a
  | f :: l => lastD f.1 l
theorem lastD_snoc (x : Fr) : ∀ (l : List Fr) (a : Int), lastD a (l ++ [x]) = x.1
  | [], a => rfl
  | f :: l, a => by rw [List.cons_append, lastD]; exact lastD_snoc x l f.1
theorem lastD_R (l : List Fr) : lastD (-1) l = lastR l := by
  rcases List.eq_nil_or_concat l with rfl | ⟨l', b, rfl⟩
  · rfl
  · rw [List.concat_eq_append, lastD_snoc, lastR_snoc]
theorem incB_append (m : List Fr) : ∀ (o : List Fr) (a : Int), incB a (o ++ m) = (incB a o && incB (lastD a o) m)
  | [], a => by simp [incB, lastD]
  | f :: o, a => by rw [List.cons_append, incB, incB, lastD, incB_append m o f.1, Bool.and_assoc]
theorem inc_snoc (o : List Fr) (x : Fr) : incB (-1) (o ++ [x]) = (incB (-1) o && decide (lastR o < x.1)) := by
  rw [incB_append, lastD_R, incB, incB, Bool.and_true]
def goodF (res : List Fr) : Prop := res.length ≤ 64 ∧ incB (-1) res = true
instance (res : List Fr) : Decidable (goodF res) := inferInstanceAs (Decidable (_ ∧ _))
theorem unpack_all (bs : List Chan) : ∀ (f : Nat) (l : List Nat) (out : List Fr), goodF out → unpackR bs f l out = match allR bs f l out with | some res => if goodF res then some res else none | none => none
  | f, [], out, h => by rw [unpackR_nil, allR_nil]; simp only; rw [if_pos h]
  | 0, b :: l, out, h => rfl
  | f + 1, b :: l, out, h => by
    have h0 : 0 < (b :: l).length := by simp
    cases hf : firstR bs (b :: l) with
    | none => rw [unpackR_none h0 hf, allR_none h0 hf]
    | some p =>
      obtain ⟨x, n⟩ := p
      rw [allR_step h0 hf]
      by_cases hbad : out.length = 64 ∨ x.1 ≤ lastR out
      · rw [unpackR_bad h0 hf hbad]
        cases ha : allR bs f ((b :: l).drop n) (out ++ [x]) with
        | none => rfl
        | some res =>
          obtain ⟨m, rfl⟩ := allR_ext bs f _ _ res ha
          have hng : ¬ goodF (out ++ [x] ++ m) := by
            rintro ⟨h1, h2⟩
            rw [incB_append, inc_snoc, Bool.and_eq_true, Bool.and_eq_true, decide_eq_true_eq] at h2
            simp only [List.length_append, List.length_singleton] at h1
            omega
          simp only
          rw [if_neg hng]
      · rw [unpackR_step h0 hf hbad]
        refine unpack_all bs f _ _ ⟨?_, ?_⟩
        · have := h.1; simp only [List.length_append, List.length_singleton]; omega
        · rw [inc_snoc, h.2]; simp; omega
/-- what is found at a place lies there: the places within are passed over -/
theorem sal_skip {bs : List Chan} {l : List Nat} {i n : Nat} {out : List Fr} (h : salP bs l (salTo bs l i) i = ((out, i + n), false)) : ∀ j, j < n → salTo bs l (i + (j + 1)) = (out, i + n) ∧ lostTo bs l (i + (j + 1)) = lostTo bs l i
  | 0, hj => by
    refine ⟨by rw [Nat.zero_add, salTo, h], ?_⟩
    rw [Nat.zero_add, lostTo, h]; rfl
  | j + 1, hj => by
    obtain ⟨h1, h2⟩ := sal_skip h j (by omega)
    have h3 := salP_in (bs := bs) (l := l) (s := (out, i + n)) (i := i + (j + 1)) (by simp only; omega)
    refine ⟨?_, ?_⟩
    · rw [show i + (j + 1 + 1) = (i + (j + 1)) + 1 from rfl, salTo, h1, h3]
    · rw [show i + (j + 1 + 1) = (i + (j + 1)) + 1 from rfl, lostTo, h1, h3, h2]; rfl
theorem upTo_incB (fs : List Frm) (h0 : ∀ f ∈ fs, 0 ≤ f.st) : ∀ k, k ≤ fs.length → upTo fs k = incB (-1) ((fs.take k).map frm)
  | 0, _ => rfl
  | k + 1, hk => by
    obtain ⟨f, hf⟩ := get_of_lt (show k < fs.length by omega)
    have hfd : fs.getD k ⟨0, none, 0, []⟩ = f := by rw [List.getD_eq_getElem?_getD, hf]; rfl
    have hf0 := h0 f (List.mem_of_getElem? hf)
    rw [upTo, upTo_incB fs h0 k (by omega), hfd, take_get hf, List.map_append, List.map_singleton, inc_snoc]
    congr 1
    cases k with
    | zero => simp [lastR, frm]; omega
    | succ k =>
      obtain ⟨g, hg⟩ := get_of_lt (show k < fs.length by omega)
      have hgd : fs.getD (k + 1 - 1) ⟨0, none, 0, []⟩ = g := by rw [List.getD_eq_getElem?_getD, Nat.add_sub_cancel, hg]; rfl
      rw [hgd, take_get hg, List.map_append, List.map_singleton, lastR_snoc]
      simp [frm] <;> congr
theorem recErr_good {bs : List Chan} {fs : List Frm} (hb : bookErr bs = 0) (hf : ∀ f ∈ fs, frOK bs f.st f.xss = true) : (recErr bs fs = 0) ↔ goodF (fs.map frm) := by
  have h0 : ∀ f ∈ fs, 0 ≤ f.st := fun f h => by
    have := hf f h
    simp only [frOK, inB, Bool.and_eq_true, decide_eq_true_eq] at this
    omega
  have h1 := upTo_incB fs h0 fs.length (Nat.le_refl _)
  rw [List.take_length] at h1
  have h2 : (fs.any fun f => !frOK bs f.st f.xss) = false := by
    rw [List.any_eq_false]; intro f h; simp [hf f h]
  unfold recErr goodF
  rw [if_neg (by simpa using hb), h2, h1, List.length_map]
  by_cases h3 : 64 < fs.length
  · rw [if_pos h3]; simp; omega
  · rw [if_neg h3]
    cases incB (-1) (fs.map frm) <;> simp <;> omega
end Go.Proofs.YtoochleabcjljaaGreatDoor

/- Codes: frames of one's own; Unpack. -/
namespace Go.Proofs.YtoochleabcjljaaGreatDoor
open Go.RowKit

theorem Tryz.infoFrame : (Tryz.prog.info? 43).map (fun i => (i.zero, i.size, i.bytes)) = some (some (.agg #[.int .i64 0, .slice none 0 0]), 2, 32) := by kernel_rfl
theorem own_type {w : World} {b : Nat} {T : TypeId} {s n : Nat} {v : Value} {xs : List Value} (h : w.ownsRow b T s v n xs) {k : Nat} (hk : v.ownBlock = some k) : ∃ cs, Blk w k T cs := by
  rcases h.2 with ⟨rfl, _⟩ | ⟨g, cap, cur, rfl, _, hg, _⟩
  · simp [Value.ownBlock] at hk
  · simp [Value.ownBlock] at hk
    subst hk
    exact ⟨cur, hg⟩
/-- frames of one's own, with all their rows -/
def FrsO (base : Nat) (w : World) (v : Value) (l : List Frm) : Prop :=
  w.ownsRow base 43 2 v l.length (frs l) ∧ ∀ f ∈ l, FrO base w (.slice f.a f.xss.length f.c) f.xss
theorem FrsO.nil (base : Nat) (w : World) : FrsO base w (.slice none 0 0) [] := ⟨World.ownsRow_nil _ _ _ _, fun f hf => by simp at hf⟩
theorem FrO.kept_own {base b' : Nat} {w w' : World} {v v' : Value} {xss : List (List Int)} {T : TypeId} {s n : Nat} {xs : List Value} (h : FrO base w v xss) (ho : w.ownsRow b' T s v' n xs) (hg : w.grownBy w' v'.ownBlock) (h1 : T ≠ 3) (h2 : T ≠ 22) : FrO base w' v xss := by
  cases hv : v'.ownBlock with
  | none => rw [hv] at hg; exact h.kept hg (fun k e => by simp at e)
  | some k =>
    rw [hv] at hg
    obtain ⟨cs, hb⟩ := own_type ho hv
    exact h.kept_blk hg hb h1 h2
theorem FrsO.below {base : Nat} {w w' : World} {v : Value} {l : List Frm} (h : FrsO base w v l) (hb : Below w.heap.size w w') : FrsO base w' v l :=
  ⟨h.1.kept (row := none) ⟨hb.os, hb.tape, hb.output, hb.size, fun k hk _ => hb.block k hk⟩ (by cases hv : v.ownBlock <;> simp), fun f hf => (h.2 f hf).below hb⟩
theorem FrsO.base {base base' : Nat} {w : World} {v : Value} {l : List Frm} (h : FrsO base w v l) (hb : base' ≤ base) : FrsO base' w v l := ⟨own_base h.1 hb, fun f hf => (h.2 f hf).base hb⟩
theorem FrsO.kept_blk {base : Nat} {w w' : World} {v : Value} {l : List Frm} {b : Nat} {T : TypeId} {cs : Array Value} (h : FrsO base w v l) (hg : w.grownBy w' (some b)) (hb : Blk w b T cs) (h1 : T ≠ 3) (h2 : T ≠ 22) (h3 : T ≠ 43) : FrsO base w' v l :=
  ⟨h.1.kept hg (.inr (blk_own_ne hb h.1 h3)), fun f hf => (h.2 f hf).kept_blk hg hb h1 h2⟩
theorem FrsO.alloc {base : Nat} {w : World} {v : Value} {l : List Frm} (h : FrsO base w v l) (o : Obj) : FrsO base (w.alloc o) v l :=
  ⟨h.1.alloc o, fun f hf => (h.2 f hf).kept (World.grownBy_alloc w o none) (fun k e => by simp at e)⟩
theorem frs_snoc (l : List Frm) (f : Frm) : frs (l ++ [f]) = frs l ++ [.int .i64 f.st, .slice f.a f.xss.length f.c] := by simp [frs]
theorem FrsO.snoc {base : Nat} {w w' : World} {v v' : Value} {l : List Frm} {f : Frm} (h : FrsO base w v l) (hf : FrO base w (.slice f.a f.xss.length f.c) f.xss) (hg : w.grownBy w' v.ownBlock) (ho : w'.ownsRow base 43 2 v' (l.length + 1) (frs l ++ [.int .i64 f.st, .slice f.a f.xss.length f.c])) : FrsO base w' v' (l ++ [f]) := by
  refine ⟨by rw [frs_snoc, List.length_append]; exact ho, fun g hg2 => ?_⟩
  rcases List.mem_append.1 hg2 with hm | hm
  · exact (h.2 g hm).kept_own h.1 hg (by decide) (by decide)
  · rw [List.mem_singleton.1 hm]
    exact hf.kept_own h.1 hg (by decide) (by decide)
theorem FrsO.recIn {base : Nat} {w : World} {v : Value} {l : List Frm} (h : FrsO base w v l) : ∃ a c, v = .slice a l.length c ∧ RecIn w a l := by
  obtain ⟨a, c, rfl, hc, hn, hm⟩ := own_cap h.1
  have hmx : maxLen = 9223372036854775807 := rfl
  refine ⟨a, c, rfl, hc, by omega, fun f hf => ?_⟩
  obtain ⟨a', c', vs, he, hcs, hr, hl⟩ := (h.2 f hf).cells
  simp only [Value.slice.injEq, true_and] at he
  obtain ⟨rfl, rfl⟩ := he
  exact ⟨hl, vs, hcs, hr⟩
theorem frm_last (fs : List Frm) (k : Nat) (h : fs.length = k + 1) : ∃ f, fs[k]? = some f ∧ lastR (fs.map frm) = f.st := by
  rcases List.eq_nil_or_concat fs with rfl | ⟨l', b, rfl⟩
  · simp at h
  · rw [List.concat_eq_append] at h ⊢
    rw [List.length_append, List.length_singleton] at h
    refine ⟨b, by rw [List.getElem?_append_right (by omega), show k - l'.length = 0 from by omega]; rfl, ?_⟩
    rw [List.map_append, List.map_singleton, lastR_snoc]; rfl

/-- what Unpack returns: the record, the error -/
def unpS (bs : List Chan) (l : List Nat) : Option (List Fr) := if bookErr bs = 0 then unpackR bs l.length l [] else none
def unpErr (bs : List Chan) (l : List Nat) : Int := if bookErr bs ≠ 0 then bookErr bs else if (unpS bs l).isSome then 0 else 5
def FrsRes (base : Nat) (res : Option (List Fr)) (err : Int) (e : Ending) (w' : World) : Prop := match res with
  | some out => ∃ v fs, fs.map frm = out ∧ e = .returned (.tuple #[v, .int .i64 err]) ∧ FrsO base w' v fs
  | none => e = .returned (.tuple #[.slice none 0 0, .int .i64 err])
def lenU (v : Value) : Nat := match v with | .slice _ n _ => n | _ => 0

set_option maxRecDepth 100000 in
set_option maxHeartbeats 4000000 in
theorem unpack_any (ao : Option Addr) (bs : List Chan) (cap : Nat) (ac : Option Addr) (l : List Nat) (cc : Nat) (w : World) (hb : BookIn w ao bs cap) (hc : ByIn w ac l cc) :
    Calls Tryz.prog 42 #[.slice ao bs.length cap, .slice ac l.length cc] w fun e w' => FrsRes w.heap.size (unpS bs l) (unpErr bs l) e w' ∧ Below w.heap.size w w' := by
  have HB := Lib.hid hb; have HC := Lib.hid hc
  have hlen := hb.len
  have hcl := hc.len
  have hck := checkBook_any ao bs cap w hb.cells (by omega) hb.lecap hb.cap2 hb.names hb.rates
  have HCK := Lib.hid hck
  clear hb hc hck
  by_cases h1 : bookErr bs = 0
  · have hok := bookErr_zero h1
    have H1 := Lib.hid h1
    have HR : Hid (unpS bs l = unpackR bs l.length l []) := Lib.hid (by rw [unpS, if_pos h1])
    have HE : Hid (unpErr bs l = if (unpS bs l).isSome then 0 else 5) := Lib.hid (by rw [unpErr, if_neg (by simpa using h1)])
    have hfc := fun (W : World) (a' : Option Addr) (l' : List Nat) (c' : Nat) (h : BookIn W ao bs cap) (h2 : ByIn W a' l' c') => first_code ao bs cap a' l' c' W h hok h2.cells h2.byte h2.len h2.lecap h2.cap2
    have HFC := Lib.hid hfc
    obtain ⟨i0, hi, hy0, hy1, hy2⟩ := info_parts Tryz.infoFrame
    clear h1 hok hfc
    go_enter Tryz.func42, Tryz.ntmps42
    go_wp2
    go_step3
    go_wp2_with fail
    refine HCK.out.mono ?_
    rintro e w1 ⟨rfl, hb1⟩
    rw [H1.out]
    have hz1 := hb1.size
    have HB1 := Lib.hid hb1
    clear hb1
    go_wp2
    go_step3
    go_wp2
    go_loopw [1, 7] (fun c v wr => ∃ (rest : List Nat) (a' : Option Addr) (c' f : Nat) (fs : List Frm), c = .slice a' rest.length c' ∧ ByIn w a' rest c' ∧ (rest ≠ [] → ∃ b off, a' = some ⟨b, off, none⟩) ∧ FrsO w.heap.size wr v fs ∧ fs.length ≤ 64 ∧ rest.length ≤ f ∧ unpackR bs f rest (fs.map frm) = unpackR bs l.length l [] ∧ Below w.heap.size w wr) (fun c _ _ => lenU c)
    case atStart =>
      refine ⟨l, ac, cc, l.length, [], rfl, HC.out, fun hne => HC.out.cells.addr (bys_ne (List.length_pos_iff.2 hne)), FrsO.nil _ _, by simp, Nat.le_refl _, rfl, HB1.out⟩
    case round =>
      obtain ⟨rest, a', c', f, fs, rfl, hby, hadr, hfs, h64, hf, hun, hbe⟩ := hrel
      have HUN := Lib.hid hun
      have hz := hbe.size
      clear hun
      by_cases h0 : rest.length = 0
      · obtain rfl : rest = [] := List.length_eq_zero_iff.1 h0
        have hu : unpackR bs l.length l [] = some (fs.map frm) := by rw [← HUN.out, unpackR_nil]
        have hr : unpS bs l = some (fs.map frm) := by rw [HR.out, hu]
        have he : unpErr bs l = 0 := by rw [HE.out, hr]; rfl
        have HR2 := Lib.hid hr; have HE2 := Lib.hid he; have HFS := Lib.hid hfs
        clear hu hr he hfs h0 hf
        go_wp2
        (try rw [Exit.noGoto_ret])
        go_ret2
        rw [HR2.out, HE2.out]
        exact ⟨⟨_, fs, rfl, rfl, HFS.out⟩, hbe⟩
      · have hfr := HFC.out wr a' rest c' (HB.out.below hbe (Nat.le_refl _)) (hby.below hbe (Nat.le_refl _))
        have HFR := Lib.hid hfr; have HBY := Lib.hid hby; have HFS := Lib.hid hfs
        have h0i : (0 : Int) < rest.length := by omega
        clear hfr hby hfs
        go_wp2_with fail
        refine HFR.out.mono ?_
        rintro e w2 ⟨hres, hb2⟩
        have hbe2 := hbe.trans (hb2.mono hz)
        have hfs2 := HFS.out.below hb2
        have hz2 := hb2.size
        obtain ⟨fa, fc, rfl, -⟩ := hfs2.recIn
        cases hfi : firstR bs rest with
        | none =>
          rw [hfi] at hres
          obtain rfl : e = .returned (.tuple #[.agg #[.int .i64 0, .slice none 0 0], .slice none 0 0, .bool false]) := hres
          have hu : unpackR bs l.length l [] = none := by rw [← HUN.out]; exact unpackR_none (by omega) hfi
          have hr : unpS bs l = none := by rw [HR.out, hu]
          have he : unpErr bs l = 5 := by rw [HE.out, hr]; rfl
          have HR2 := Lib.hid hr; have HE2 := Lib.hid he
          have hbe3 := hbe2.alloc (by omega) (.cells #[.int .i64 0, .slice none 0 0] 43)
          clear hu hr he hfs2 hb2
          go_wp2_with fail
          (try rw [Exit.noGoto_ret])
          go_ret2
          rw [HR2.out, HE2.out]
          exact ⟨rfl, hbe3⟩
        | some p =>
          obtain ⟨⟨st, xss⟩, n⟩ := p
          rw [hfi] at hres
          obtain ⟨v, c2, rfl, hfo⟩ := hres
          obtain ⟨a, c, vs, rfl, -, -, -⟩ := hfo.cells
          have hbe3 := hbe2.alloc (by omega) (.cells #[.int .i64 st, .slice a xss.length c] 43)
          have hxb := Blk.new w2 43 #[.int .i64 st, .slice a xss.length c]
          have z0 := hxb.c0
          have z1 := hxb.c1
          by_cases hbad : fs.length = 64
          · have hu : unpackR bs l.length l [] = none := by rw [← HUN.out]; exact unpackR_bad (by omega) hfi (.inl (by simpa using hbad))
            have hr : unpS bs l = none := by rw [HR.out, hu]
            have he : unpErr bs l = 5 := by rw [HE.out, hr]; rfl
            have HR2 := Lib.hid hr; have HE2 := Lib.hid he
            clear hu hr he hfs2 hb2 hfo
            go_wp2_with fail
            (try rw [Exit.noGoto_ret])
            go_ret2
            rw [HR2.out, HE2.out]
            exact ⟨rfl, hbe3⟩
          · obtain ⟨hfok, -, hnl, -, hn7⟩ := firstR_sound hfi
            have hst0 : 0 ≤ st := by
              simp only [frOK, inB, Bool.and_eq_true, decide_eq_true_eq] at hfok
              omega
            have hnc : (n : Int) ≤ rest.length := by omega
            have hnc2 : (rest.length : Int) ≤ c' := by have := HBY.out.lecap; omega
            have hxs : (w2.alloc (.cells #[.int .i64 st, .slice a xss.length c] 43)).heap.size = w2.heap.size + 1 := by simp
            have hfs3 := hfs2.alloc (.cells #[.int .i64 st, .slice a xss.length c] 43)
            have hfo3 := (hfo.base (show w.heap.size ≤ wr.heap.size from hz)).kept (World.grownBy_alloc w2 (.cells #[.int .i64 st, .slice a xss.length c] 43) none) (fun k e => by simp at e)
            have HFS3 := Lib.hid hfs3; have HFO3 := Lib.hid hfo3; have HXB := Lib.hid hxb; have HFI := Lib.hid hfi
            clear hfs2 hfs3 hfo hfo3 hxb hb2 hfi hfok
            obtain ⟨ba, oa, rfl⟩ := hadr (List.length_pos_iff.1 (by omega))
            rcases Nat.eq_zero_or_pos fs.length with hk0 | hk0
            · have hgood : ¬ ((fs.map frm).length = 64 ∨ st ≤ lastR (fs.map frm)) := by
                rw [List.length_eq_zero_iff.1 hk0]; simp [lastR]; omega
              have hkz : ¬ 0 < fs.length := by omega
              have HG := Lib.hid hgood; have HK := Lib.hid hk0
              clear hgood hk0
              go_wp2_with fail
              go_quiet (fail)
              go_wp2_with fail
              clear hkz
              -- one frame more
              have HD : Hid (FrsO w.heap.size ((w2.alloc (.cells #[.int .i64 st, .slice a xss.length c] 43)).drewN nq) (.slice fa fs.length fc) fs) := Lib.hid HFS3.out
              have HFD : Hid (FrO w.heap.size ((w2.alloc (.cells #[.int .i64 st, .slice a xss.length c] 43)).drewN nq) (.slice a xss.length c) xss) := Lib.hid HFO3.out
              have z0d : ((w2.alloc (.cells #[.int .i64 st, .slice a xss.length c] 43)).drewN nq).cell? ⟨w2.heap.size, 0, none⟩ = some (.int .i64 st) := z0
              have z1d : ((w2.alloc (.cells #[.int .i64 st, .slice a xss.length c] 43)).drewN nq).cell? ⟨w2.heap.size, 1, none⟩ = some (.slice a xss.length c) := z1
              have hbed := bel_drewN hbe3 nq
              have hzd : ((w2.alloc (.cells #[.int .i64 st, .slice a xss.length c] 43)).drewN nq).heap.size = w2.heap.size + 1 := by simp
              have hze := hbed.size
              have HZD := Lib.hid hzd
              clear HFS3 HFO3 z0 z1 hbe3 hxs hzd
              generalize (w2.alloc (.cells #[.int .i64 st, .slice a xss.length c] 43)).drewN nq = wd at *
              go_region_law (refine step_append_lies _ (by rfl) _ _ _ (by rfl) w.heap.size 43 i0 _ 2 32 Tryz.underlying38 hi hy0 hy1 hy2 rfl (by omega) (.slice fa fs.length fc) fs.length (frs fs) (by rfl) ((HD.out.1.alloc _).drew) ⟨wd.heap.size, 0, none⟩ 1 1 [.int .i64 st, .slice a xss.length c] (by rfl) (by rfl) (World.news_of_block (cs := #[.int .i64 st, .slice a xss.length c]) (t := 43) (fr := (0, 0)) (heap_alloc_new wd _)) (by simp [Value.oneCell']) (by omega) (by unfold maxLen; omega) (by omega) (by simp; omega) (wd.heap.size + 1) (by simp) ?_; intro gg cp wz hown1 hgrow hat hlt1)
              have hfsz := HD.out.alloc (.cells #[.int .i64 st, .slice a xss.length c] 43)
              have hfoz := HFD.out.kept (World.grownBy_alloc wd (.cells #[.int .i64 st, .slice a xss.length c] 43) none) (fun k e => by simp at e)
              have hfs5 := FrsO.snoc (w' := wz) (f := ⟨st, a, c, xss⟩) hfsz hfoz ⟨hgrow.os, hgrow.tape, hgrow.output, hgrow.size, hgrow.block⟩ hown1
              have hbez := (hbed.alloc hze (.cells #[.int .i64 st, .slice a xss.length c] 43)).grown (w' := wz) ⟨hgrow.os, hgrow.tape, hgrow.output, hgrow.size, hgrow.block⟩ (by simp; omega) (fun j e => (HD.out.1.lt j e).1)
              have HF5 := Lib.hid hfs5; have HBZ := Lib.hid hbez
              clear hfsz hfoz hfs5 hown1 hgrow hat hlt1 hbez z0d z1d hbed
              obtain ⟨g, rfl⟩ : ∃ g, f = g + 1 := ⟨f - 1, by omega⟩
              have hunp : unpackR bs g (rest.drop n) ((fs ++ [(⟨st, a, c, xss⟩ : Frm)]).map frm) = unpackR bs l.length l [] := by
                rw [← HUN.out, unpackR_step (by omega) HFI.out HG.out]
                simp [frm]
              have HUNP := Lib.hid hunp
              have hrl : (rest.drop n).length = rest.length - n := List.length_drop
              have HRL := Lib.hid hrl
              have hby3 : ByIn w (if c' = n then some ⟨ba, oa, none⟩ else some ⟨ba, oa + n, none⟩) (rest.drop n) (c' - n) := by
                refine ⟨?_, fun d hd => HBY.out.byte d (List.mem_of_mem_drop hd), by have := HBY.out.len; omega, by omega, by have := HBY.out.cap2; omega⟩
                split
                · rw [List.drop_eq_nil_of_le (by omega)]; exact Cells.nil _ _
                · refine .inr ⟨ba, oa + n, rfl, fun j u hu => ?_⟩
                  rw [Nat.add_assoc]
                  refine HBY.out.cells.at ?_
                  rw [← hu, bys, bys, List.map_drop, List.getElem?_drop]
              clear hunp hrl
              have HBY3 := Lib.hid hby3
              clear hby3
              go_wp2
              · have hcz : c' = n := by assumption
                have hby3 := HBY3.out
                rw [if_pos hcz, show c' - n = 0 from by omega] at hby3
                refine ⟨⟨rest.drop n, some ⟨ba, oa, none⟩, 0, ⟨rfl, HRL.out.symm, rfl⟩, hby3, fun _ => ⟨_, _, rfl⟩, g, fs ++ [⟨st, a, c, xss⟩], by simpa using HF5.out, by rw [List.length_append, List.length_singleton]; omega, by rw [HRL.out]; omega, HUNP.out, HBZ.out⟩, ?_⟩
                simp only [lenU]; omega
              · have hcz : ¬ c' = n := by assumption
                have hby3 := HBY3.out
                rw [if_neg hcz] at hby3
                refine ⟨⟨rest.drop n, some ⟨ba, oa + n, none⟩, c' - n, ⟨rfl, HRL.out.symm, rfl⟩, hby3, fun _ => ⟨_, _, rfl⟩, g, fs ++ [⟨st, a, c, xss⟩], by simpa using HF5.out, by rw [List.length_append, List.length_singleton]; omega, by rw [HRL.out]; omega, HUNP.out, HBZ.out⟩, ?_⟩
                simp only [lenU]; omega
            · obtain ⟨k, hk⟩ : ∃ k, fs.length = k + 1 := ⟨fs.length - 1, by omega⟩
              obtain ⟨lf, hlf, hlast⟩ := frm_last fs k hk
              obtain ⟨fa', fc', he, hri⟩ := HFS3.out.recIn
              simp only [Value.slice.injEq, true_and] at he
              obtain ⟨rfl, rfl⟩ := he
              obtain ⟨fb, fo, rfl⟩ := hri.cells.addr (frs_ne (by omega))
              have y0 := hri.cells.at (frs_get hlf).1
              have q1 : IntKind.i64.wrap ((fs.length : Int) - 1) = (fs.length : Int) - 1 := IntWalk.i64_in _ (by omega)
              have q2 : ((fs.length : Int) - 1).toNat = k := by omega
              have q3 : (0 : Int) ≤ (fs.length : Int) - 1 := by omega
              have q4 : (fs.length : Int) - 1 < fs.length := by omega
              have hkz : 0 < fs.length := hk0
              by_cases hls : st ≤ lf.st
              · have hu : unpackR bs l.length l [] = none := by rw [← HUN.out]; exact unpackR_bad (by omega) HFI.out (.inr (by rw [hlast]; exact hls))
                have hr : unpS bs l = none := by rw [HR.out, hu]
                have he : unpErr bs l = 5 := by rw [HE.out, hr]; rfl
                have HR2 := Lib.hid hr; have HE2 := Lib.hid he
                clear hu hr he hri hlf hlast hk hk0
                go_wp2_with fail
                go_quiet (fail)
                go_wp2_with fail
                (try rw [Exit.noGoto_ret])
                go_ret2
                rw [HR2.out, HE2.out]
                exact ⟨rfl, bel_drewN hbe3 _⟩
              · have hgood : ¬ ((fs.map frm).length = 64 ∨ st ≤ lastR (fs.map frm)) := by
                  rw [hlast]; simp; omega
                have HG := Lib.hid hgood; have HK := Lib.hid hk
                clear hgood hk hk0 hri hlf hlast
                go_wp2_with fail
                go_quiet (fail)
                go_wp2_with fail
                clear hkz q1 q2 q3 q4 y0
                -- one frame more
                have HD : Hid (FrsO w.heap.size ((w2.alloc (.cells #[.int .i64 st, .slice a xss.length c] 43)).drewN nq) (.slice (some ⟨fb, fo, none⟩) fs.length fc) fs) := Lib.hid HFS3.out
                have HFD : Hid (FrO w.heap.size ((w2.alloc (.cells #[.int .i64 st, .slice a xss.length c] 43)).drewN nq) (.slice a xss.length c) xss) := Lib.hid HFO3.out
                have z0d : ((w2.alloc (.cells #[.int .i64 st, .slice a xss.length c] 43)).drewN nq).cell? ⟨w2.heap.size, 0, none⟩ = some (.int .i64 st) := z0
                have z1d : ((w2.alloc (.cells #[.int .i64 st, .slice a xss.length c] 43)).drewN nq).cell? ⟨w2.heap.size, 1, none⟩ = some (.slice a xss.length c) := z1
                have hbed := bel_drewN hbe3 nq
                have hzd : ((w2.alloc (.cells #[.int .i64 st, .slice a xss.length c] 43)).drewN nq).heap.size = w2.heap.size + 1 := by simp
                have hze := hbed.size
                have HZD := Lib.hid hzd
                clear HFS3 HFO3 z0 z1 hbe3 hxs hzd
                generalize (w2.alloc (.cells #[.int .i64 st, .slice a xss.length c] 43)).drewN nq = wd at *
                go_region_law (refine step_append_lies _ (by rfl) _ _ _ (by rfl) w.heap.size 43 i0 _ 2 32 Tryz.underlying38 hi hy0 hy1 hy2 rfl (by omega) (.slice (some ⟨fb, fo, none⟩) fs.length fc) fs.length (frs fs) (by rfl) ((HD.out.1.alloc _).drew) ⟨wd.heap.size, 0, none⟩ 1 1 [.int .i64 st, .slice a xss.length c] (by rfl) (by rfl) (World.news_of_block (cs := #[.int .i64 st, .slice a xss.length c]) (t := 43) (fr := (0, 0)) (heap_alloc_new wd _)) (by simp [Value.oneCell']) (by omega) (by unfold maxLen; omega) (by omega) (by simp; omega) (wd.heap.size + 1) (by simp) ?_; intro gg cp wz hown1 hgrow hat hlt1)
                have hfsz := HD.out.alloc (.cells #[.int .i64 st, .slice a xss.length c] 43)
                have hfoz := HFD.out.kept (World.grownBy_alloc wd (.cells #[.int .i64 st, .slice a xss.length c] 43) none) (fun k e => by simp at e)
                have hfs5 := FrsO.snoc (w' := wz) (f := ⟨st, a, c, xss⟩) hfsz hfoz ⟨hgrow.os, hgrow.tape, hgrow.output, hgrow.size, hgrow.block⟩ hown1
                have hbez := (hbed.alloc hze (.cells #[.int .i64 st, .slice a xss.length c] 43)).grown (w' := wz) ⟨hgrow.os, hgrow.tape, hgrow.output, hgrow.size, hgrow.block⟩ (by simp; omega) (fun j e => (HD.out.1.lt j e).1)
                have HF5 := Lib.hid hfs5; have HBZ := Lib.hid hbez
                clear hfsz hfoz hfs5 hown1 hgrow hat hlt1 hbez z0d z1d hbed
                obtain ⟨g, rfl⟩ : ∃ g, f = g + 1 := ⟨f - 1, by omega⟩
                have hunp : unpackR bs g (rest.drop n) ((fs ++ [(⟨st, a, c, xss⟩ : Frm)]).map frm) = unpackR bs l.length l [] := by
                  rw [← HUN.out, unpackR_step (by omega) HFI.out HG.out]
                  simp [frm]
                have HUNP := Lib.hid hunp
                have hrl : (rest.drop n).length = rest.length - n := List.length_drop
                have HRL := Lib.hid hrl
                have hby3 : ByIn w (if c' = n then some ⟨ba, oa, none⟩ else some ⟨ba, oa + n, none⟩) (rest.drop n) (c' - n) := by
                  refine ⟨?_, fun d hd => HBY.out.byte d (List.mem_of_mem_drop hd), by have := HBY.out.len; omega, by omega, by have := HBY.out.cap2; omega⟩
                  split
                  · rw [List.drop_eq_nil_of_le (by omega)]; exact Cells.nil _ _
                  · refine .inr ⟨ba, oa + n, rfl, fun j u hu => ?_⟩
                    rw [Nat.add_assoc]
                    refine HBY.out.cells.at ?_
                    rw [← hu, bys, bys, List.map_drop, List.getElem?_drop]
                clear hunp hrl
                have HBY3 := Lib.hid hby3
                clear hby3
                go_wp2
                · have hcz : c' = n := by assumption
                  have hby3 := HBY3.out
                  rw [if_pos hcz, show c' - n = 0 from by omega] at hby3
                  refine ⟨⟨rest.drop n, some ⟨ba, oa, none⟩, 0, ⟨rfl, HRL.out.symm, rfl⟩, hby3, fun _ => ⟨_, _, rfl⟩, g, fs ++ [⟨st, a, c, xss⟩], by simpa using HF5.out, by rw [List.length_append, List.length_singleton]; omega, by rw [HRL.out]; omega, HUNP.out, HBZ.out⟩, ?_⟩
                  simp only [lenU]; omega
                · have hcz : ¬ c' = n := by assumption
                  have hby3 := HBY3.out
                  rw [if_neg hcz] at hby3
                  refine ⟨⟨rest.drop n, some ⟨ba, oa + n, none⟩, c' - n, ⟨rfl, HRL.out.symm, rfl⟩, hby3, fun _ => ⟨_, _, rfl⟩, g, fs ++ [⟨st, a, c, xss⟩], by simpa using HF5.out, by rw [List.length_append, List.length_singleton]; omega, by rw [HRL.out]; omega, HUNP.out, HBZ.out⟩, ?_⟩
                  simp only [lenU]; omega
  · have hr : unpS bs l = none := by rw [unpS, if_neg h1]
    have he : unpErr bs l = bookErr bs := by rw [unpErr, if_pos h1]
    have HR2 := Lib.hid hr; have HE2 := Lib.hid he
    have h3 : (bookErr bs != 0) = true := by simpa using h1
    have h4 : (bookErr bs == 0) = false := by simpa using h1
    clear hr he
    go_enter Tryz.func42, Tryz.ntmps42
    go_wp2
    go_step3
    go_wp2_with fail
    refine HCK.out.mono ?_
    rintro e w1 ⟨rfl, hb1⟩
    go_wp2
    (try rw [Exit.noGoto_ret])
    go_ret2
    rw [HR2.out, HE2.out]
    exact ⟨rfl, hb1⟩
end Go.Proofs.YtoochleabcjljaaGreatDoor

/- Codes: Unpack as the reference does it. -/
namespace Go.Proofs.YtoochleabcjljaaGreatDoor
open Go.RowKit

set_option maxRecDepth 100000 in
set_option maxHeartbeats 4000000 in
theorem refUnpack_any (ao : Option Addr) (bs : List Chan) (cap : Nat) (ac : Option Addr) (l : List Nat) (cc : Nat) (w : World) (hb : BookIn w ao bs cap) (hc : ByIn w ac l cc) :
    Calls Tryz.prog 43 #[.slice ao bs.length cap, .slice ac l.length cc] w fun e w' => FrsRes w.heap.size (unpS bs l) (unpErr bs l) e w' ∧ Below w.heap.size w w' := by
  have HB := Lib.hid hb; have HC := Lib.hid hc
  have hlen := hb.len
  have hcl := hc.len
  have hck := refCheckBook_any ao bs cap w hb.in0
  have HCK := Lib.hid hck
  clear hb hc hck
  by_cases h1 : bookErr bs = 0
  · have hok := bookErr_zero h1
    have H1 := Lib.hid h1
    have hun := unpack_all bs l.length l [] ⟨by simp, rfl⟩
    have HR : Hid (unpS bs l = match allR bs l.length l [] with | some res => if goodF res then some res else none | none => none) := Lib.hid (by rw [unpS, if_pos h1, hun] <;> rfl)
    have HE : Hid (unpErr bs l = if (unpS bs l).isSome then 0 else 5) := Lib.hid (by rw [unpErr, if_neg (by simpa using h1)])
    have hfc := fun (W : World) (a' : Option Addr) (l' : List Nat) (c' : Nat) (h : BookIn W ao bs cap) (h2 : ByIn W a' l' c') => begins_any ao bs cap a' l' c' W h hok h2
    have HFC := Lib.hid hfc
    have HRG := Lib.hid (fun fs h => recErr_good (bs := bs) (fs := fs) h1 h)
    obtain ⟨i0, hi, hy0, hy1, hy2⟩ := info_parts Tryz.infoFrame
    clear h1 hok hfc hun
    go_enter Tryz.func43, Tryz.ntmps43
    go_wp2_with fail
    refine HCK.out.mono ?_
    rintro e w1 ⟨rfl, hb1⟩
    rw [H1.out]
    have hz1 := hb1.size
    have HB1 := Lib.hid hb1
    clear hb1
    go_wp2
    go_loopw [1, 7] (fun c v wr => ∃ (rest : List Nat) (a' : Option Addr) (c' f : Nat) (fs : List Frm), c = .slice a' rest.length c' ∧ ByIn w a' rest c' ∧ (rest ≠ [] → ∃ b off, a' = some ⟨b, off, none⟩) ∧ FrsO w.heap.size wr v fs ∧ fs.length + rest.length ≤ l.length ∧ rest.length ≤ f ∧ allR bs f rest (fs.map frm) = allR bs l.length l [] ∧ (∀ f ∈ fs, frOK bs f.st f.xss = true) ∧ Below w.heap.size w wr) (fun c _ _ => lenU c)
    case atStart =>
      refine ⟨l, ac, cc, l.length, [], rfl, HC.out, fun hne => HC.out.cells.addr (bys_ne (List.length_pos_iff.2 hne)), FrsO.nil _ _, by simp, Nat.le_refl _, rfl, by simp, HB1.out⟩
    case round =>
      obtain ⟨rest, a', c', f, fs, rfl, hby, hadr, hfs, h64, hf, hun, hfok, hbe⟩ := hrel
      have HUN := Lib.hid hun; have HFOK := Lib.hid hfok
      have hz := hbe.size
      clear hun hfok
      by_cases h0 : rest.length = 0
      · obtain rfl : rest = [] := List.length_eq_zero_iff.1 h0
        have hu : allR bs l.length l [] = some (fs.map frm) := by rw [← HUN.out, allR_nil]
        have hgf := HRG.out fs HFOK.out
        obtain ⟨fa, fc, rfl, hri⟩ := hfs.recIn
        have hcr := refCheckRecord_any ao bs cap fa fs fc wr (HB.out.below hbe (Nat.le_refl _)) hri
        have HCR := Lib.hid hcr
        have HFS := Lib.hid hfs
        by_cases hgd : recErr bs fs = 0
        · have hr : unpS bs l = some (fs.map frm) := by rw [HR.out, hu]; simp only; rw [if_pos (hgf.1 hgd)]
          have he : unpErr bs l = 0 := by rw [HE.out, hr]; rfl
          have HR2 := Lib.hid hr; have HE2 := Lib.hid he; have HGD := Lib.hid hgd
          clear hu hr he hfs h0 hf hgf hri hcr hgd
          go_wp2_with fail
          refine HCR.out.mono ?_
          rintro e w2 ⟨rfl, hb2⟩
          rw [HGD.out]
          have hfs2 := HFS.out.below hb2
          have hbe2 := hbe.trans (hb2.mono hz)
          have HFS2 := Lib.hid hfs2
          clear hb2 hfs2
          go_wp2
          go_ret2
          rw [HR2.out, HE2.out]
          exact ⟨⟨_, fs, rfl, rfl, HFS2.out⟩, hbe2⟩
        · have hr : unpS bs l = none := by rw [HR.out, hu]; simp only; rw [if_neg (fun h => hgd (hgf.2 h))]
          have he : unpErr bs l = 5 := by rw [HE.out, hr]; rfl
          have HR2 := Lib.hid hr; have HE2 := Lib.hid he
          have hgb : (recErr bs fs != 0) = true := by rw [bne_iff_ne]; exact hgd
          clear hu hr he hfs h0 hf hgf hri hcr
          go_wp2_with fail
          refine HCR.out.mono ?_
          rintro e w2 ⟨rfl, hb2⟩
          have hbe2 := hbe.trans (hb2.mono hz)
          clear hb2
          go_wp2
          go_ret2
          rw [HR2.out, HE2.out]
          exact ⟨rfl, hbe2⟩
      · have hfr := HFC.out wr a' rest c' (HB.out.below hbe (Nat.le_refl _)) (hby.below hbe (Nat.le_refl _))
        have HFR := Lib.hid hfr; have HBY := Lib.hid hby; have HFS := Lib.hid hfs
        have h0i : (0 : Int) < rest.length := by omega
        clear hfr hby hfs
        go_wp2_with fail
        refine HFR.out.mono ?_
        rintro e w2 ⟨hres, hb2⟩
        have hbe2 := hbe.trans (hb2.mono hz)
        have hfs2 := HFS.out.below hb2
        have hz2 := hb2.size
        obtain ⟨fa, fc, rfl, -⟩ := hfs2.recIn
        cases hfi : firstR bs rest with
        | none =>
          rw [hfi] at hres
          obtain rfl : e = .returned (.tuple #[.agg #[.int .i64 0, .slice none 0 0], .int .i64 0, .bool false]) := hres
          have hu : allR bs l.length l [] = none := by rw [← HUN.out]; exact allR_none (by omega) hfi
          have hr : unpS bs l = none := by rw [HR.out, hu]
          have he : unpErr bs l = 5 := by rw [HE.out, hr]; rfl
          have HR2 := Lib.hid hr; have HE2 := Lib.hid he
          have hbe3 := hbe2.alloc (by omega) (.cells #[.int .i64 0, .slice none 0 0] 43)
          clear hu hr he hfs2 hb2
          go_wp2_with fail
          go_ret2
          rw [HR2.out, HE2.out]
          exact ⟨rfl, hbe3⟩
        | some p =>
          obtain ⟨⟨st, xss⟩, n⟩ := p
          rw [hfi] at hres
          obtain ⟨v, rfl, hfo⟩ := hres
          obtain ⟨a, c, vs, rfl, -, -, -⟩ := hfo.cells
          have hbe3 := hbe2.alloc (by omega) (.cells #[.int .i64 st, .slice a xss.length c] 43)
          have hxb := Blk.new w2 43 #[.int .i64 st, .slice a xss.length c]
          have z0 := hxb.c0
          have z1 := hxb.c1
          obtain ⟨hfok, -, hnl, -, hn7⟩ := firstR_sound hfi
          have hnc : (n : Int) ≤ rest.length := by omega
          have hnc2 : (rest.length : Int) ≤ c' := by have := HBY.out.lecap; omega
          have hxs : (w2.alloc (.cells #[.int .i64 st, .slice a xss.length c] 43)).heap.size = w2.heap.size + 1 := by simp
          have hfs3 := hfs2.alloc (.cells #[.int .i64 st, .slice a xss.length c] 43)
          have hfo3 := (hfo.base (show w.heap.size ≤ wr.heap.size from hz)).kept (World.grownBy_alloc w2 (.cells #[.int .i64 st, .slice a xss.length c] 43) none) (fun k e => by simp at e)
          have HFS3 := Lib.hid hfs3; have HFO3 := Lib.hid hfo3; have HFI := Lib.hid hfi; have HK := Lib.hid hfok; have HXS := Lib.hid hxs
          have hz3 : w.heap.size ≤ (w2.alloc (.cells #[.int .i64 st, .slice a xss.length c] 43)).heap.size := hbe3.size
          clear hfs2 hfs3 hfo hfo3 hxb hb2 hfi hfok hxs
          obtain ⟨ba, oa, rfl⟩ := hadr (List.length_pos_iff.1 (by omega))
          have hnb : ((w2.alloc (.cells #[.int .i64 st, .slice a xss.length c] 43)).alloc (.cells #[.int .i64 st, .slice a xss.length c] 43)).heap[w2.heap.size + 1]? = some (.cells #[.int .i64 st, .slice a xss.length c] 43 (0, 0)) := by
            have := World.alloc_heap_new (w2.alloc (.cells #[.int .i64 st, .slice a xss.length c] 43)) (.cells #[.int .i64 st, .slice a xss.length c] 43)
            rw [HXS.out] at this; exact this
          have HNB := Lib.hid hnb
          clear hnb
          go_wp2_with (at_builtin; refine wpList_append_lies _ rfl _ _ _ rfl w.heap.size 43 i0 _ 2 32 Tryz.underlying38 hi hy0 hy1 hy2 rfl (by decide) (.slice fa fs.length fc) fs.length (frs fs) rfl (HFS3.out.1.alloc _) ⟨w2.heap.size + 1, 0, none⟩ 1 1 [.int .i64 st, .slice a xss.length c] rfl rfl (World.news_of_block HNB.out) (by simp [Value.oneCell']) (by omega) (by unfold maxLen; omega) (by omega) (by simp; omega) (w2.heap.size + 2) (by simp) ?_)
          intro gg cp wz hown1 hgrow hat hlt1
          have hfsz := HFS3.out.alloc (.cells #[.int .i64 st, .slice a xss.length c] 43)
          have hfoz := HFO3.out.kept (World.grownBy_alloc (w2.alloc (.cells #[.int .i64 st, .slice a xss.length c] 43)) (.cells #[.int .i64 st, .slice a xss.length c] 43) none) (fun k e => by simp at e)
          have hfs5 := FrsO.snoc (w' := wz) (f := ⟨st, a, c, xss⟩) hfsz hfoz ⟨hgrow.os, hgrow.tape, hgrow.output, hgrow.size, hgrow.block⟩ hown1
          have hbez := (hbe3.alloc hz3 (.cells #[.int .i64 st, .slice a xss.length c] 43)).grown (w' := wz) ⟨hgrow.os, hgrow.tape, hgrow.output, hgrow.size, hgrow.block⟩ (by simp; omega) (fun j e => (HFS3.out.1.lt j e).1)
          have HF5 := Lib.hid hfs5; have HBZ := Lib.hid hbez
          clear hfsz hfoz hfs5 hown1 hgrow hat hlt1 hbez z0 z1
          obtain ⟨g, rfl⟩ : ∃ g, f = g + 1 := ⟨f - 1, by omega⟩
          have hunp : allR bs g (rest.drop n) ((fs ++ [(⟨st, a, c, xss⟩ : Frm)]).map frm) = allR bs l.length l [] := by
            rw [← HUN.out, allR_step (by omega) HFI.out]
            simp [frm]
          have hfokn : ∀ f ∈ fs ++ [(⟨st, a, c, xss⟩ : Frm)], frOK bs f.st f.xss = true := by
            intro f hf2
            rcases List.mem_append.1 hf2 with h | h
            · exact HFOK.out f h
            · rw [List.mem_singleton.1 h]; exact HK.out
          have HUNP := Lib.hid hunp; have HFN := Lib.hid hfokn
          have hrl : (rest.drop n).length = rest.length - n := List.length_drop
          have HRL := Lib.hid hrl
          have hby3 : ByIn w (if c' = n then some ⟨ba, oa, none⟩ else some ⟨ba, oa + n, none⟩) (rest.drop n) (c' - n) := by
            refine ⟨?_, fun d hd => HBY.out.byte d (List.mem_of_mem_drop hd), by have := HBY.out.len; omega, by omega, by have := HBY.out.cap2; omega⟩
            split
            · rw [List.drop_eq_nil_of_le (by omega)]; exact Cells.nil _ _
            · refine .inr ⟨ba, oa + n, rfl, fun j u hu => ?_⟩
              rw [Nat.add_assoc]
              refine HBY.out.cells.at ?_
              rw [← hu, bys, bys, List.map_drop, List.getElem?_drop]
          clear hunp hrl hfokn
          have HBY3 := Lib.hid hby3
          clear hby3
          go_wp2
          refine ⟨⟨rest.drop n, if c' = n then some ⟨ba, oa, none⟩ else some ⟨ba, oa + n, none⟩, c' - n, g, fs ++ [⟨st, a, c, xss⟩], by rw [HRL.out], HBY3.out, fun _ => by split <;> exact ⟨_, _, rfl⟩, by simpa using HF5.out, by rw [List.length_append, List.length_singleton, HRL.out]; omega, by rw [HRL.out]; omega, HUNP.out, HFN.out, HBZ.out⟩, ?_⟩
          simp only [lenU]; omega
  · have hr : unpS bs l = none := by rw [unpS, if_neg h1]
    have he : unpErr bs l = bookErr bs := by rw [unpErr, if_pos h1]
    have HR2 := Lib.hid hr; have HE2 := Lib.hid he
    have h3 : (bookErr bs != 0) = true := by simpa using h1
    have h4 : (bookErr bs == 0) = false := by simpa using h1
    clear hr he
    go_enter Tryz.func43, Tryz.ntmps43
    go_wp2_with fail
    refine HCK.out.mono ?_
    rintro e w1 ⟨rfl, hb1⟩
    go_wp2
    go_ret2
    rw [HR2.out, HE2.out]
    exact ⟨rfl, hb1⟩
end Go.Proofs.YtoochleabcjljaaGreatDoor

/- Codes: spans, over whatever is asked of each place. -/
namespace Go.Proofs.YtoochleabcjljaaGreatDoor
open Go.RowKit

/-- blocks of some types are as they were -/
def TKeep (P : TypeId → Prop) (w w' : World) : Prop := w.heap.size ≤ w'.heap.size ∧ ∀ k T cs, P T → Blk w k T cs → Blk w' k T cs
theorem TKeep.refl (P : TypeId → Prop) (w : World) : TKeep P w w := ⟨Nat.le_refl _, fun _ _ _ _ h => h⟩
theorem TKeep.trans {P : TypeId → Prop} {a b c : World} (h : TKeep P a b) (k : TKeep P b c) : TKeep P a c := ⟨Nat.le_trans h.1 k.1, fun i T cs hp hb => k.2 i T cs hp (h.2 i T cs hp hb)⟩
theorem TKeep.of_grown {P : TypeId → Prop} {w w' : World} {row : Option Nat} (hg : w.grownBy w' row) (hr : ∀ k, row = some k → ∃ T cs, Blk w k T cs ∧ ¬ P T) : TKeep P w w' := by
  refine ⟨hg.size, fun k T cs hp hb => hb.kept hg (fun e => ?_)⟩
  obtain ⟨T', cs', hb', hn⟩ := hr k e.symm
  have h1 : w.heap[k]? = _ := hb
  have h2 : w.heap[k]? = _ := hb'
  rw [h1] at h2
  simp at h2
  exact hn (by rw [← h2.2]; exact hp)
theorem TKeep.of_own {P : TypeId → Prop} {w w' : World} {b : Nat} {T : TypeId} {s n : Nat} {v : Value} {xs : List Value} (ho : w.ownsRow b T s v n xs) (hg : w.grownBy w' v.ownBlock) (hn : ¬ P T) : TKeep P w w' :=
  .of_grown hg (fun k e => by obtain ⟨cs, hb⟩ := own_type ho e; exact ⟨T, cs, hb, hn⟩)
theorem TKeep.of_below {P : TypeId → Prop} {w w' : World} (hb : Below w.heap.size w w') : TKeep P w w' := ⟨hb.size, fun _ _ _ _ h => h.below hb h.lt⟩
theorem TKeep.own {P : TypeId → Prop} {w w' : World} {b : Nat} {T : TypeId} {s n : Nat} {v : Value} {xs : List Value} (h : TKeep P w w') (hp : P T) (ho : w.ownsRow b T s v n xs) : w'.ownsRow b T s v n xs := by
  refine ⟨ho.1, ?_⟩
  rcases ho.2 with hn | ⟨g, cap, cur, rfl, hb, hg, rest⟩
  · exact .inl hn
  · exact .inr ⟨g, cap, cur, rfl, hb, h.2 g T cur hp hg, rest⟩
theorem TKeep.frO {P : TypeId → Prop} {w w' : World} {b : Nat} {v : Value} {xss : List (List Int)} (h : TKeep P w w') (h1 : P 3) (h2 : P 22) (hf : FrO b w v xss) : FrO b w' v xss := by
  obtain ⟨vs, e1, e2, e3⟩ := hf
  exact ⟨vs, e1, h.own h2 e2, fun i x xs hx hxs => h.own h1 (e3 i x xs hx hxs)⟩
theorem TKeep.frsO {P : TypeId → Prop} {w w' : World} {b : Nat} {v : Value} {l : List Frm} (h : TKeep P w w') (h1 : P 3) (h2 : P 22) (h3 : P 43) (hf : FrsO b w v l) : FrsO b w' v l :=
  ⟨h.own h3 hf.1, fun f hm => h.frO h1 h2 (hf.2 f hm)⟩
/-- what spans itself keeps, and what is asked of the callee -/
def SpT (T : TypeId) : Prop := T = 71 ∨ T = 54
def NSpT (T : TypeId) : Prop := ¬ SpT T

theorem joinS_snoc (ss : List (Int × Int)) (p : Int × Int) (i : Nat) : joinS (ss ++ [p]) i = if p.2 = (i : Int) then ss ++ [(p.1, (i : Int) + 1)] else ss ++ [p] ++ [((i : Int), (i : Int) + 1)] := by
  unfold joinS; simp
theorem joinS_nil (i : Nat) : joinS [] i = [((i : Int), (i : Int) + 1)] := rfl
theorem prs_last (ss : List (Int × Int)) (p : Int × Int) (u : Int) : (prs (ss ++ [p])).set (ss.length * 2 + 1) (.int .i64 u) = prs (ss ++ [(p.1, u)]) := by
  rw [prs_append, prs_append, List.set_append_right _ _ (by rw [prs_length]; omega), prs_length, show ss.length * 2 + 1 - ss.length * 2 = 1 from by omega]
  rfl

set_option maxRecDepth 100000 in
set_option maxHeartbeats 1000000 in
theorem spans1_any (base bO : Nat) (hO : base ≤ bO) (i : Nat) (ss : List (Int × Int)) (v : Value) (w : World) (hi : i ≤ 1099511627776) (hl : ss.length ≤ 1099511627776) (hb : Blk w bO 54 #[v]) (ho : w.ownsRow base 71 2 v ss.length (prs ss)) :
    Calls Tryz.prog 135 #[.int .i64 (i : Nat), .pointer (some ⟨bO, 0, none⟩)] w fun e w' => e = .returned (.tuple #[]) ∧ (∃ v', Blk w' bO 54 #[v'] ∧ w'.ownsRow base 71 2 v' (joinS ss i).length (prs (joinS ss i))) ∧ Below base w w' ∧ TKeep NSpT w w' := by
  have hsz : base ≤ w.heap.size := by have := hb.lt; omega
  have c1 := hb.c0
  have f1 := hb.free 0
  obtain ⟨i0, hi0, hz0, hz1, hz2⟩ := info_parts Tryz.infoSpan
  have HB := Lib.hid hb; have HO := Lib.hid ho
  have happ : ∀ (gg cp : Nat) (wz : World), (w.alloc (.cells #[.int .i64 i, .int .i64 ((i : Int) + 1)] 71)).grownBy wz v.ownBlock → wz.ownsRow base 71 2 (.slice (some ⟨gg, 0, none⟩) (ss.length + 1) cp) (ss.length + 1) (prs ss ++ [.int .i64 i, .int .i64 ((i : Int) + 1)]) →
      wz.cell? ⟨bO, 0, none⟩ = some v ∧ wz.frozen? ⟨bO, 0, none⟩ = false ∧ Blk (wz.setCell ⟨bO, 0, none⟩ (.slice (some ⟨gg, 0, none⟩) (ss.length + 1) cp)) bO 54 #[.slice (some ⟨gg, 0, none⟩) (ss.length + 1) cp] ∧ (wz.setCell ⟨bO, 0, none⟩ (.slice (some ⟨gg, 0, none⟩) (ss.length + 1) cp)).ownsRow base 71 2 (.slice (some ⟨gg, 0, none⟩) (ss.length + 1) cp) (ss ++ [((i : Int), (i : Int) + 1)]).length (prs (ss ++ [((i : Int), (i : Int) + 1)])) ∧
      Below base w (wz.setCell ⟨bO, 0, none⟩ (.slice (some ⟨gg, 0, none⟩) (ss.length + 1) cp)) ∧ TKeep NSpT w (wz.setCell ⟨bO, 0, none⟩ (.slice (some ⟨gg, 0, none⟩) (ss.length + 1) cp)) := by
    intro gg cp wz hg hown
    have k2 := (HB.out.alloc (.cells #[.int .i64 i, .int .i64 ((i : Int) + 1)] 71)).kept hg (fun e => blk_own_ne HB.out HO.out (by decide) e.symm)
    have t2 := blk_own_ne k2 hown (by decide)
    have ha := World.grownBy_alloc w (.cells #[.int .i64 i, .int .i64 ((i : Int) + 1)] 71)
    refine ⟨k2.c0, k2.free 0, k2.set0 _, ?_, ?_, ?_⟩
    · rw [List.length_append, prs_append]; exact own_set_other hown t2
    · exact (((Below.refl base w).alloc hsz (.cells #[.int .i64 i, .int .i64 ((i : Int) + 1)] 71)).grown hg (by simp; omega) (fun j e => (HO.out.lt j e).1)).setCell (p := ⟨bO, 0, none⟩) hO _
    · refine ((TKeep.of_grown (ha none) (fun k e => by simp at e)).trans (TKeep.of_own (HO.out.alloc _) hg (by simp [NSpT, SpT]))).trans (TKeep.of_grown (grown_set wz ⟨bO, 0, none⟩ _) (fun k e => ?_))
      obtain rfl : bO = k := by simpa using e
      exact ⟨_, _, k2, by simp [NSpT, SpT]⟩
  have HAPP := Lib.hid happ
  clear hb ho happ
  rcases List.eq_nil_or_concat ss with rfl | ⟨ss', p, rfl⟩
  · have HJ : Hid (joinS [] i = [((i : Int), (i : Int) + 1)]) := Lib.hid rfl
    obtain ⟨va, vc, rfl, -⟩ := own_cells HO.out
    have hlw : (([] : List (Int × Int)).length : Int) - 1 = -1 := rfl
    go_enter Tryz.func135, Tryz.ntmps135
    go_wp2_with (at_builtin; refine wpList_append_lies _ rfl _ _ _ rfl base 71 i0 (.agg #[.int .i64 0, .int .i64 0]) 2 16 Tryz.underlying54 hi0 hz0 hz1 hz2 rfl (by decide) (.slice va 0 vc) 0 (prs []) rfl (HO.out.alloc _) ⟨w.heap.size, 0, none⟩ 1 1 [.int .i64 (i : Nat), .int .i64 ((i : Int) + 1)] rfl rfl (World.news_of_block (cs := #[.int .i64 (i : Nat), .int .i64 ((i : Int) + 1)]) (t := 71) (fr := (0, 0)) (heap_alloc_new w _)) (by simp [Value.oneCell']) (by omega) (by unfold maxLen; omega) (by omega) (by simp; omega) (w.heap.size + 1) (by simp) ?_)
    intro gg cp wz hown1 hgrow hat hlt1
    obtain ⟨z2, g2, y1, y2, y3, y4⟩ := HAPP.out gg cp wz hgrow hown1
    have Y1 := Lib.hid y1; have Y2 := Lib.hid y2; have Y4 := Lib.hid y4
    clear hown1 hgrow hat hlt1 y1 y2 y4
    go_wp2
    go_end0
    exact ⟨rfl, ⟨_, Y1.out, Y2.out⟩, y3, Y4.out⟩
  · rw [List.concat_eq_append] at *
    have hlen : (ss' ++ [p]).length = ss'.length + 1 := by simp
    obtain ⟨g, vc, rfl, -, -⟩ := HO.out.form (by omega)
    rw [hlen] at HO HAPP c1 HB hl
    have hcl : w.cell? ⟨g, ss'.length * 2 + 1, none⟩ = some (.int .i64 p.2) := by
      rw [HO.out.cellAt (ss'.length * 2 + 1) (by omega), prs_snd (i := ss'.length) (t := p) (by simp)]
    have hfl := HO.out.frozenAt (ss'.length * 2 + 1)
    have q1 : IntKind.i64.wrap ((ss'.length : Int) + 1 - 1) = (ss'.length : Int) := by rw [IntWalk.i64_in _ (by omega)]; omega
    have q2 : IntKind.i64.wrap (ss'.length : Int) = (ss'.length : Int) := IntWalk.i64_in _ (by omega)
    have q3 : (0 : Int) ≤ ss'.length := by omega
    have q4 : (ss'.length : Int) < (ss'.length : Int) + 1 := by omega
    by_cases hp : p.2 = (i : Int)
    · have hj : joinS (ss' ++ [p]) i = ss' ++ [(p.1, (i : Int) + 1)] := by rw [joinS_snoc, if_pos hp]
      have hsto := HO.out.stored (ss'.length * 2 + 1) (.int .i64 ((i : Int) + 1))
      rw [prs_last] at hsto
      obtain ⟨cur, hcur⟩ := own_type HO.out (k := g) rfl
      have hne := blk_own_ne HB.out HO.out (by decide)
      have hbk := HB.out.other (B' := g) (by intro e; exact hne (by rw [e]; rfl)) (ss'.length * 2 + 1) (.int .i64 ((i : Int) + 1))
      have hlt := HO.out.lt g rfl
      have hbl : Below base w (w.setCell ⟨g, ss'.length * 2 + 1, none⟩ (.int .i64 ((i : Int) + 1))) := (Below.refl base w).setCell hlt.1 _
      have htk : TKeep NSpT w (w.setCell ⟨g, ss'.length * 2 + 1, none⟩ (.int .i64 ((i : Int) + 1))) := TKeep.of_grown hsto.2 (fun k e => by
        obtain rfl : g = k := by simpa using e
        exact ⟨_, _, hcur, by simp [NSpT, SpT]⟩)
      have HJ := Lib.hid hj; have HST := Lib.hid hsto.1; have HBK := Lib.hid hbk; have HTK := Lib.hid htk
      rw [hp] at hcl
      clear hj hsto hcur hne hbk htk hlt HAPP
      go_enter Tryz.func135, Tryz.ntmps135
      go_wp2_with fail
      refine bodyPost_ret (results_none rfl _ _ _) rfl ?_
      refine ⟨rfl, ⟨_, HBK.out, ?_⟩, hbl, HTK.out⟩
      rw [HJ.out, List.length_append]; exact HST.out
    · have hj : joinS (ss' ++ [p]) i = ss' ++ [p] ++ [((i : Int), (i : Int) + 1)] := by rw [joinS_snoc, if_neg hp]
      have HJ := Lib.hid hj
      have hpb : (p.2 == (i : Int)) = false := by rw [beq_eq_false_iff_ne]; exact hp
      clear hj
      go_enter Tryz.func135, Tryz.ntmps135
      go_wp2_with (at_builtin; refine wpList_append_lies _ rfl _ _ _ rfl base 71 i0 (.agg #[.int .i64 0, .int .i64 0]) 2 16 Tryz.underlying54 hi0 hz0 hz1 hz2 rfl (by decide) (.slice (some ⟨g, 0, none⟩) (ss'.length + 1) vc) (ss'.length + 1) (prs (ss' ++ [p])) rfl (HO.out.alloc _) ⟨w.heap.size, 0, none⟩ 1 1 [.int .i64 (i : Nat), .int .i64 ((i : Int) + 1)] rfl rfl (World.news_of_block (cs := #[.int .i64 (i : Nat), .int .i64 ((i : Int) + 1)]) (t := 71) (fr := (0, 0)) (heap_alloc_new w _)) (by simp [Value.oneCell']) (by omega) (by unfold maxLen; omega) (by omega) (by simp; omega) (w.heap.size + 1) (by simp) ?_)
      intro gg cp wz hown1 hgrow hat hlt1
      obtain ⟨z2, g2, y1, y2, y3, y4⟩ := HAPP.out gg cp wz hgrow hown1
      have Y1 := Lib.hid y1; have Y2 := Lib.hid y2; have Y4 := Lib.hid y4
      clear hown1 hgrow hat hlt1 y1 y2 y4 hcl hfl
      go_wp2
      go_end0
      exact ⟨rfl, ⟨_, Y1.out, by rw [HJ.out]; exact Y2.out⟩, y3, Y4.out⟩

/-- the spans of the places below k for which something is so -/
def lostP (p : Nat → Bool) : Nat → List (Int × Int)
  | 0 => []
  | i + 1 => if p i then joinS (lostP p i) i else lostP p i
theorem lostP_length (p : Nat → Bool) (i : Nat) : (lostP p i).length ≤ i := by
  induction i with
  | zero => simp [lostP]
  | succ i ih =>
    rw [lostP]
    split
    · have := joinS_length (lostP p i) i; omega
    · omega

set_option maxRecDepth 100000 in
set_option maxHeartbeats 1000000 in
theorem spans_any (F : FuncId) (capd : Array Value) (p : Nat → Bool) (J : Nat → World → Prop) (n : Nat) (w : World) (hn : n ≤ 1099511627776)
    (hcf : ∀ (vs : Array Value) (wx : World), Sem.run Tryz.prog (callFunc F vs) wx = .ok (.enter F vs) wx)
    (hJ0 : J 0 w)
    (hJk : ∀ i wx wy, J i wx → w.heap.size ≤ wx.heap.size → Below w.heap.size wx wy → TKeep NSpT wx wy → J i wy)
    (hF : ∀ i wx, i < n → J i wx → Calls Tryz.prog F (#[.int .i64 (i : Nat)] ++ capd) wx fun e w' => e = .returned (.bool (p i)) ∧ J (i + 1) w' ∧ TKeep SpT wx w') :
    Calls Tryz.prog 85 #[.int .i64 0, .int .i64 (n : Nat), .func (.func F) #[] capd] w fun e w' => (∃ v, e = .returned v ∧ w'.ownsRow w.heap.size 71 2 v (lostP p n).length (prs (lostP p n))) ∧ J n w' ∧ w.heap.size ≤ w'.heap.size := by
  have HJ0 := Lib.hid hJ0; have HJK := Lib.hid hJk; have HF := Lib.hid hF
  have hb0 := Blk.new w 54 #[.slice none 0 0]
  have hj1 := hJk 0 w (w.alloc (.cells #[.slice none 0 0] 54)) hJ0 (Nat.le_refl _) ((Below.refl _ _).alloc (Nat.le_refl _) _) (TKeep.of_grown (World.grownBy_alloc w _ none) (fun k e => by simp at e))
  have HB0 := Lib.hid hb0; have HJ1 := Lib.hid hj1
  clear hJ0 hJk hF hb0 hj1
  go_enter Tryz.func85, Tryz.ntmps85
  go_wp2_with fail
  go_loopw [9] (fun i wr => ∃ k : Nat, k ≤ n ∧ i = .int .i64 k ∧ J k wr ∧ w.heap.size < wr.heap.size ∧ ∃ v, Blk wr w.heap.size 54 #[v] ∧ wr.ownsRow w.heap.size 71 2 v (lostP p k).length (prs (lostP p k))) (fun i _ => n - (intOf i).toNat)
  case atStart => exact ⟨0, Nat.zero_le _, rfl, HJ1.out, by simp, _, HB0.out, World.ownsRow_nil _ _ _ _⟩
  case round =>
    clear HJ1 HB0
    obtain ⟨k, hk, rfl, hj, hz, v, hb, ho⟩ := hrel
    have HB := Lib.hid hb; have HO := Lib.hid ho
    by_cases hlt : k < n
    · have hf := HF.out k wr hlt hj
      have HFK := Lib.hid hf
      have hll := lostP_length p k
      clear hf hj hb ho
      go_wp2_with fail
      refine HFK.out.mono ?_
      rintro e w1 ⟨rfl, hj1, htk⟩
      have hb1 := htk.2 _ _ _ (.inr rfl) HB.out
      have ho1 := htk.own (.inl rfl) HO.out
      have hz1 := htk.1
      cases hp : p k with
      | false =>
        have HJ1 := Lib.hid hj1; have HB1 := Lib.hid hb1; have HO1 := Lib.hid ho1
        have HL : Hid (lostP p (k + 1) = lostP p k) := Lib.hid (by rw [lostP, hp]; rfl)
        clear hj1 hb1 ho1 htk hp
        go_wp2
        go_roundw
        case rel => exact ⟨k + 1, by omega, by go_num, HJ1.out, by omega, v, HB1.out, by rw [HL.out]; exact HO1.out⟩
        case measure => simp [intOf]; omega
      | true =>
        have HJ1 := Lib.hid hj1
        have HL : Hid (lostP p (k + 1) = joinS (lostP p k) k) := Lib.hid (by rw [lostP, hp]; rfl)
        have hs := spans1_any w.heap.size w.heap.size (Nat.le_refl _) k (lostP p k) v w1 (by omega) (by omega) hb1 ho1
        have HS := Lib.hid hs
        clear hj1 hb1 ho1 htk hp hs
        go_wp2_with fail
        refine HS.out.mono ?_
        rintro e w2 ⟨rfl, ⟨v', hb2, ho2⟩, hbe, htk⟩
        have hj2 := HJK.out (k + 1) w1 w2 HJ1.out (by omega) hbe htk
        have hz2 := htk.1
        have HJ2 := Lib.hid hj2; have HB2 := Lib.hid hb2; have HO2 := Lib.hid ho2
        clear hj2 hb2 ho2 htk hbe
        go_wp2
        go_roundw
        case rel => exact ⟨k + 1, by omega, by go_num, HJ2.out, by omega, v', HB2.out, by rw [HL.out]; exact HO2.out⟩
        case measure => simp [intOf]; omega
    · obtain rfl : k = n := by omega
      have c0 := hb.c0
      have HJ := Lib.hid hj
      clear hj hb ho
      go_wp2
      go_ret
      exact ⟨⟨v, rfl, HO.out⟩, HJ.out, by omega⟩
end Go.Proofs.YtoochleabcjljaaGreatDoor

/- Codes: spans with one more index at the end, as the reference makes them. -/
namespace Go.Proofs.YtoochleabcjljaaGreatDoor
open Go.RowKit

set_option maxRecDepth 100000 in
set_option maxHeartbeats 1000000 in
theorem longer_any (base : Nat) (i : Nat) (ss : List (Int × Int)) (v : Value) (w : World) (hi : i ≤ 1099511627776) (hl : ss.length ≤ 1099511627776) (hsz : base ≤ w.heap.size) (ho : w.ownsRow base 71 2 v ss.length (prs ss)) :
    Calls Tryz.prog 87 #[v, .int .i64 (i : Nat)] w fun e w' => (∃ v', e = .returned v' ∧ w'.ownsRow base 71 2 v' (joinS ss i).length (prs (joinS ss i))) ∧ w.grownBy w' v.ownBlock := by
  obtain ⟨i0, hi0, hz0, hz1, hz2⟩ := info_parts Tryz.infoSpan
  have HO := Lib.hid ho
  have hga := World.grownBy_alloc w (.cells #[.int .i64 i, .int .i64 ((i : Int) + 1)] 71) v.ownBlock
  have HGA := Lib.hid hga
  clear ho hga
  rcases List.eq_nil_or_concat ss with rfl | ⟨ss', p, rfl⟩
  · have HJ : Hid (joinS [] i = [((i : Int), (i : Int) + 1)]) := Lib.hid rfl
    obtain ⟨va, vc, rfl, -⟩ := own_cells HO.out
    go_enter Tryz.func87, Tryz.ntmps87
    go_wp2_with (at_builtin; refine wpList_append_lies _ rfl _ _ _ rfl base 71 i0 (.agg #[.int .i64 0, .int .i64 0]) 2 16 Tryz.underlying54 hi0 hz0 hz1 hz2 rfl (by decide) (.slice va 0 vc) 0 (prs []) rfl (HO.out.alloc _) ⟨w.heap.size, 0, none⟩ 1 1 [.int .i64 (i : Nat), .int .i64 ((i : Int) + 1)] rfl rfl (World.news_of_block (cs := #[.int .i64 (i : Nat), .int .i64 ((i : Int) + 1)]) (t := 71) (fr := (0, 0)) (heap_alloc_new w _)) (by simp [Value.oneCell']) (by omega) (by unfold maxLen; omega) (by omega) (by simp; omega) (w.heap.size + 1) (by simp) ?_)
    intro gg cp wz hown1 hgrow hat hlt1
    have HG := Lib.hid (HGA.out.trans hgrow); have HW := Lib.hid hown1
    clear hown1 hgrow hat hlt1
    go_wp2
    go_ret
    exact ⟨⟨_, rfl, by rw [HJ.out]; exact HW.out⟩, HG.out⟩
  · rw [List.concat_eq_append] at *
    have hlen : (ss' ++ [p]).length = ss'.length + 1 := by simp
    obtain ⟨g, vc, rfl, -, -⟩ := HO.out.form (by omega)
    rw [hlen] at HO HGA hl ⊢
    have hcl0 : w.cell? ⟨g, ss'.length * 2, none⟩ = some (.int .i64 p.1) := by
      rw [HO.out.cellAt (ss'.length * 2) (by omega), prs_fst (i := ss'.length) (t := p) (by simp)]
    have hcl : w.cell? ⟨g, ss'.length * 2 + 1, none⟩ = some (.int .i64 p.2) := by
      rw [HO.out.cellAt (ss'.length * 2 + 1) (by omega), prs_snd (i := ss'.length) (t := p) (by simp)]
    have hfl := HO.out.frozenAt (ss'.length * 2)
    have hfl1 := HO.out.frozenAt (ss'.length * 2 + 1)
    have q1 : IntKind.i64.wrap ((ss'.length : Int) + 1 - 1) = (ss'.length : Int) := by rw [IntWalk.i64_in _ (by omega)]; omega
    have q2 : IntKind.i64.wrap (ss'.length : Int) = (ss'.length : Int) := IntWalk.i64_in _ (by omega)
    have q3 : (0 : Int) ≤ ss'.length := by omega
    have q4 : (ss'.length : Int) < (ss'.length : Int) + 1 := by omega
    by_cases hp : p.2 = (i : Int)
    · have hj : joinS (ss' ++ [p]) i = ss' ++ [(p.1, (i : Int) + 1)] := by rw [joinS_snoc, if_pos hp]
      have hst0 := HO.out.stored (ss'.length * 2) (.int .i64 p.1)
      have he0 : (prs (ss' ++ [p])).set (ss'.length * 2) (.int .i64 p.1) = prs (ss' ++ [p]) := by
        rw [prs_append, List.set_append_right _ _ (by rw [prs_length]; omega), prs_length, Nat.sub_self]; rfl
      rw [he0] at hst0
      have hsto := hst0.1.stored (ss'.length * 2 + 1) (.int .i64 ((i : Int) + 1))
      rw [prs_last] at hsto
      have hfl2 := hst0.1.frozenAt (ss'.length * 2 + 1)
      have hcl2 : (w.setCell ⟨g, ss'.length * 2, none⟩ (.int .i64 p.1)).cell? ⟨g, ss'.length * 2 + 1, none⟩ = some (.int .i64 p.2) := by
        rw [hst0.1.cellAt (ss'.length * 2 + 1) (by omega), prs_snd (i := ss'.length) (t := p) (by simp)]
      have HJ := Lib.hid hj; have HST := Lib.hid hsto.1; have HGR := Lib.hid (hst0.2.trans hsto.2)
      rw [hp] at hcl hcl2
      clear hj hsto hst0 he0
      go_enter Tryz.func87, Tryz.ntmps87
      go_wp2_with fail
      go_ret
      refine ⟨⟨_, rfl, ?_⟩, HGR.out⟩
      rw [HJ.out, List.length_append]; exact HST.out
    · have hj : joinS (ss' ++ [p]) i = ss' ++ [p] ++ [((i : Int), (i : Int) + 1)] := by rw [joinS_snoc, if_neg hp]
      have HJ := Lib.hid hj
      have hpb : (p.2 == (i : Int)) = false := by rw [beq_eq_false_iff_ne]; exact hp
      clear hj
      go_enter Tryz.func87, Tryz.ntmps87
      go_wp2_with (at_builtin; refine wpList_append_lies _ rfl _ _ _ rfl base 71 i0 (.agg #[.int .i64 0, .int .i64 0]) 2 16 Tryz.underlying54 hi0 hz0 hz1 hz2 rfl (by decide) (.slice (some ⟨g, 0, none⟩) (ss'.length + 1) vc) (ss'.length + 1) (prs (ss' ++ [p])) rfl (HO.out.alloc _) ⟨w.heap.size, 0, none⟩ 1 1 [.int .i64 (i : Nat), .int .i64 ((i : Int) + 1)] rfl rfl (World.news_of_block (cs := #[.int .i64 (i : Nat), .int .i64 ((i : Int) + 1)]) (t := 71) (fr := (0, 0)) (heap_alloc_new w _)) (by simp [Value.oneCell']) (by omega) (by unfold maxLen; omega) (by omega) (by simp; omega) (w.heap.size + 1) (by simp) ?_)
      intro gg cp wz hown1 hgrow hat hlt1
      have HG := Lib.hid (HGA.out.trans hgrow); have HW := Lib.hid hown1
      clear hown1 hgrow hat hlt1 hcl hcl0 hfl hfl1
      go_wp2
      go_ret
      exact ⟨⟨_, rfl, by rw [HJ.out, List.length_append, List.length_append, prs_append]; exact HW.out⟩, HG.out⟩
end Go.Proofs.YtoochleabcjljaaGreatDoor
