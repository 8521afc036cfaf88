/- Parts of a proof, in build order: NV, NY, NZ, NE, GA, GB, GC. -/
import Derived.Test.YtdpjdifoonfcdaaGreatDoorKh8
import Derived.Test.YtdpjdifoonfcdaaGreatDoorKh13

namespace Go.Proofs.YtdpjdifoonfcdaaGreatDoor
open Go.RowKit
def SolveRes (a : List (List Rat)) (N : Nat) (w : World) (e : Ending) (w' : World) : Prop :=
 (match elimQ 0 N a with
  | none => e = .returned (.tuple #[.slice none 0 0, .int .i64 15])
  | some a' => if okL (lastQ a' N) = true then ∃ v, e = .returned (.tuple #[v, .int .i64 0]) /\ w'.ownsRow w.heap.size 34 1 v (lastQ a' N).length (((lastQ a' N).map txQ).map Value.string) else e = .returned (.tuple #[.slice none 0 0, .int .i64 11])) /\ Below w.heap.size w w'
def P0 (A : Nat) (vs : List Value) (g : Nat) : Prop := g = A ∨ ∃ u ∈ vs, u.ownBlock = some g
def hgI (H : Nat) : Nat -> Nat
 | 0 => H
 | m + 1 => hgI (4 * H + 1) m
theorem hgI_le {H m : Nat} (h : m <= 4) : hgI H m <= 256 * H + 85 := by
 match m, h with
 | 0, _ => simp only [hgI]; omega
 | 1, _ => simp only [hgI]; omega
 | 2, _ => simp only [hgI]; omega
 | 3, _ => simp only [hgI]; omega
 | 4, _ => simp only [hgI]; omega
theorem elimQ_bd : ∀ (m k : Nat) {a a' : List (List Rat)} {n H : Nat}, Rows a n (n + 1) -> k + m = n -> 1 <= H -> BdQ a H -> elimQ k m a = some a' -> BdQ a' (hgI H m)
 | 0, k, a, a', n, H, _, _, _, hb, he => by
   unfold elimQ at he; injection he with he; subst he; exact hb
 | m + 1, k, a, a', n, H, hr, hk, h1, hb, he => by
   unfold elimQ at he
   cases hp : pivAt a k (a.length - k) with
   | none => rw [hp] at he; cases he
   | some p =>
     rw [hp] at he
     have hl := hr.1
     obtain ⟨p1, p2, p3⟩ := pivAt_some (by omega) hp
     have hs := swapQ_rows hr (show p < n by omega) (show k < n by omega)
     have hek : ent (swapQ a p k) k k ≠ 0 := by
      obtain ⟨rp, gp, -, -, -⟩ := hr.get (show p < n by omega)
      rw [ent_of (show (swapQ a p k)[k]? = some rp by rw [swapQ_get hr (by omega) (by omega), if_pos rfl, gp]), <- ent_of gp]
      exact p3
     have hbs := (hb.swap hr (show p < n by omega) (show k < n by omega)).clear h1 hek
     exact elimQ_bd m (k + 1) (clearQ_rows hs (by omega)) (by omega) (by omega) hbs he
theorem augQ_bd {rows : List (List Rat)} {xs : List Rat} {N : Nat} (h : Rows rows N N) (hx : xs.length = N) (ho : ∀ r ∈ rows, ∀ q ∈ r, okQ q = true) (hox : ∀ q ∈ xs, okQ q = true) : BdQ (augQ rows xs) 300 := by
 intro r hr x hxr
 obtain ⟨j, hj⟩ := List.mem_iff_getElem?.1 hr
 have hjl : j < rows.length := by
  have := (List.getElem?_eq_some_iff.1 hj).1
  unfold augQ at this; rwa [List.length_mapIdx] at this
 rw [augQ_get (List.getElem?_eq_getElem hjl)] at hj
 rw [<- Option.some.inj hj] at hxr
 rcases List.mem_append.1 hxr with h1 | h1
 · exact ok_hgt (ho _ (List.getElem_mem hjl) x h1)
 · obtain rfl := List.mem_singleton.1 h1
   refine ok_hgt (hox _ ?_)
   have hjx : j < xs.length := by rw [hx, <- h.1]; exact hjl
   rw [List.getD, List.getElem?_eq_getElem hjx]
   exact List.getElem_mem hjx
theorem lastQ_get {a : List (List Rat)} {n k : Nat} {r : List Rat} (h : a[k]? = some r) : (lastQ a n)[k]? = some (r.getD n 0) := by unfold lastQ; rw [List.getElem?_map, h]; rfl
theorem lastQ_bd {a : List (List Rat)} {n H : Nat} (h : BdQ a H) (hr : Rows a n (n + 1)) : ∀ q ∈ lastQ a n, hgt q <= H := by
 intro q hq
 obtain ⟨r, hrm, rfl⟩ := List.mem_map.1 hq
 have hl := hr.2 r hrm
 exact h r hrm _ (List.mem_of_getElem? (getD_get (show n < r.length by omega)))
theorem own_baseQ {w : World} {B B' : Nat} {e : TypeId} {s : Nat} {v : Value} {n : Nat} {xs : List Value} (h : w.ownsRow B e s v n xs) (hB : B' <= B) : w.ownsRow B' e s v n xs := by
 refine ⟨h.1, h.2.imp id ?_⟩
 rintro ⟨g, cap, cur, h1, h2, h3⟩
 exact ⟨g, cap, cur, h1, by omega, h3⟩
theorem rowB_own {w : World} {base g c n m : Nat} {cs : List (List Value)} {xs : List Rat} (h1 : w.ownsRow base 148 6 (.slice (some ⟨g, 0, none⟩) n c) m cs.flatten) (h2 : QRow w cs xs) : RowB w g xs := by
 rcases h1.2 with ⟨h, _⟩ | ⟨g', cap, cur, e1, e2, e3, e4, e5, e6, e7⟩
 · cases h
 · injection e1 with e1
   injection e1 with e1
   injection e1 with e1
   subst e1
   refine ⟨cs, cur.toList.drop (m * 6), ?_, h2⟩
   unfold Blk
   rw [e3, <- e7, List.take_append_drop]
theorem QRow.snoc {w : World} {cs : List (List Value)} {xs : List Rat} {c : List Value} {y : Rat} (h : QRow w cs xs) (hc : NCell w c (pq y)) : QRow w (cs ++ [c]) (xs ++ [y]) := by
 have := NRow.snoc h hc
 unfold QRow; rw [List.map_append]; exact this
theorem solve_none {a : List (List Rat)} {N : Nat} {w w' : World} (h : elimQ 0 N a = none) (hb : Below w.heap.size w w') : SolveRes a N w (.returned (.tuple #[.slice none 0 0, .int .i64 15])) w' := ⟨by rw [h], hb⟩
theorem solve_big {a a' : List (List Rat)} {N : Nat} {w w' : World} (h : elimQ 0 N a = some a') (ho : okL (lastQ a' N) = false) (hb : Below w.heap.size w w') : SolveRes a N w (.returned (.tuple #[.slice none 0 0, .int .i64 11])) w' := ⟨by rw [h]; show ite _ _ _; rw [if_neg (by rw [ho]; decide)], hb⟩
theorem solve_ok {a a' : List (List Rat)} {N : Nat} {w w' : World} {v : Value} (h : elimQ 0 N a = some a') (ho : okL (lastQ a' N) = true) (hv : w'.ownsRow w.heap.size 34 1 v (lastQ a' N).length (((lastQ a' N).map txQ).map Value.string)) (hb : Below w.heap.size w w') : SolveRes a N w (.returned (.tuple #[v, .int .i64 0])) w' := ⟨by rw [h]; show ite _ _ _; rw [if_pos ho]; exact ⟨v, rfl, hv⟩, hb⟩
set_option maxRecDepth 100000 in
set_option maxHeartbeats 8000000 in
theorem solve_any (mo xo : Option Addr) (ms : List Value) (rows : List (List Rat)) (xs : List Rat) (N ca cx : Nat) (w : World) (ht : Tab w) (hc : Cells w mo ms) (hr : RowsT w ms rows N) (hrw : Rows rows N N) (hx : Cells w xo ((xs.map txQ).map Value.string)) (hxl : xs.length = N) (hN : N <= 4) (hN1 : 0 < N) (ho : ∀ r ∈ rows, ∀ q ∈ r, okQ q = true) (hox : ∀ q ∈ xs, okQ q = true) :
 Calls Tryz.prog 61 #[.slice mo N ca, .slice xo N cx] w (SolveRes (augQ rows xs) N w) := by
 have hSQ := squareOf_any mo ms rows N ca w ht hc hr hrw (by omega) hN1 ho
 have hAX := fun W (hb : Below w.heap.size w W) => all_txO xo xs N cx W (ht.below hb (Nat.le_refl _)) (hx.below hb (Nat.le_refl _)) (by omega) hox hxl.symm
 have HSQ := Lib.hid hSQ; have HAX := Lib.hid hAX; have HRW := Lib.hid hrw; have HXL := Lib.hid hxl; have HT := Lib.hid ht; have HO := Lib.hid ho; have HOX := Lib.hid hox
 obtain ⟨i9, hi, hz0, hz1, hz2⟩ := info_parts Tryz.infoVal
 have e1 : ((N : Int) == (N : Int)) = true := by simp
 clear hSQ hAX ht hc hr hrw hx hxl ho hox
 go_enter Tryz.func61, Tryz.ntmps61
 go_wp2_with fail
 refine HSQ.out.mono ?_
 rintro e w1 ⟨⟨v, vs, rfl, hm⟩, hb1⟩
 have hvl := hm.len
 rw [HRW.out.1] at hvl
 have hmo := hm.own
 rw [HRW.out.1] at hmo
 obtain ⟨A, cA, rfl, -⟩ : ∃ A c, v = .slice (some ⟨A, 0, none⟩) N c /\ True := by
  rcases hmo.2 with ⟨_, h⟩ | ⟨g, cap, cur, h, _⟩
  · omega
  · exact ⟨g, cap, h, trivial⟩
 have hA1 : A < w1.heap.size := (hmo.lt A rfl).2
 have hAw : w.heap.size <= A := (hmo.lt A rfl).1
 have hvb : ∀ u ∈ vs, ∀ g, u.ownBlock = some g -> w.heap.size <= g /\ g < w1.heap.size := fun u hu g hg => by
  obtain ⟨j, hj⟩ := List.mem_iff_getElem?.1 hu
  obtain ⟨r, hr2, -, -, -⟩ := HRW.out.get (show j < N by rw [<- hvl]; exact (List.getElem?_eq_some_iff.1 hj).1)
  exact (hm.row j u r hj hr2).lt g hg
 have HM := Lib.hid hm; have HB1 := Lib.hid hb1; have HVB := Lib.hid hvb
 clear hm hb1 hmo hvb
 go_wp2_with fail
 refine (HAX.out _ HB1.out).mono ?_
 rintro e w2 ⟨⟨vx, rfl, hox⟩, hb2⟩
 obtain ⟨X, cX, rfl, -⟩ := hox.slice (by rw [HXL.out]; omega)
 rw [HXL.out] at hox ⊢
 have hX1 : w1.heap.size <= X := (hox.lt X rfl).1
 have hrX := hox.rowB
 have hm2 := MixM.start xs (HM.out.below hb2) HRW.out hN1
 have hb02 : Below w.heap.size w w2 := HB1.out.trans (hb2.mono HB1.out.size)
 have HRX := Lib.hid hrX; have HM2 := Lib.hid hm2; have HB02 := Lib.hid hb02
 have hXP : ¬ P0 A vs X := fun e => by
  rcases e with e | ⟨u, hu, e⟩
  · omega
  · have := (HVB.out u hu X e).2; omega
 have HXP := Lib.hid hXP
 clear hox hrX hm2 hb02 hb2 hXP
 go_wp2_with fail
 go_loopw [36] (fun iv wr => ∃ (i : Nat) (vs' : List Value), i <= N /\ iv = .int .i64 i /\ MixM wr w.heap.size A N vs vs' rows xs i /\ Kp (P0 A vs) w2 wr) (fun iv _ => N - (intOf iv).toNat)
 case atStart => exact ⟨0, vs, Nat.zero_le _, rfl, HM2.out, Kp.refl _ _⟩
 case round =>
  obtain ⟨i, vs', hiN, rfl, hmx, hkp⟩ := hrel
  have HMX := Lib.hid hmx; have HKP := Lib.hid hkp
  have HRXr := Lib.hid (HRX.out.kp hkp HXP.out)
  have hwsz := hkp.size
  clear hmx hkp HM2
  by_cases hlt : i < N
  · obtain ⟨y, hy⟩ := get_of_lt (show i < xs.length by rw [HXL.out]; exact hlt)
    obtain ⟨r, hr2, hrl, -, hrm⟩ := HRW.out.get hlt
    obtain ⟨u, hu⟩ := get_of_lt (show i < vs'.length by rw [HMX.out.len]; exact hlt)
    have huq := HMX.out.todo i u r (Nat.le_refl _) hu hr2
    obtain ⟨g, cg, rfl, hgc⟩ := huq.slice (by omega)
    rw [hrl] at hu huq hgc
    have huv : Value.slice (some ⟨g, 0, none⟩) N cg ∈ vs := by
     have := HMX.out.same i (Nat.le_refl _)
     rw [hu] at this
     exact List.mem_of_getElem? this.symm
    have ca := HMX.out.cell hu
    have fa := HMX.out.free i
    obtain ⟨xc, hxn, hxc⟩ := HRXr.out.at hy
    have HXV := Lib.hid hxn
    obtain ⟨x1, xc1, x2, xc2, x3, xc3, x4, xc4, rfl⟩ := hxn.shape
    have sx0 := hxc 0 _ rfl
    have sx1 := hxc 1 _ rfl
    have sx2 := hxc 2 _ rfl
    have sx3 := hxc 3 _ rfl
    have sx4 := hxc 4 _ rfl
    have sx5 := hxc 5 _ rfl
    simp only [Nat.add_zero] at sx0
    have HUQ := Lib.hid huq; have HU := Lib.hid hu; have HY := Lib.hid hy; have HR2 := Lib.hid hr2; have HUV := Lib.hid huv
    have j0 : (i : Int) < N := by omega
    have j1 : 0 <= (i : Int) := by omega
    have hS0 : Below wr.heap.size wr wr.drew := (Below.refl _ _).drew
    clear hy hr2 hrm hu huq huv hxn hxc
    go_wp2_with fail
    obtain ⟨rest, hbA⟩ := HMX.out.outer
    obtain ⟨gt, k1, k2, k3, ct, k4⟩ := HMX.out.own i _ HU.out
    obtain rfl : g = gt := Option.some.inj k1
    have hAg : A ≠ g := blk_ne hbA k4
    have hAl := hbA.lt
    refine wp_region_drewJ (T := fun j w9 => ((j = 5 ∨ j = 10) -> Below wr.heap.size wr w9) /\ ((j = 9 ∨ j = 11) -> (w9.cell? ⟨X, i * 6, none⟩ = some (.bool (qS y)) /\ w9.cell? ⟨X, i * 6 + 1, none⟩ = some (.slice x1 (dig (qN y)).length xc1) /\ w9.cell? ⟨X, i * 6 + 2, none⟩ = some (.slice x2 (dig (qD y)).length xc2) /\ w9.cell? ⟨X, i * 6 + 3, none⟩ = some (.bool false) /\ w9.cell? ⟨X, i * 6 + 4, none⟩ = some (.slice x3 (dig 0).length xc3) /\ w9.cell? ⟨X, i * 6 + 5, none⟩ = some (.slice x4 (dig 1).length xc4)))) (by kernel_rfl) ?_
    refine tjV 0 (.slice (some ⟨A, 0, none⟩) N cA) (fun _ => True) (fun _ => true) trivial (fun _ _ => ⟨fun h => absurd h (by decide), fun h => absurd h (by decide)⟩) (fun _ _ _ _ => trivial) ?_
    refine tjV 1 (.int .i64 i) (fun _ => True) (fun _ => true) trivial (fun _ _ => ⟨fun h => absurd h (by decide), fun h => absurd h (by decide)⟩) (fun _ _ _ _ => trivial) ?_
    refine tjV 2 (.slice (some ⟨A, 0, none⟩) N cA) (fun _ => True) (fun _ => true) trivial (fun _ _ => ⟨fun h => absurd h (by decide), fun h => absurd h (by decide)⟩) (fun _ _ _ _ => trivial) ?_
    refine tjV 3 (.int .i64 i) (fun _ => True) (fun _ => true) trivial (fun _ _ => ⟨fun h => absurd h (by decide), fun h => absurd h (by decide)⟩) (fun _ _ _ _ => trivial) ?_
    refine tjV 4 (.pointer (some ⟨A, i, none⟩)) (fun _ => True) (fun _ => true) trivial (fun _ _ => ⟨fun h => absurd h (by decide), fun h => absurd h (by decide)⟩) (fun _ _ _ _ => trivial) ?_
    refine tjV 6 (.slice (some ⟨X, 0, none⟩) N cX) (fun _ => True) (fun _ => true) trivial (fun _ _ => ⟨fun h => absurd h (by decide), fun h => absurd h (by decide)⟩) (fun _ _ _ _ => trivial) ?_
    refine tjV 7 (.int .i64 i) (fun _ => True) (fun _ => true) trivial (fun _ _ => ⟨fun h => absurd h (by decide), fun h => absurd h (by decide)⟩) (fun _ _ _ _ => trivial) ?_
    refine tjV 8 (.pointer (some ⟨X, i * 6, none⟩)) (fun _ => True) (fun _ => true) trivial (fun _ _ => ⟨fun h => absurd h (by decide), fun h => absurd h (by decide)⟩) (fun _ _ _ _ => trivial) ?_
    have hC0 : ∀ w9, Below wr.heap.size wr w9 -> (w9.cell? ⟨X, i * 6, none⟩ = some (.bool (qS y)) /\ w9.cell? ⟨X, i * 6 + 1, none⟩ = some (.slice x1 (dig (qN y)).length xc1) /\ w9.cell? ⟨X, i * 6 + 2, none⟩ = some (.slice x2 (dig (qD y)).length xc2) /\ w9.cell? ⟨X, i * 6 + 3, none⟩ = some (.bool false) /\ w9.cell? ⟨X, i * 6 + 4, none⟩ = some (.slice x3 (dig 0).length xc3) /\ w9.cell? ⟨X, i * 6 + 5, none⟩ = some (.slice x4 (dig 1).length xc4)) := fun w9 h9 => ⟨cell_keep sx0 h9 (Nat.le_refl _), cell_keep sx1 h9 (Nat.le_refl _), cell_keep sx2 h9 (Nat.le_refl _), cell_keep sx3 h9 (Nat.le_refl _), cell_keep sx4 h9 (Nat.le_refl _), cell_keep sx5 h9 (Nat.le_refl _)⟩
    refine tjV 9 (.agg #[.bool (qS y), .slice x1 (dig (qN y)).length xc1, .slice x2 (dig (qD y)).length xc2, .bool false, .slice x3 (dig 0).length xc3, .slice x4 (dig 1).length xc4]) (fun w9 => w9.cell? ⟨X, i * 6, none⟩ = some (.bool (qS y)) /\ w9.cell? ⟨X, i * 6 + 1, none⟩ = some (.slice x1 (dig (qN y)).length xc1) /\ w9.cell? ⟨X, i * 6 + 2, none⟩ = some (.slice x2 (dig (qD y)).length xc2) /\ w9.cell? ⟨X, i * 6 + 3, none⟩ = some (.bool false) /\ w9.cell? ⟨X, i * 6 + 4, none⟩ = some (.slice x3 (dig 0).length xc3) /\ w9.cell? ⟨X, i * 6 + 5, none⟩ = some (.slice x4 (dig 1).length xc4)) (fun j => decide (j = 5 ∨ j = 11)) (hC0 _ hS0) (fun _ h => ⟨fun h => absurd h (by decide), fun _ => h⟩) (fun j hj w9 h => by
     rcases of_decide_eq_true hj with e | e
     · exact hC0 w9 (h.1 (.inl e))
     · exact h.2 (.inr e)) ?_
    refine tjV 5 (.slice (some ⟨g, 0, none⟩) N cg) (fun w9 => Below wr.heap.size wr w9) (fun j => decide (j = 10)) hS0 (fun _ h => ⟨fun _ => h, fun h => absurd h (by decide)⟩) (fun j hj _ h => h.1 (.inr (of_decide_eq_true hj))) ?_ (hy := by intro w9 h9; have p0 := cell_keep ca h9 (Nat.le_refl _); go_simp)
    obtain ⟨WD, hWD⟩ : ∃ WD, wr.drew = WD := ⟨_, rfl⟩
    rw [hWD]
    rw [hWD] at hS0
    refine tjC 10 (fun K hK => ?_)
    go_simp
    obtain ⟨W5, hW5⟩ : ∃ W5, W5 = WD.alloc (.cells #[.bool (qS y), .slice x1 (dig (qN y)).length xc1, .slice x2 (dig (qD y)).length xc2, .bool false, .slice x3 (dig 0).length xc3, .slice x4 (dig 1).length xc4] 148) := ⟨_, rfl⟩
    have hn5 : Blk W5 WD.heap.size 148 #[.bool (qS y), .slice x1 (dig (qN y)).length xc1, .slice x2 (dig (qD y)).length xc2, .bool false, .slice x3 (dig 0).length xc3, .slice x4 (dig 1).length xc4] := by rw [hW5]; exact Blk.new _ _ _
    have hS1 : Below wr.heap.size wr W5 := by rw [hW5]; exact hS0.alloc hS0.size _
    rw [<- hW5]
    refine hK.out _ _ ⟨fun _ => hS1, fun h => absurd h (by decide)⟩ ?_
    clear hK K
    try simp only [Act.put, List.setIfInBounds_toArray, List.set_cons_zero, List.set_cons_succ]
    refine tjC 11 (fun K hK => ?_)
    obtain ⟨cs, o1, o2, o3⟩ := HUQ.out.below hS1
    rw [hrl] at o1
    have hsz5 := hS1.size
    have hszw := HB02.out.size
    refine step_append_lies _ (by rfl) _ _ _ (by rfl) w.heap.size 148 i9 (.agg #[.bool false, .slice none 0 0, .slice none 0 0, .bool false, .slice none 0 0, .slice none 0 0]) 6 112 Tryz.underlying227 hi hz0 hz1 hz2 rfl (by decide) (.slice (some ⟨g, 0, none⟩) N cg) N cs.flatten (by rfl) o1 ⟨WD.heap.size, 0, none⟩ 1 1 [.bool (qS y), .slice x1 (dig (qN y)).length xc1, .slice x2 (dig (qD y)).length xc2, .bool false, .slice x3 (dig 0).length xc3, .slice x4 (dig 1).length xc4] (by rfl) (by rfl) (World.news_of_block (cs := #[.bool (qS y), .slice x1 (dig (qN y)).length xc1, .slice x2 (dig (qD y)).length xc2, .bool false, .slice x3 (dig 0).length xc3, .slice x4 (dig 1).length xc4]) (t := 148) (fr := (0, 0)) hn5) (by simp [Value.oneCell']) (by omega) (by unfold maxLen; omega) (by omega) (by omega) W5.heap.size rfl ?_
    intro g2 c2 X2 ho2 hg2 hat2 hlt2
    have hk5 : Kp (fun b => (Value.slice (some ⟨g, 0, none⟩) N cg).ownBlock = some b) wr X2 := (Kp.of_below hS1).trans (Kp.grown hg2 o3)
    have hkx : Kp (fun b => (Value.slice (some ⟨g, 0, none⟩) N cg).ownBlock = some b) W5 X2 := Kp.grown hg2 o3
    have hq2 : QRow X2 (cs ++ [[.bool (qS y), .slice x1 (dig (qN y)).length xc1, .slice x2 (dig (qD y)).length xc2, .bool false, .slice x3 (dig 0).length xc3, .slice x4 (dig 1).length xc4]]) (r ++ [y]) := (hkx.row o2).snoc (hk5.cell HXV.out)
    have hfl : cs.flatten ++ [.bool (qS y), .slice x1 (dig (qN y)).length xc1, .slice x2 (dig (qD y)).length xc2, .bool false, .slice x3 (dig 0).length xc3, .slice x4 (dig 1).length xc4] = (cs ++ [([.bool (qS y), .slice x1 (dig (qN y)).length xc1, .slice x2 (dig (qD y)).length xc2, .bool false, .slice x3 (dig 0).length xc3, .slice x4 (dig 1).length xc4] : List Value)]).flatten := by simp
    rw [hfl] at ho2
    have hrb2 := rowB_own ho2 hq2
    have hbg2 := (ho2.lt g2 rfl).1
    have hyd : xs.getD i 0 = y := by rw [List.getD, HY.out]; rfl
    obtain ⟨hmx2, hkp2⟩ := HMX.out.step (c' := c2) hlt HU.out rfl HR2.out hyd hk5 hrb2 (by
     rcases hat2 with h | h
     · exact .inl (Option.some.inj h).symm
     · exact .inr (by omega)) hbg2
    have hnA : ¬ ((Value.slice (some ⟨g, 0, none⟩) N cg).ownBlock = some A) := fun e => hAg (Option.some.inj e).symm
    have cA2 : X2.cell? ⟨A, i, none⟩ = some (.slice (some ⟨g, 0, none⟩) N cg) := (World.cell?_of_block (hk5.block A hAl hnA)).trans ca
    have fA2 : X2.frozen? ⟨A, i, none⟩ = false := (World.frozen?_of_block (hk5.block A hAl hnA)).trans fa
    have hkf := HKP.out.trans (hkp2.mono (P' := P0 A vs) (fun b e => by
     rcases e with e | e
     · exact .inl e
     · exact .inr ⟨_, HUV.out, e⟩))
    have hXg : ¬ ((Value.slice (some ⟨g, 0, none⟩) N cg).ownBlock = some X) := fun e => HXP.out (.inr ⟨_, HUV.out, e⟩)
    have hXl := HRXr.out.lt
    have hCX : ∀ (o : Nat) (v : Value), wr.cell? ⟨X, o, none⟩ = some v -> X2.cell? ⟨X, o, none⟩ = some v := fun o v h => (World.cell?_of_block (hk5.block X hXl hXg)).trans h
    have HMXF := Lib.hid hmx2; have HKF := Lib.hid hkf
    refine hK.out _ _ ⟨fun h => absurd h (by decide), fun _ => ⟨hCX _ _ sx0, hCX _ _ sx1, hCX _ _ sx2, hCX _ _ sx3, hCX _ _ sx4, hCX _ _ sx5⟩⟩ ?_
    clear hK K hCX hC0 ho2 hg2 hat2 hk5 hkx hq2 hrb2 hmx2 hkp2 hkf o1 o2 o3 hn5 hS0 hS1 hfl
    try simp only [Act.put, List.setIfInBounds_toArray, List.set_cons_zero, List.set_cons_succ]
    refine tjV 12 (.pointer (some ⟨A, i, none⟩)) (fun _ => True) (fun _ => true) trivial (fun _ _ => ⟨fun h => absurd h (by decide), fun h => absurd h (by decide)⟩) (fun _ _ _ _ => trivial) ?_
    refine tjC 13 (fun K hK => ?_)
    go_simp
    refine hK.out _ _ ⟨fun h => absurd h (by decide), fun h => absurd h (by decide)⟩ ?_
    clear hK K
    try simp only [Act.put, List.setIfInBounds_toArray, List.set_cons_zero, List.set_cons_succ]
    refine wpAnyJ_done (by kernel_rfl) ?_ _
    go_wp2_with fail
    go_roundw
    case rel => exact ⟨i + 1, _, by omega, by go_num, HMXF.out, HKF.out⟩
    case measure => simp [intOf]; omega
  · obtain rfl : N = i := by omega
    obtain ⟨hmat, hbl⟩ := HMX.out.all HRW.out
    have hbd := augQ_bd HRW.out HXL.out HO.out HOX.out
    have hel := elim_any A N cA _ _ 300 wr hmat hN hbd (by decide) (by decide)
    obtain ⟨E, hE⟩ : ∃ E, elimQ 0 N (augQ rows xs) = E := ⟨_, rfl⟩
    rw [hE] at hel
    have hebd : ∀ a', E = some a' -> Rows a' N (N + 1) /\ BdQ a' 80000 := fun a' h => by
     rw [<- hE] at h
     have h1 := elimQ_some N 0 (augQ_rows HRW.out) (by omega) (Unit'_zero _ _) h
     have h2 := elimQ_bd N 0 (augQ_rows HRW.out) (by omega) (by decide) hbd h
     exact ⟨h1.1, h2.mono (by have := hgI_le (H := 300) hN; omega)⟩
    have hbw : Below w.heap.size w wr := HB02.out.trans (HKP.out.below HB02.out.size (fun g hg => by
     rcases hg with hg | ⟨u, hu, hg⟩
     · omega
     · exact (HVB.out u hu g hg).1))
    have hps : ∀ g, Ps A (vs'.map blkOf) g -> w.heap.size <= g := fun g hg => by
     rcases hg with hg | ⟨r, hr, hg⟩
     · omega
     · rw [<- hg]; exact hbl r hr
    have HEL := Lib.hid hel; have HE := Lib.hid hE; have HEB := Lib.hid hebd; have HBW := Lib.hid hbw; have HPS := Lib.hid hps
    have hwr := hbw.size
    have j0 : ¬ (N : Int) < N := by omega
    clear hmat hbl hbd hel hE hebd hbw hps HMX HKP HRXr HRX HO HOX HSQ HAX HM HVB HXP
    go_wp2_with fail
    refine HEL.out.mono ?_
    rintro e w5 ⟨v5, δ, rfl, hv5, hk5, hres⟩
    have hb5 : Below w.heap.size w w5 := HBW.out.trans (hk5.below hwr HPS.out)
    have hvz := valZeroQ v5 δ w5 hv5
    have HB5 := Lib.hid hb5; have HVZ := Lib.hid hvz
    clear hv5 hk5 hb5 hvz HEL
    rcases hres with ⟨hn, hd⟩ | ⟨hd, rows', Rs', hs, hm5, -⟩
    · rw [decide_eq_true hd] at HVZ
      have HNO : Hid (elimQ 0 N (augQ rows xs) = none) := Lib.hid (HE.out.trans hn)
      clear hn hd
      go_wp2_with fail
      refine HVZ.out.mono ?_
      rintro e w6 ⟨rfl, hb6⟩
      have hbf := HB5.out.trans (hb6.mono HB5.out.size)
      clear hb6
      go_wp2_with fail
      go_ret2
      exact solve_none HNO.out hbf
    · rw [decide_eq_false hd] at HVZ
      have HSO : Hid (elimQ 0 N (augQ rows xs) = some rows') := Lib.hid (HE.out.trans hs)
      obtain ⟨hrr, hrb⟩ := HEB.out rows' hs
      obtain ⟨L, hL⟩ : ∃ L, lastQ rows' N = L := ⟨_, rfl⟩
      have hLl : L.length = N := by rw [<- hL]; unfold lastQ; rw [List.length_map, hrr.1]
      have hLb : ∀ q ∈ L, hgt q <= 1000000000 := fun q hq => by rw [<- hL] at hq; exact Nat.le_trans (lastQ_bd hrb hrr q hq) (by decide)
      have HM5 := Lib.hid hm5; have HLL := Lib.hid hLl; have HLB := Lib.hid hLb; have HL := Lib.hid hL; have HRR := Lib.hid hrr
      clear hs hd hrr hrb hL hLl hLb hm5 HE HEB
      go_wp2_with fail
      refine HVZ.out.mono ?_
      rintro e w6 ⟨rfl, hb6⟩
      have hbf := HB5.out.trans (hb6.mono HB5.out.size)
      have hm6 := HM5.out.below hb6
      have HB6 := Lib.hid hbf; have HM6 := Lib.hid hm6
      have hsz6 := hbf.size
      clear hb6 hbf hm6 HM5 HVZ
      go_wp2_with fail
      go_loopw [11, 58] (fun ov iv wr => ∃ (k : Nat) (cs : List (List Value)), k <= N /\ iv = .int .i64 k /\ wr.ownsRow w6.heap.size 148 6 ov k cs.flatten /\ QRow wr cs (L.take k) /\ NIB wr ov /\ Below w6.heap.size w6 wr) (fun _ iv _ => N - (intOf iv).toNat)
      case atStart => exact ⟨0, [], Nat.zero_le _, rfl, World.ownsRow_nil _ _ _ _, ⟨rfl, fun i c t h => by simp at h⟩, NIB.none _, Below.refl _ _⟩
      case round =>
       obtain ⟨k, cs, hk, rfl, hown, hqr, hnib, hb⟩ := hrel
       have HQR := Lib.hid hqr
       have hsz := hb.size
       clear hqr
       by_cases hkl : k < N
       · obtain ⟨r, xr, hr, hxr, hxl, hxd, hrbk⟩ := (HM6.out.below hb).get hkl
         have ca := (HM6.out.below hb).cell hr
         obtain ⟨y, hy⟩ := get_of_lt (show N < xr.length by omega)
         have hyl : L[k]? = some y := by rw [<- HL.out, lastQ_get hxr, List.getD, hy]; rfl
         obtain ⟨xc, hxn, hxc⟩ := hrbk.at hy
         have HXV := Lib.hid hxn
         obtain ⟨x1, xc1, x2, xc2, x3, xc3, x4, xc4, rfl⟩ := hxn.shape
         have sx0 := hxc 0 _ rfl
         have sx1 := hxc 1 _ rfl
         have sx2 := hxc 2 _ rfl
         have sx3 := hxc 3 _ rfl
         have sx4 := hxc 4 _ rfl
         have sx5 := hxc 5 _ rfl
         simp only [Nat.add_zero] at sx0
         have htk := take_get hyl
         have HTK := Lib.hid htk
         have j1 : (k : Int) < N := by omega
         have j2 : 0 <= (k : Int) := by omega
         have j3 : (N : Int) < (N : Int) + 1 := by omega
         have j4 : 0 <= (N : Int) := by omega
         have HOB : Hid (∀ j, u11.ownBlock = some j -> w6.heap.size <= j) := fun j e => (hown.lt j e).1
         have hal : Below wr.heap.size wr (wr.alloc (.cells #[.bool (qS y), .slice x1 (dig (qN y)).length xc1, .slice x2 (dig (qD y)).length xc2, .bool false, .slice x3 (dig 0).length xc3, .slice x4 (dig 1).length xc4] 148)) := (Below.refl _ _).alloc (Nat.le_refl _) _
         have hnib2 := hnib.below hal (fun g hg => (hown.lt g hg).2)
         have HNIB := Lib.hid hnib2
         have hnn : ∀ z ∈ ([.bool (qS y), .slice x1 (dig (qN y)).length xc1, .slice x2 (dig (qD y)).length xc2, .bool false, .slice x3 (dig 0).length xc3, .slice x4 (dig 1).length xc4] : List Value), NoNum z := fun z hz => by
          obtain ⟨jj, hj⟩ := List.mem_iff_getElem?.1 hz
          exact HXV.out.nonum hj
         have hzz : ∀ u ∈ ((Value.agg #[.bool false, .slice none 0 0, .slice none 0 0, .bool false, .slice none 0 0, .slice none 0 0]).cells).toList, NoNum u := by
          intro u hu
          change u ∈ [Value.bool false, .slice none 0 0, .slice none 0 0, .bool false, .slice none 0 0, .slice none 0 0] at hu
          simp only [List.mem_cons, List.not_mem_nil, or_false] at hu
          rcases hu with rfl | rfl | rfl | rfl | rfl | rfl <;> trivial
         have HNN := Lib.hid hnn; have HZZ := Lib.hid hzz; have HAL := Lib.hid hal
         clear hxn hxc hy hyl htk hr hxr hxl hxd hrbk hnib hnib2 hnn hzz hal
         go_wp2_with (at_builtin; refine wpList_append_nib _ rfl _ _ 227 rfl w6.heap.size 148 i9 (.agg #[.bool false, .slice none 0 0, .slice none 0 0, .bool false, .slice none 0 0, .slice none 0 0]) 6 112 Tryz.underlying227 hi hz0 hz1 hz2 rfl (by decide) _ _ _ rfl (hown.alloc _) ⟨wr.heap.size, 0, none⟩ 1 1 [.bool (qS y), .slice x1 (dig (qN y)).length xc1, .slice x2 (dig (qD y)).length xc2, .bool false, .slice x3 (dig 0).length xc3, .slice x4 (dig 1).length xc4] rfl rfl (World.news_of_block (cs := #[.bool (qS y), .slice x1 (dig (qN y)).length xc1, .slice x2 (dig (qD y)).length xc2, .bool false, .slice x3 (dig 0).length xc3, .slice x4 (dig 1).length xc4]) (t := 148) (fr := (0, 0)) (by have := heap_alloc_new wr (.cells #[.bool (qS y), .slice x1 (dig (qN y)).length xc1, .slice x2 (dig (qD y)).length xc2, .bool false, .slice x3 (dig 0).length xc3, .slice x4 (dig 1).length xc4] 148); simpa using this)) (by simp [Value.oneCell']) (by unfold maxLen; omega) (by omega) (by simp; omega) HNIB.out HZZ.out HNN.out ?_; intro v1 wz hown2 hgrow hnib3)
         have hbz := (hb.alloc hsz (.cells #[.bool (qS y), .slice x1 (dig (qN y)).length xc1, .slice x2 (dig (qD y)).length xc2, .bool false, .slice x3 (dig 0).length xc3, .slice x4 (dig 1).length xc4] 148)).grown hgrow (by simp; omega) HOB.out
         have hkz : Kp (fun g => u11.ownBlock = some g) wr wz := (Kp.of_below HAL.out).trans (Kp.grown hgrow HNIB.out)
         have hqz : QRow wz (cs ++ [[.bool (qS y), .slice x1 (dig (qN y)).length xc1, .slice x2 (dig (qD y)).length xc2, .bool false, .slice x3 (dig 0).length xc3, .slice x4 (dig 1).length xc4]]) (L.take (k + 1)) := by rw [HTK.out]; exact (hkz.row HQR.out).snoc (hkz.cell HXV.out)
         have hfl : cs.flatten ++ [.bool (qS y), .slice x1 (dig (qN y)).length xc1, .slice x2 (dig (qD y)).length xc2, .bool false, .slice x3 (dig 0).length xc3, .slice x4 (dig 1).length xc4] = (cs ++ [([.bool (qS y), .slice x1 (dig (qN y)).length xc1, .slice x2 (dig (qD y)).length xc2, .bool false, .slice x3 (dig 0).length xc3, .slice x4 (dig 1).length xc4] : List Value)]).flatten := by simp
         rw [hfl] at hown2
         have HOW := Lib.hid hown2; have HQZ := Lib.hid hqz; have HN3 := Lib.hid hnib3
         clear hown hown2 hgrow hkz hqz hfl hnib3
         obtain ⟨gg, cp, rfl⟩ := own_succ HOW.out
         go_wp2_with fail
         go_roundw
         case rel => exact ⟨k + 1, _, by omega, by go_num, HOW.out, HQZ.out, HN3.out, hbz⟩
         case measure => simp [intOf]; omega
       · obtain rfl : N = k := by omega
         have hqr := HQR.out
         rw [List.take_of_length_le (by rw [HLL.out]; exact Nat.le_refl _)] at hqr
         obtain ⟨g, c, rfl, hcs⟩ := own_cells hown
         have hbw := HB6.out.trans (hb.mono hsz6)
         have hpt := puts_any g cs L c wr (HT.out.below hbw (Nat.le_refl _)) hcs hqr (by rw [HLL.out]; omega) HLB.out
         rw [HLL.out] at hpt
         have HPT := Lib.hid hpt; have HBF := Lib.hid hbw
         have j1 : ¬ (N : Int) < N := by omega
         clear hqr hown hcs hnib hpt hbw
         go_wp2_with fail
         refine HPT.out.mono ?_
         rintro e w7 ⟨hm, hb7⟩
         have hbf := HBF.out.trans (hb7.mono HBF.out.size)
         cases hok : okL L
         · rw [if_neg (by rw [hok]; decide)] at hm
           subst hm
           have HOK : Hid (okL (lastQ rows' N) = false) := Lib.hid (by rw [HL.out]; exact hok)
           clear hok
           go_wp2_with fail
           go_ret2
           exact solve_big HSO.out HOK.out hbf
         · rw [if_pos hok] at hm
           obtain ⟨v, rfl, ho7⟩ := hm
           have HOK : Hid (okL (lastQ rows' N) = true) := Lib.hid (by rw [HL.out]; exact hok)
           have ho8 : w7.ownsRow w.heap.size 34 1 v (lastQ rows' N).length (((lastQ rows' N).map txQ).map Value.string) := by rw [HL.out]; exact own_baseQ ho7 (by omega)
           have HO8 := Lib.hid ho8
           obtain ⟨gg, cc, rfl, -⟩ := own_cells ho7
           clear hok ho7 ho8
           go_wp2_with fail
           go_ret2
           exact solve_ok HSO.out HOK.out HO8.out hbf
end Go.Proofs.YtdpjdifoonfcdaaGreatDoor

namespace Go.Proofs.YtdpjdifoonfcdaaGreatDoor
open Go.RowKit
def rtE (ws : List (List Int)) (y : List Int) (f : List Rat) : Int := if clOK ws y f = true then peQ (restQ ws y f) else 11
def rtT (ws : List (List Int)) (y : List Int) (f : List Rat) : ByteArray := if clOK ws y f = true then ptQ (restQ ws y f) else ⟨#[]⟩
theorem cleanQ_ok {ws : List (List Int)} {y : List Int} {f : List Rat} (h : clOK ws y f = true) : ∀ q ∈ cleanQ ws y f, okQ q = true := by
 intro q hq
 unfold cleanQ at hq
 obtain ⟨t, ht, rfl⟩ := List.mem_map.1 hq
 have := List.all_eq_true.1 h t ht
 unfold timeOK at this
 exact (Bool.and_eq_true _ _ ▸ this : _ /\ _).2
set_option maxRecDepth 100000 in
set_option maxHeartbeats 2000000 in
theorem rest_any (ao wo fo : Option Addr) (y : List Int) (vs : List Value) (ws : List (List Int)) (f : List Rat) (ca cw cf N M : Nat) (w : World) (ht : Tab w) (hc : Cells w ao (y.map (Value.int .i64))) (hd : Cells w wo vs) (hr : RowsI w vs ws) (hfc : Cells w fo (txs f))
 (hM : y.length = M) (hl : M <= 64) (hsm : ∀ x ∈ y, -1048576 <= x /\ x <= 1048576) (hw : ∀ a ∈ ws, a.length = y.length /\ ∀ x ∈ a, -1048576 <= x /\ x <= 1048576) (hN : ws.length = N) (hN4 : N <= 4) (hf : f.length = N) (hfo : ∀ q ∈ f, okQ q = true) :
 Calls Tryz.prog 62 #[.slice ao M ca, .slice wo N cw, .slice fo N cf] w fun e w' => e = .returned (.tuple #[.string (rtT ws y f), .int .i64 (rtE ws y f)]) /\ Below w.heap.size w w' := by
 have hcl := clean_any ao wo fo y vs ws f ca cw cf N w ht hc hd hr hfc (by omega) hsm hw hN hN4 hf hfo
 rw [hM] at hcl
 have HCL := Lib.hid hcl; have HT := Lib.hid ht; have HM := Lib.hid hM
 clear hcl ht hc hd hr hfc hM hsm hw hN hf hfo
 obtain ⟨tt, htt⟩ : ∃ tt, rtT ws y f = tt := ⟨_, rfl⟩
 obtain ⟨te, hte⟩ : ∃ te, rtE ws y f = te := ⟨_, rfl⟩
 rw [htt, hte]
 have HTT := Lib.hid htt; have HTE := Lib.hid hte
 clear htt hte
 go_enter Tryz.func62, Tryz.ntmps62
 go_wp2_with fail
 refine HCL.out.mono ?_
 rintro e w1 ⟨hm, hb⟩
 cases hok : clOK ws y f
 · rw [if_neg (by rw [hok]; decide)] at hm
   subst hm
   obtain rfl : tt = ⟨#[]⟩ := by rw [<- HTT.out]; unfold rtT; rw [if_neg (by rw [hok]; decide)]
   obtain rfl : te = 11 := by rw [<- HTE.out]; unfold rtE; rw [if_neg (by rw [hok]; decide)]
   clear hok HTT HTE
   go_wp2_with fail
   go_ret2
   exact ⟨rfl, hb⟩
 · rw [if_pos hok] at hm
   obtain ⟨v, rfl, hown⟩ := hm
   obtain rfl : tt = ptQ (restQ ws y f) := by rw [<- HTT.out]; unfold rtT; rw [if_pos hok]
   obtain rfl : te = peQ (restQ ws y f) := by rw [<- HTE.out]; unfold rtE; rw [if_pos hok]
   obtain ⟨g, c, rfl, hg⟩ := own_cells hown
   have hlen : (cleanQ ws y f).length = M := by unfold cleanQ; rw [List.length_map, List.length_range, HM.out]
   have hdt := dotQ_any g g (cleanQ ws y f) (cleanQ ws y f) c c w1 (HT.out.below hb (Nat.le_refl _)) hg hg rfl (by rw [hlen]; omega) (cleanQ_ok hok) (cleanQ_ok hok)
   rw [hlen] at hdt
   have HDT : Hid (Calls Tryz.prog 134 #[.slice g M c, .slice g M c] w1 fun e w' => e = .returned (.tuple #[.string (ptQ (restQ ws y f)), .int .i64 (peQ (restQ ws y f))]) /\ Below w1.heap.size w1 w') := Lib.hid hdt
   rw [HM.out]
   clear hok hown hg hdt HTT HTE hlen
   go_wp2_with fail
   refine HDT.out.mono ?_
   rintro e w2 ⟨rfl, hb2⟩
   have hbf := hb.trans (hb2.mono hb.size)
   clear hb2
   go_wp2_with fail
   go_ret2
   exact ⟨rfl, hbf⟩
def prsQ (ws : List (List Int)) (a : List Int) : List Rat := ws.map (fun b => ((prI a b : Int) : Rat))
def vecQ (ws : List (List Int)) (y : List Int) : List Rat := ws.map (fun a => ((prI a y : Int) : Rat))
theorem aug_fitM (ws : List (List Int)) (y : List Int) : augQ (ws.map (prsQ ws)) (vecQ ws y) = fitM ws y := by
 refine List.ext_getElem? fun j => ?_
 unfold augQ fitM
 rw [List.getElem?_mapIdx, List.getElem?_map, List.getElem?_map]
 cases h : ws[j]? with
 | none => rfl
 | some a =>
   show some (prsQ ws a ++ [(vecQ ws y).getD j 0]) = some _
   have : (vecQ ws y).getD j 0 = ((prI a y : Int) : Rat) := by
    unfold vecQ
    rw [List.getD, List.getElem?_map, h]; rfl
   rw [this]; rfl
structure FitM (w : World) (base : Nat) (mv vv : Value) (us : List Value) (ws : List (List Int)) (y : List Int) (N k : Nat) : Prop where
 own : w.ownsRow base 33 1 mv k us
 vec : w.ownsRow base 34 1 vv k (txs (vecQ (ws.take k) y))
 row : ∀ (j : Nat) u a, us[j]? = some u -> ws[j]? = some a -> w.ownsRow base 34 1 u N (txs (prsQ ws a)) /\ u.ownBlock ≠ vv.ownBlock
theorem FitM.below {w w' : World} {base : Nat} {mv vv : Value} {us : List Value} {ws : List (List Int)} {y : List Int} {N k : Nat} (h : FitM w base mv vv us ws y N k) (hb : Below w.heap.size w w') : FitM w' base mv vv us ws y N k :=
 ⟨own_belowK h.own hb (Nat.le_refl _), own_belowK h.vec hb (Nat.le_refl _), fun j u a h1 h2 => ⟨own_belowK (h.row j u a h1 h2).1 hb (Nat.le_refl _), (h.row j u a h1 h2).2⟩⟩
theorem FitM.len {w : World} {base : Nat} {mv vv : Value} {us : List Value} {ws : List (List Int)} {y : List Int} {N k : Nat} (h : FitM w base mv vv us ws y N k) : us.length = k := by have := h.own.1; omega
def FitRes (ws : List (List Int)) (y : List Int) (w : World) (e : Ending) (w' : World) : Prop :=
 (if fgE y ws = 0 then (match fitQ ws y with
  | none => e = .returned (.tuple #[.slice none 0 0, .string ⟨#[]⟩, .int .i64 15])
  | some f => if okL f = true /\ clOK ws y f = true /\ okQ (restQ ws y f) = true then ∃ v, e = .returned (.tuple #[v, .string (txQ (restQ ws y f)), .int .i64 0]) /\ w'.ownsRow w.heap.size 34 1 v f.length (txs f) else e = .returned (.tuple #[.slice none 0 0, .string ⟨#[]⟩, .int .i64 11]))
  else e = .returned (.tuple #[.slice none 0 0, .string ⟨#[]⟩, .int .i64 (fgE y ws)])) /\ Below w.heap.size w w'
theorem fit_err {ws : List (List Int)} {y : List Int} {w w' : World} {E : Int} (h : fgE y ws = E) (h0 : E ≠ 0) (hb : Below w.heap.size w w') : FitRes ws y w (.returned (.tuple #[.slice none 0 0, .string ⟨#[]⟩, .int .i64 E])) w' := ⟨by rw [if_neg (by rw [h]; exact h0), h], hb⟩
theorem fit_sing {ws : List (List Int)} {y : List Int} {w w' : World} (h : fgE y ws = 0) (h0 : fitQ ws y = none) (hb : Below w.heap.size w w') : FitRes ws y w (.returned (.tuple #[.slice none 0 0, .string ⟨#[]⟩, .int .i64 15])) w' := ⟨by rw [if_pos h, h0], hb⟩
theorem fit_big {ws : List (List Int)} {y : List Int} {f : List Rat} {w w' : World} (h : fgE y ws = 0) (h0 : fitQ ws y = some f) (h1 : ¬ (okL f = true /\ clOK ws y f = true /\ okQ (restQ ws y f) = true)) (hb : Below w.heap.size w w') : FitRes ws y w (.returned (.tuple #[.slice none 0 0, .string ⟨#[]⟩, .int .i64 11])) w' := ⟨by rw [if_pos h, h0]; show ite _ _ _; rw [if_neg h1], hb⟩
theorem fit_good {ws : List (List Int)} {y : List Int} {f : List Rat} {w w' : World} {v : Value} (h : fgE y ws = 0) (h0 : fitQ ws y = some f) (h1 : okL f = true /\ clOK ws y f = true /\ okQ (restQ ws y f) = true) (ho : w'.ownsRow w.heap.size 34 1 v f.length (txs f)) (hb : Below w.heap.size w w') : FitRes ws y w (.returned (.tuple #[v, .string (txQ (restQ ws y f)), .int .i64 0])) w' := ⟨by rw [if_pos h, h0]; show ite _ _ _; rw [if_pos h1]; exact ⟨v, rfl, ho⟩, hb⟩
theorem fgE_zero {y : List Int} {ws : List (List Int)} (h : fgE y ws = 0) : (1 <= y.length /\ y.length <= 64 /\ smB y = true) /\ 1 <= ws.length /\ ws.length <= 4 /\ ∀ a ∈ ws, a.length = y.length /\ smB a = true := by
 unfold fgE at h
 split at h
 · split at h
   · rename_i h1 h2
     refine ⟨h1, h2.1, h2.2.1, fun a ha => ?_⟩
     have := List.all_eq_true.1 h2.2.2 a ha
     unfold witB at this
     rw [Bool.and_eq_true, decide_eq_true_iff] at this
     exact this
   · cases h
 · cases h
theorem Tryz.infoNumRow : (Tryz.prog.info? 33).map (fun i => (i.zero, i.size, i.bytes)) = some (some (.slice none 0 0), 1, 24) := by kernel_rfl
theorem prs_ok {ws : List (List Int)} {a : List Int} {M : Nat} (hM : M <= 64) (ha : ∀ x ∈ a, -1048576 <= x /\ x <= 1048576) (hal : a.length = M) (hw : ∀ b ∈ ws, ∀ x ∈ b, -1048576 <= x /\ x <= 1048576) : (∀ b ∈ ws, (prI a b).natAbs <= 70368744177664) /\ ∀ q ∈ prsQ ws a, okQ q = true := by
 have h1 : ∀ b ∈ ws, (prI a b).natAbs <= 70368744177664 := fun b hb => by
  have h3 := prI_bd (M := 1048576) a b (sm_abs ha) (sm_abs (hw b hb))
  have h5 : a.length * (1048576 * 1048576) <= 64 * (1048576 * 1048576) := Nat.mul_le_mul_right _ (by omega)
  omega
 refine ⟨h1, fun q hq => ?_⟩
 obtain ⟨b, hb, rfl⟩ := List.mem_map.1 hq
 exact small_okQ (by have := h1 b hb; omega)
end Go.Proofs.YtdpjdifoonfcdaaGreatDoor

namespace Go.Proofs.YtdpjdifoonfcdaaGreatDoor
open Go.RowKit
set_option maxRecDepth 100000 in
set_option maxHeartbeats 8000000 in
theorem gfit_any (ao wo : Option Addr) (y : List Int) (vs : List Value) (ws : List (List Int)) (ca cw : Nat) (w : World) (ht : Tab w) (hc : Cells w ao (y.map (Value.int .i64))) (hl : y.length <= 9223372036854775807) (hd : Cells w wo vs) (hr : RowsI w vs ws) (hwl : ws.length <= 9223372036854775807) :
 Calls Tryz.prog 16 #[.slice ao y.length ca, .slice wo ws.length cw] w (FitRes ws y w) := by
 have HFT := Lib.hid (fitting_any ao wo y vs ws ca cw w hc hl hd hr hwl)
 obtain ⟨i0, hi, hz0, hz1, hz2⟩ := info_parts Tryz.infoNumQ
 obtain ⟨i1, hi1, hy0, hy1, hy2⟩ := info_parts Tryz.infoNumRow
 have HT := Lib.hid ht; have HC := Lib.hid hc; have HD := Lib.hid hd; have HR := Lib.hid hr
 obtain ⟨E, hE⟩ : ∃ E, fgE y ws = E := ⟨_, rfl⟩
 rw [hE] at HFT
 have HE := Lib.hid hE
 clear ht hc hl hd hr hwl
 by_cases h0 : E ≠ 0
 · have e1 : (E == 0) = false := by rw [beq_eq_false_iff_ne]; exact h0
   have H0 := Lib.hid h0
   clear hE h0
   go_enter Tryz.func16, Tryz.ntmps16
   go_wp2_with fail
   refine HFT.out.mono ?_
   rintro e w1 ⟨rfl, hb⟩
   go_wp2_with fail
   refine bodyPost_ret (v := .tuple #[.slice none 0 0, .string ⟨#[]⟩, .int .i64 E]) (by simp [results, Tryz.results16, go_sem]) rfl ?_
   exact fit_err HE.out H0.out hb
 obtain rfl : E = 0 := Decidable.not_not.1 h0
 obtain ⟨⟨hM1, hM64, hsy⟩, hN1, hN4, hws⟩ := fgE_zero hE
 have hsm := smB_mem hsy
 have hww : ∀ a ∈ ws, a.length = y.length /\ ∀ x ∈ a, -1048576 <= x /\ x <= 1048576 := fun a ha => ⟨(hws a ha).1, smB_mem (hws a ha).2⟩
 obtain ⟨M, hM⟩ : ∃ M, y.length = M := ⟨_, rfl⟩
 obtain ⟨N, hN⟩ : ∃ N, ws.length = N := ⟨_, rfl⟩
 rw [hM] at HFT hM1 hM64 ⊢
 rw [hN] at HFT hN1 hN4 ⊢
 have HM := Lib.hid hM; have HN := Lib.hid hN; have HSM := Lib.hid hsm; have HW := Lib.hid hww
 have HVL : Hid (vs.length = N) := Lib.hid (HR.out.1.trans hN)
 clear h0 hE hsy hws hsm hww hM hN
 go_enter Tryz.func16, Tryz.ntmps16
 go_wp2_with fail
 refine HFT.out.mono ?_
 rintro e w1 ⟨rfl, hb1⟩
 have HB1 := Lib.hid hb1
 clear hb1 HFT
 go_wp2_with fail
 go_loopw [8, 9, 23] (fun mv vv iv wr => ∃ (k : Nat) (us : List Value), k <= N /\ iv = .int .i64 k /\ FitM wr w.heap.size mv vv us ws y N k /\ Below w.heap.size w wr) (fun _ _ iv _ => N - (intOf iv).toNat)
 case atStart => exact ⟨0, [], Nat.zero_le _, rfl, ⟨World.ownsRow_nil _ _ _ _, World.ownsRow_nil _ _ _ _, fun _ _ _ h => by simp at h⟩, HB1.out⟩
 case round =>
  obtain ⟨k, us, hkN, rfl, hfm, hb⟩ := hrel
  have hsz := hb.size
  by_cases hkl : k < N
  · obtain ⟨a, ha⟩ := get_of_lt (show k < ws.length by rw [HN.out]; exact hkl)
    obtain ⟨v, hv⟩ := get_of_lt (show k < vs.length by rw [HVL.out]; exact hkl)
    obtain ⟨aa, cc, rfl, hac, -⟩ := HR.out.2 k v a hv ha
    obtain ⟨haM, hasm⟩ := HW.out a (List.mem_of_getElem? ha)
    rw [HM.out] at haM
    rw [haM] at hv
    obtain ⟨bw, offw, rfl⟩ := HD.out.addr (by intro h; rw [h] at hv; simp at hv)
    obtain ⟨wq, hwq⟩ : ∃ wq, wq = wr := ⟨_, rfl⟩
    rw [<- hwq] at hfm hb hsz
    have c0 := cell_keep (HD.out.at hv) hb (Nat.le_refl _)
    have hfo := hfm.own
    have hfv := hfm.vec
    obtain ⟨og, oc, rfl, -⟩ := own_cells hfo
    obtain ⟨qg, qc, rfl, -⟩ := own_cells hfv
    have HFM := Lib.hid hfm; have HB := Lib.hid hb; have HA := Lib.hid ha; have HAC := Lib.hid hac; have HAM := Lib.hid haM; have HAS := Lib.hid hasm
    have hpo := prs_ok (M := M) (ws := ws) hM64 hasm haM (fun b hb => (HW.out b hb).2)
    have HPO := Lib.hid hpo
    have j0 : (k : Int) < N := by omega
    clear ha hv hac haM hasm hfm hb hfo hfv hpo
    rw [<- hwq]
    clear hwq
    clear wr
    go_wp2_with fail
    go_loopw [12, 29] (fun rv iv wr => ∃ l : Nat, l <= N /\ iv = .int .i64 l /\ wr.ownsRow wq.heap.size 34 1 rv l (txs ((prsQ ws a).take l)) /\ Below wq.heap.size wq wr) (fun _ iv _ => N - (intOf iv).toNat)
    case atStart => exact ⟨0, Nat.zero_le _, rfl, World.ownsRow_nil _ _ _ _, Below.refl _ _⟩
    case round =>
     obtain ⟨l, hlN, rfl, hrow, hbq⟩ := hrel
     have hbw := HB.out.trans (hbq.mono hsz)
     have hszq := hbq.size
     by_cases hll : l < N
     · obtain ⟨b, hbl⟩ := get_of_lt (show l < ws.length by rw [HN.out]; exact hll)
       obtain ⟨v, hv⟩ := get_of_lt (show l < vs.length by rw [HVL.out]; exact hll)
       obtain ⟨ba, bc, rfl, hbc, -⟩ := HR.out.2 l v b hv hbl
       obtain ⟨hbM, hbsm⟩ := HW.out b (List.mem_of_getElem? hbl)
       rw [HM.out] at hbM
       rw [hbM] at hv
       have c1 := cell_keep (HD.out.at hv) hbw (Nat.le_refl _)
       have hpr := product_g aa ba a b M cc bc wr (HT.out.below hbw (Nat.le_refl _)) (HAC.out.below hbw (Nat.le_refl _)) (hbc.below hbw (Nat.le_refl _)) HAM.out hbM hM64 HAS.out hbsm
       have hpg : (prsQ ws a)[l]? = some ((prI a b : Int) : Rat) := by unfold prsQ; rw [List.getElem?_map, hbl]; rfl
       have htk := take_get hpg
       have HPR := Lib.hid hpr; have HTK := Lib.hid htk
       obtain ⟨tx, htx⟩ : ∃ tx, txQ ((prI a b : Int) : Rat) = tx := ⟨_, rfl⟩
       rw [htx] at HPR
       have HTX := Lib.hid htx
       have j1 : (l : Int) < N := by omega
       clear hbl hv hbc hbM hbsm hpr hpg htk htx
       go_wp2_with fail
       refine HPR.out.mono ?_
       rintro e w2 ⟨rfl, hb2⟩
       have hbq2 := hbq.trans (hb2.mono hszq)
       have hsz2 := hbq2.size
       have hrow2 := own_belowK hrow hb2 (Nat.le_refl _)
       clear hb2 hrow c1
       go_wp2_with (at_builtin; refine wpList_append_own _ rfl _ _ 33 rfl wq.heap.size 34 i0 (.string ⟨#[]⟩) 1 16 Tryz.underlying33 hi hz0 hz1 hz2 rfl (by decide) _ _ _ rfl (hrow2.alloc _) ⟨w2.heap.size, 0, none⟩ 1 1 [.string tx] rfl rfl (World.news_of_block (cs := #[.string tx]) (t := 34) (fr := (0, 0)) (by have := heap_alloc_new w2 (.cells #[.string tx] 34); simpa using this)) (by simp [Value.oneCell']) (by unfold maxLen; omega) (by omega) (by simp; omega) ?_; intro v1 wz hown2 hgrow _)
       have hbz := (hbq2.alloc hsz2 (.cells #[.string tx] 34)).grown hgrow (by simp; omega) (fun j e => (hrow2.lt j e).1)
       have he : txs ((prsQ ws a).take l) ++ [.string tx] = txs ((prsQ ws a).take (l + 1)) := by rw [HTK.out, txs_snoc, HTX.out]
       rw [he] at hown2
       obtain ⟨gg, cp, rfl⟩ := own_succ hown2
       have HOW := Lib.hid hown2
       clear hown2 hgrow he hrow2
       go_wp2_with fail
       go_roundw
       case rel => exact ⟨l + 1, by omega, by go_num, HOW.out, hbz⟩
       case measure => simp [intOf]; omega
     · obtain rfl : N = l := by omega
       have hpl : (prsQ ws a).length = N := by unfold prsQ; rw [List.length_map, HN.out]
       rw [List.take_of_length_le (by rw [hpl]; exact Nat.le_refl _)] at hrow
       obtain ⟨rg, rc, rfl, -⟩ := own_cells hrow
       have hfm1 := HFM.out.below hbq
       have hrb : ∀ g, (Value.slice rg N rc).ownBlock = some g -> wq.heap.size <= g := fun g hg => (hrow.lt g hg).1
       have hvb : ∀ g, (Value.slice qg k qc).ownBlock = some g -> g < wq.heap.size := fun g hg => (HFM.out.vec.lt g hg).2
       have HROW := Lib.hid hrow; have HF1 := Lib.hid hfm1; have HRB := Lib.hid hrb; have HVB := Lib.hid hvb; have HBW := Lib.hid hbw; have HBQ := Lib.hid hbq
       have hfo := hfm1.own
       have hszw := hbw.size
       have j1 : ¬ (N : Int) < N := by omega
       clear hpl hrow hfm1 hrb hvb hbw hbq
       go_wp2_with (at_builtin; refine wpList_append_own _ rfl _ _ 123 rfl w.heap.size 33 i1 (.slice none 0 0) 1 24 Tryz.underlying123 hi1 hy0 hy1 hy2 rfl (by decide) _ _ _ rfl (hfo.alloc _) ⟨wr.heap.size, 0, none⟩ 1 1 [.slice rg N rc] rfl rfl (World.news_of_block (cs := #[.slice rg N rc]) (t := 33) (fr := (0, 0)) (by have := heap_alloc_new wr (.cells #[.slice rg N rc] 33); simpa using this)) (by simp [Value.oneCell']) (by unfold maxLen; omega) (by omega) (by simp; omega) ?_; intro v2 w3 hown3 hgrow3 _)
       have hal3 : Below wr.heap.size wr (wr.alloc (.cells #[.slice rg N rc] 33)) := (Below.refl _ _).alloc (Nat.le_refl _) _
       have hf2 := HF1.out.below hal3
       have hr2 := own_belowK HROW.out hal3 (Nat.le_refl _)
       have hb3 := (HBW.out.alloc hszw (.cells #[.slice rg N rc] 33)).grown hgrow3 (by simp; omega) (fun j e => (hfo.lt j e).1)
       have hvec3 := hf2.vec.kept hgrow3 (own_ne3 hf2.vec hf2.own (by decide))
       have hrow3 : ∀ (j : Nat) u b, us[j]? = some u -> ws[j]? = some b -> w3.ownsRow w.heap.size 34 1 u N (txs (prsQ ws b)) /\ u.ownBlock ≠ (Value.slice qg k qc).ownBlock := fun j u b h1 h2 =>
        ⟨(hf2.row j u b h1 h2).1.kept hgrow3 (own_ne3 (hf2.row j u b h1 h2).1 hf2.own (by decide)), (hf2.row j u b h1 h2).2⟩
       have hnew3 := hr2.kept hgrow3 (own_ne3 hr2 hf2.own (by decide))
       have hsz3 := hb3.size
       have hpr := product_g aa ao a y M cc ca w3 (HT.out.below hb3 (Nat.le_refl _)) (HAC.out.below hb3 (Nat.le_refl _)) (HC.out.below hb3 (Nat.le_refl _)) HAM.out HM.out hM64 HAS.out HSM.out
       have HB3 := Lib.hid hb3; have HVEC3 := Lib.hid hvec3; have HROW3 := Lib.hid hrow3; have HNEW3 := Lib.hid hnew3; have HOWN3 := Lib.hid hown3; have HPR := Lib.hid hpr
       obtain ⟨ty, hty⟩ : ∃ ty, txQ ((prI a y : Int) : Rat) = ty := ⟨_, rfl⟩
       rw [hty] at HPR
       have HTY := Lib.hid hty
       obtain ⟨mg, mc, rfl⟩ := own_succ hown3
       clear hal3 hf2 hr2 hb3 hvec3 hrow3 hnew3 hown3 hgrow3 hpr hty hfo HF1
       refine HPR.out.mono ?_
       rintro e w4 ⟨rfl, hb4⟩
       have hb04 := HB3.out.trans (hb4.mono hsz3)
       have hvec4 := own_belowK HVEC3.out hb4 (Nat.le_refl _)
       have hsz4 := hb04.size
       have HB34 := Lib.hid hb4; have HB04 := Lib.hid hb04
       clear hb4 hb04 HPR
       go_wp2_with (at_builtin; refine wpList_append_lies _ rfl _ _ 33 rfl w.heap.size 34 i0 (.string ⟨#[]⟩) 1 16 Tryz.underlying33 hi hz0 hz1 hz2 rfl (by decide) _ _ _ rfl (hvec4.alloc _) ⟨w4.heap.size, 0, none⟩ 1 1 [.string ty] rfl rfl (World.news_of_block (cs := #[.string ty]) (t := 34) (fr := (0, 0)) (by have := heap_alloc_new w4 (.cells #[.string ty] 34); simpa using this)) (by simp [Value.oneCell']) (by omega) (by unfold maxLen; omega) (by omega) (by simp; omega) (w4.heap.size + 1) (by simp) ?_; intro g5 c5 w5 hown5 hgrow5 hat5 hlt5)
       have hal5 : Below w4.heap.size w4 (w4.alloc (.cells #[.string ty] 34)) := (Below.refl _ _).alloc (Nat.le_refl _) _
       have hb45 := HB34.out.trans (hal5.mono HB34.out.size)
       have hbz := (HB04.out.alloc hsz4 (.cells #[.string ty] 34)).grown hgrow5 (by simp; omega) (fun j e => (hvec4.lt j e).1)
       have hkeep : ∀ {u : Value} {xs : List Value} {B : Nat}, w3.ownsRow B 34 1 u N xs -> u.ownBlock ≠ (Value.slice qg k qc).ownBlock -> w5.ownsRow B 34 1 u N xs /\ u.ownBlock ≠ (Value.slice (some ⟨g5, 0, none⟩) (k + 1) c5).ownBlock := fun {u xs B} h1 h2 => by
        have h3 := own_belowK h1 hb45 (Nat.le_refl _)
        refine ⟨h3.kept hgrow5 (.inr h2), fun e => ?_⟩
        rcases hat5 with h | h
        · exact h2 (e.trans h.symm)
        · have := (h1.lt g5 e).2
          have h4 := HB34.out.size
          omega
       have hfin : FitM w5 w.heap.size (.slice (some ⟨mg, 0, none⟩) (k + 1) mc) (.slice (some ⟨g5, 0, none⟩) (k + 1) c5) (us ++ [.slice rg N rc]) ws y N (k + 1) := by
        have htv : txs (vecQ (ws.take k) y) ++ [.string ty] = txs (vecQ (ws.take (k + 1)) y) := by
         rw [take_get HA.out]
         unfold vecQ
         rw [List.map_append, List.map_cons, List.map_nil, txs_snoc, HTY.out]
        rw [htv] at hown5
        have hul : us.length = k := HFM.out.len
        have ho4 := own_belowK HOWN3.out hb45 (Nat.le_refl _)
        refine ⟨ho4.kept hgrow5 (own_ne3 ho4 (hvec4.alloc (.cells #[.string ty] 34)) (by decide)), hown5, fun j u b h1 h2 => ?_⟩
        by_cases hj : j < us.length
        · rw [List.getElem?_append_left hj] at h1
          obtain ⟨r1, r2⟩ := HROW3.out j u b h1 h2
          exact hkeep r1 r2
        · have hj2 : j = us.length := by have := (List.getElem?_eq_some_iff.1 h1).1; simp at this; omega
          rw [hj2, List.getElem?_append_right (Nat.le_refl _), Nat.sub_self] at h1
          obtain rfl := Option.some.inj h1
          rw [hj2, hul, HA.out] at h2
          obtain rfl := Option.some.inj h2
          obtain ⟨r1, r2⟩ := hkeep HNEW3.out (fun e => by
           rcases hq : (Value.slice rg N rc).ownBlock with _ | g
           · rcases HNEW3.out.2 with ⟨_, h⟩ | ⟨g, cap, cur, h, _⟩
             · omega
             · rw [h] at hq; simp [Value.ownBlock] at hq
           · have h1 := HRB.out g hq
             have h2 := HVB.out g (e.symm.trans hq)
             omega)
          have hwq : w.heap.size <= wq.heap.size := hsz
          exact ⟨own_baseQ r1 hwq, r2⟩
       have HFIN := Lib.hid hfin
       clear hal5 hb45 hkeep hfin hown5 hgrow5 hat5 hvec4 HROW3 HNEW3 HOWN3 HVEC3
       go_wp2_with fail
       go_roundw
       case rel => exact ⟨k + 1, _, by omega, by go_num, HFIN.out, hbz⟩
       case measure => simp [intOf]; omega
  · obtain rfl : N = k := by omega
    obtain ⟨mg, mc, rfl, hmc⟩ := own_cells hfm.own
    obtain ⟨vg, vc, rfl, hvc⟩ := own_cells hfm.vec
    have htw : ws.take N = ws := List.take_of_length_le (by rw [HN.out]; exact Nat.le_refl _)
    rw [htw] at hvc
    have hpo : ∀ a ∈ ws, (∀ b ∈ ws, (prI a b).natAbs <= 70368744177664) /\ ∀ q ∈ prsQ ws a, okQ q = true := fun a ha => prs_ok (M := M) hM64 (HW.out a ha).2 (by rw [(HW.out a ha).1, HM.out]) (fun b hb => (HW.out b hb).2)
    have hvo : ∀ q ∈ vecQ ws y, okQ q = true := fun q hq => by
     obtain ⟨a, ha, rfl⟩ := List.mem_map.1 hq
     have h3 := prI_bd (M := 1048576) a y (sm_abs (HW.out a ha).2) (sm_abs HSM.out)
     have h5 : a.length * (1048576 * 1048576) <= 64 * (1048576 * 1048576) := Nat.mul_le_mul_right _ (by have := (HW.out a ha).1; rw [HM.out] at this; omega)
     exact small_okQ (by omega)
    have hrws : Rows (ws.map (prsQ ws)) N N := by
     refine ⟨by rw [List.length_map, HN.out], fun r hr => ?_⟩
     obtain ⟨a, -, rfl⟩ := List.mem_map.1 hr
     unfold prsQ; rw [List.length_map, HN.out]
    have hrt : RowsT wr us (ws.map (prsQ ws)) N := by
     refine ⟨by rw [hfm.len, List.length_map, HN.out], fun j u r h1 h2 => ?_⟩
     rw [List.getElem?_map] at h2
     cases hwj : ws[j]? with
     | none => rw [hwj] at h2; cases h2
     | some a =>
       rw [hwj] at h2
       obtain rfl := Option.some.inj h2
       exact own_cells (hfm.row j u a h1 hwj).1
    have hsv := solve_any mg vg us (ws.map (prsQ ws)) (vecQ ws y) N mc vc wr (HT.out.below hb (Nat.le_refl _)) hmc hrt hrws hvc (by unfold vecQ; rw [List.length_map, HN.out]) hN4 hN1 (fun r hr => by
     obtain ⟨a, ha, rfl⟩ := List.mem_map.1 hr
     exact (hpo a ha).2) hvo
    rw [aug_fitM] at hsv
    have HSV := Lib.hid hsv; have HB := Lib.hid hb
    have j0 : ¬ (N : Int) < N := by omega
    clear hfm hmc hvc htw hpo hvo hrws hrt hsv hb
    go_wp2_with fail
    refine HSV.out.mono ?_
    rintro e w2 ⟨hm, hb2⟩
    have hb02 := HB.out.trans (hb2.mono hsz)
    have HB02 := Lib.hid hb02
    have hsz2 := hb02.size
    clear hb2 hb02 HSV
    cases hel : elimQ 0 N (fitM ws y) with
    | none =>
      rw [hel] at hm
      subst hm
      have hfq : fitQ ws y = none := by unfold fitQ; rw [HN.out, hel]; rfl
      have HFQ := Lib.hid hfq
      clear hel hfq
      go_wp2_with fail
      refine bodyPost_ret (v := .tuple #[.slice none 0 0, .string ⟨#[]⟩, .int .i64 15]) (by simp [results, Tryz.results16, go_sem]) rfl ?_
      exact fit_sing HE.out HFQ.out HB02.out
    | some a' =>
      rw [hel] at hm
      have hfq : fitQ ws y = some (lastQ a' N) := by unfold fitQ; rw [HN.out, hel]; rfl
      have hel2 := elimQ_some N 0 (by have := fitM_rows ws y; rwa [HN.out] at this) (by omega) (Unit'_zero _ _) hel
      have hfl : (lastQ a' N).length = N := by unfold lastQ; rw [List.length_map, hel2.1.1]
      obtain ⟨f, hf⟩ : ∃ f, lastQ a' N = f := ⟨_, rfl⟩
      replace hm : (if okL (lastQ a' N) = true then ∃ v, e = .returned (.tuple #[v, .int .i64 0]) /\ w2.ownsRow wr.heap.size 34 1 v (lastQ a' N).length (txs (lastQ a' N)) else e = .returned (.tuple #[.slice none 0 0, .int .i64 11])) := hm
      rw [hf] at hfq hfl hm
      have HFQ := Lib.hid hfq; have HFL := Lib.hid hfl
      clear hel hel2 hfq hfl hf
      cases hok : okL f
      · have hm2 : e = .returned (.tuple #[.slice none 0 0, .int .i64 11]) := by
         have h := hm
         rw [if_neg (by rw [hok]; decide)] at h; exact h
        subst hm2
        have hbad : ¬ (okL f = true /\ clOK ws y f = true /\ okQ (restQ ws y f) = true) := fun h => by rw [hok] at h; exact absurd h.1 (by decide)
        have HBAD := Lib.hid hbad
        clear hok hbad hm
        go_wp2_with fail
        refine bodyPost_ret (v := .tuple #[.slice none 0 0, .string ⟨#[]⟩, .int .i64 11]) (by simp [results, Tryz.results16, go_sem]) rfl ?_
        exact fit_big HE.out HFQ.out HBAD.out HB02.out
      · have hm2 : ∃ v, e = .returned (.tuple #[v, .int .i64 0]) /\ w2.ownsRow wr.heap.size 34 1 v f.length (txs f) := by
         have h := hm
         rw [if_pos hok] at h; exact h
        obtain ⟨v, rfl, hown⟩ := hm2
        have HOWN := Lib.hid (own_baseQ hown hsz)
        obtain ⟨fg, fc, rfl, hfc⟩ := own_cells hown
        have hrs := rest_any ao wo fg y vs ws f ca cw fc N M w2 (HT.out.below HB02.out (Nat.le_refl _)) (HC.out.below HB02.out (Nat.le_refl _)) (HD.out.below HB02.out (Nat.le_refl _)) (HR.out.below (HB02.out.mono (Nat.le_refl _))) hfc HM.out hM64 HSM.out HW.out HN.out hN4 HFL.out (okL_iff.1 hok)
        have HRS := Lib.hid hrs; have HOK := Lib.hid hok
        rw [HFL.out] at HOWN ⊢
        clear hok hown hfc hrs hm
        go_wp2_with fail
        refine HRS.out.mono ?_
        rintro e w3 ⟨rfl, hb3⟩
        have hbf := HB02.out.trans (hb3.mono hsz2)
        have hown3 := own_belowK HOWN.out hb3 (Nat.le_refl _)
        have HOWN3 := Lib.hid hown3
        clear hb3 hown3 HRS
        cases hcl : clOK ws y f
        · rw [show rtT ws y f = ⟨#[]⟩ by unfold rtT; rw [if_neg (by rw [hcl]; decide)], show rtE ws y f = 11 by unfold rtE; rw [if_neg (by rw [hcl]; decide)]]
          have hbad : ¬ (okL f = true /\ clOK ws y f = true /\ okQ (restQ ws y f) = true) := fun h => by rw [hcl] at h; exact absurd h.2.1 (by decide)
          have HBAD := Lib.hid hbad
          clear hcl hbad
          go_wp2_with fail
          refine bodyPost_ret (v := .tuple #[.slice none 0 0, .string ⟨#[]⟩, .int .i64 11]) (by simp [results, Tryz.results16, go_sem]) rfl ?_
          exact fit_big HE.out HFQ.out HBAD.out hbf
        · rw [show rtT ws y f = ptQ (restQ ws y f) by unfold rtT; rw [if_pos hcl], show rtE ws y f = peQ (restQ ws y f) by unfold rtE; rw [if_pos hcl]]
          cases hrk : okQ (restQ ws y f)
          · rw [(ptQ_big hrk).1, (ptQ_big hrk).2]
            have hbad : ¬ (okL f = true /\ clOK ws y f = true /\ okQ (restQ ws y f) = true) := fun h => by rw [hrk] at h; exact absurd h.2.2 (by decide)
            have HBAD := Lib.hid hbad
            clear hcl hbad hrk
            go_wp2_with fail
            refine bodyPost_ret (v := .tuple #[.slice none 0 0, .string ⟨#[]⟩, .int .i64 11]) (by simp [results, Tryz.results16, go_sem]) rfl ?_
            exact fit_big HE.out HFQ.out HBAD.out hbf
          · rw [(ptQ_ok hrk).1, (ptQ_ok hrk).2]
            have HGO : Hid (okL f = true /\ clOK ws y f = true /\ okQ (restQ ws y f) = true) := Lib.hid ⟨HOK.out, hcl, hrk⟩
            have hrt : txQ (restQ ws y f) = txQ (restQ ws y f) := rfl
            obtain ⟨tr, htr⟩ : ∃ tr, txQ (restQ ws y f) = tr := ⟨_, rfl⟩
            have hres : FitRes ws y w (.returned (.tuple #[.slice fg N fc, .string tr, .int .i64 0])) w3 := by
             rw [<- htr]
             exact fit_good HE.out HFQ.out HGO.out (by rw [HFL.out]; exact HOWN3.out) hbf
            have HRES := Lib.hid hres
            rw [htr]
            clear hcl hrk hrt htr hres
            go_wp2_with fail
            refine bodyPost_ret (v := .tuple #[.slice fg N fc, .string tr, .int .i64 0]) (by simp [results, Tryz.results16, go_sem]) rfl ?_
            exact HRES.out
end Go.Proofs.YtdpjdifoonfcdaaGreatDoor

namespace Go.Proofs.YtdpjdifoonfcdaaGreatDoor
theorem dotQ_only (c : Rat) : ∀ (r z : List Rat) (i : Nat), r.length = z.length -> (∀ j x, r[j]? = some x -> x = if i = j then c else 0) -> dotQ r z = c * z.getD i 0
 | [], [], i, _, _ => by simp [dotQ, Rat.mul_zero]
 | x :: r, z :: zs, 0, hl, h => by
   have h1 := h 0 x (by simp)
   have h2 := dotQ_zero r zs (fun u hu => by
    obtain ⟨j, hj⟩ := List.mem_iff_getElem?.1 hu
    have := h (j + 1) u (by simpa using hj)
    simpa using this)
   simp only [dotQ, h1, h2]; simp [Rat.add_zero]
 | x :: r, z :: zs, i + 1, hl, h => by
   have h1 := h 0 x (by simp)
   have h2 := dotQ_only c r zs i (by simpa using hl) (fun j u hj => by
    have := h (j + 1) u (by simpa using hj)
    simpa using this)
   simp only [dotQ, h1, h2]; simp [Rat.zero_mul, Rat.zero_add]
def Apart (w : List (List Int)) : Prop := (∀ (i j : Nat) a b, i ≠ j -> w[i]? = some a -> w[j]? = some b -> prI a b = 0) /\ ∀ a ∈ w, prI a a ≠ 0
theorem apart_dot {w : List (List Int)} (h : Apart w) {i : Nat} {a : List Int} (ha : w[i]? = some a) (z : List Rat) (hz : z.length = w.length) : dotQ (w.map (fun b => ((prI a b : Int) : Rat))) z = ((prI a a : Int) : Rat) * z.getD i 0 := by
 refine dotQ_only _ _ z i (by simp [hz]) fun j x hj => ?_
 rw [List.getElem?_map] at hj
 cases hb : w[j]? with
 | none => rw [hb] at hj; cases hj
 | some b =>
   rw [hb] at hj
   have hj : ((prI a b : Int) : Rat) = x := Option.some.inj hj
   by_cases hij : i = j
   · subst hij
     rw [ha] at hb
     obtain rfl : a = b := Option.some.inj hb
     rw [if_pos rfl, <- hj]
   · rw [if_neg hij, <- hj, h.1 i j a b hij ha hb]; rfl
theorem int_ne {n : Int} (h : n ≠ 0) : ((n : Int) : Rat) ≠ 0 := fun h0 => h (by
 have := congrArg Rat.num h0
 simpa using this)
def eachQ (w : List (List Int)) (y : List Int) : List Rat := w.map (fun a => ((prI a y : Int) : Rat) / ((prI a a : Int) : Rat))
theorem fit_apart {w : List (List Int)} (h : Apart w) (y : List Int) : fitQ w y = some (eachQ w y) := by
 cases hf : fitQ w y with
 | none =>
   obtain ⟨z, z1, ⟨x, hx, hx0⟩, z3⟩ := fitQ_none hf
   obtain ⟨i, hi⟩ := List.mem_iff_getElem?.1 hx
   have hil : i < w.length := by have := (List.getElem?_eq_some_iff.1 hi).1; omega
   have hg : w[i]? = some w[i] := List.getElem?_eq_getElem hil
   have := z3 _ (List.getElem_mem hil)
   rw [apart_dot h hg z z1, List.getD, hi] at this
   rcases Rat.mul_eq_zero.1 this with h1 | h1
   · exact absurd h1 (int_ne (h.2 _ (List.getElem_mem hil)))
   · exact absurd h1 hx0
 | some f =>
   congr 1
   refine (fitQ_is hf (by simp [eachQ]) ?_).symm
   intro a ha
   obtain ⟨i, hi⟩ := List.mem_iff_getElem?.1 ha
   rw [apart_dot h hi _ (by simp [eachQ]), List.getD, eachQ, List.getElem?_map, hi]
   show ((prI a a : Int) : Rat) * (((prI a y : Int) : Rat) / ((prI a a : Int) : Rat)) = _
   have := int_ne (h.2 a ha)
   grind
theorem apart_one {h : List Int} (hn : prI h h ≠ 0) : Apart [h] := by
 refine ⟨fun i j a b hij ha hb => ?_, fun a ha => ?_⟩
 · have h1 := (List.getElem?_eq_some_iff.1 ha).1
   have h2 := (List.getElem?_eq_some_iff.1 hb).1
   simp at h1 h2; omega
 · obtain rfl := List.mem_singleton.1 ha; exact hn
theorem fit_one {h : List Int} (hn : prI h h ≠ 0) (y : List Int) : fitQ [h] y = some [((prI h y : Int) : Rat) / ((prI h h : Int) : Rat)] := fit_apart (apart_one hn) y
theorem rest_one {h y : List Int} (hn : prI h h ≠ 0) (hl : h.length = y.length) : restQ [h] y [((prI h y : Int) : Rat) / ((prI h h : Int) : Rat)] = ((prI y y : Int) : Rat) - ((prI h y * prI h y : Int) : Rat) / ((prI h h : Int) : Rat) := by
 rw [rest_is (fit_one hn y) (by simpa using hl)]
 simp only [List.map_cons, List.map_nil, dotQ, Rat.intCast_mul, prI_comm y h]
 have := int_ne hn
 grind
end Go.Proofs.YtdpjdifoonfcdaaGreatDoor

namespace Go.Proofs.YtdpjdifoonfcdaaGreatDoor
open Go.RowKit
theorem hgt_div {a b : Int} (ha : a.natAbs < 1000000000000000000000000000) (hb : b.natAbs < 1000000000000000000000000000) (h0 : b ≠ 0) : hgt ((a : Rat) / (b : Rat)) <= 6 := by
 rw [Rat.div_def]
 have h1 := hgt_mul (a : Rat) (b : Rat)⁻¹
 rw [hgt_inv (int_ne h0)] at h1
 have h2 := hgt_int ha
 have h3 := hgt_int hb
 omega
structure OneW (h y : List Int) : Prop where
 len : h.length = y.length
 lo : 1 <= y.length
 hi : y.length <= 64
 ysm : ∀ x ∈ y, -1048576 <= x /\ x <= 1048576
 hsm : ∀ x ∈ h, -1048576 <= x /\ x <= 1048576
 pos : prI h h ≠ 0
theorem prI_sm {a b : List Int} (ha : ∀ x ∈ a, -1048576 <= x /\ x <= 1048576) (hb : ∀ x ∈ b, -1048576 <= x /\ x <= 1048576) (hl : a.length <= 64) : (prI a b).natAbs <= 70368744177664 := by
 have h3 := prI_bd (M := 1048576) a b (sm_abs ha) (sm_abs hb)
 have h5 : a.length * (1048576 * 1048576) <= 64 * (1048576 * 1048576) := Nat.mul_le_mul_right _ hl
 omega
theorem OneW.fge {h y : List Int} (o : OneW h y) : fgE y [h] = 0 := by
 have sm : ∀ {l : List Int}, (∀ x ∈ l, -1048576 <= x /\ x <= 1048576) -> smB l = true := fun {l} hl => List.all_eq_true.2 (fun x hx => by unfold inB; exact decide_eq_true (hl x hx))
 refine fgE_ok ⟨o.lo, o.hi, sm o.ysm⟩ ⟨by simp, by simp, ?_⟩
 simp only [List.all_cons, List.all_nil, Bool.and_true, witB]
 rw [sm o.hsm, decide_eq_true o.len]; rfl
theorem OneW.fits {h y : List Int} (o : OneW h y) : okL [((prI h y : Int) : Rat) / ((prI h h : Int) : Rat)] = true /\ clOK [h] y [((prI h y : Int) : Rat) / ((prI h h : Int) : Rat)] = true /\ okQ (restQ [h] y [((prI h y : Int) : Rat) / ((prI h h : Int) : Rat)]) = true := by
 have b1 := prI_sm o.hsm o.ysm (by have := o.len; have := o.hi; omega)
 have b2 := prI_sm o.hsm o.hsm (by have := o.len; have := o.hi; omega)
 have b3 := prI_sm o.ysm o.ysm o.hi
 have hf : hgt (((prI h y : Int) : Rat) / ((prI h h : Int) : Rat)) <= 6 := hgt_div (by omega) (by omega) o.pos
 refine ⟨?_, ?_, ?_⟩
 · unfold okL; simp only [List.all_cons, List.all_nil, Bool.and_true]; exact ok_small (by omega)
 · refine List.all_eq_true.2 fun t _ => ?_
   have hc : dotQ (colQ [h] t) [((prI h y : Int) : Rat) / ((prI h h : Int) : Rat)] = ((h.getD t 0 : Int) : Rat) * (((prI h y : Int) : Rat) / ((prI h h : Int) : Rat)) := by
    unfold colQ; simp only [List.map_cons, List.map_nil, dotQ, Rat.add_zero]
   have hh := getD_sm o.hsm t
   have hy := getD_sm o.ysm t
   have h1 : hgt (dotQ (colQ [h] t) [((prI h y : Int) : Rat) / ((prI h h : Int) : Rat)]) <= 9 := by
    rw [hc]
    have h2 := hgt_mul ((h.getD t 0 : Int) : Rat) (((prI h y : Int) : Rat) / ((prI h h : Int) : Rat))
    have h3 := hgt_int (n := h.getD t 0) (by omega)
    omega
   unfold timeOK
   rw [ok_small (Nat.le_trans h1 (by decide)), Bool.true_and]
   refine ok_small ?_
   unfold leftQ
   have h2 := hgt_sub ((y.getD t 0 : Int) : Rat) (dotQ (colQ [h] t) [((prI h y : Int) : Rat) / ((prI h h : Int) : Rat)])
   have h3 := hgt_int (n := y.getD t 0) (by omega)
   omega
 · rw [rest_one o.pos o.len]
   refine ok_small ?_
   have h2 := hgt_sub ((prI y y : Int) : Rat) (((prI h y * prI h y : Int) : Rat) / ((prI h h : Int) : Rat))
   have h3 := hgt_int (n := prI y y) (by omega)
   have h4 : hgt (((prI h y * prI h y : Int) : Rat) / ((prI h h : Int) : Rat)) <= 9 := by
    rw [Rat.intCast_mul, Rat.div_def, Rat.mul_assoc, <- Rat.div_def]
    have h5 := hgt_mul ((prI h y : Int) : Rat) (((prI h y : Int) : Rat) / ((prI h h : Int) : Rat))
    have h6 := hgt_int (n := prI h y) (by omega)
    omega
   omega
def oneR (h y : List Int) : Rat := ((prI y y : Int) : Rat) - ((prI h y * prI h y : Int) : Rat) / ((prI h h : Int) : Rat)
theorem oneR_ok {h y : List Int} (o : OneW h y) : okQ (oneR h y) = true := by have := o.fits.2.2; rwa [rest_one o.pos o.len] at this
theorem one_res {h y : List Int} (o : OneW h y) {w w' : World} {e : Ending} (hr : FitRes [h] y w e w') :
 (∃ a c, e = .returned (.tuple #[.slice a 1 c, .string (txQ (oneR h y)), .int .i64 0]) /\ Cells w' a [.string (txQ (((prI h y : Int) : Rat) / ((prI h h : Int) : Rat)))]) /\ Below w.heap.size w w' := by
 obtain ⟨h1, h2⟩ := hr
 rw [if_pos o.fge, fit_one o.pos y] at h1
 replace h1 : (if okL [((prI h y : Int) : Rat) / ((prI h h : Int) : Rat)] = true /\ clOK [h] y [((prI h y : Int) : Rat) / ((prI h h : Int) : Rat)] = true /\ okQ (restQ [h] y [((prI h y : Int) : Rat) / ((prI h h : Int) : Rat)]) = true then ∃ v, e = .returned (.tuple #[v, .string (txQ (restQ [h] y [((prI h y : Int) : Rat) / ((prI h h : Int) : Rat)])), .int .i64 0]) /\ w'.ownsRow w.heap.size 34 1 v 1 (txs [((prI h y : Int) : Rat) / ((prI h h : Int) : Rat)]) else e = .returned (.tuple #[.slice none 0 0, .string ⟨#[]⟩, .int .i64 11])) := h1
 rw [if_pos o.fits] at h1
 obtain ⟨v, rfl, ho⟩ := h1
 obtain ⟨a, c, rfl, hc⟩ := own_cells ho
 refine ⟨⟨a, c, ?_, hc⟩, h2⟩
 rw [rest_one o.pos o.len]; rfl
end Go.Proofs.YtdpjdifoonfcdaaGreatDoor

namespace Go.Proofs.YtdpjdifoonfcdaaGreatDoor
open Go.RowKit
def topW (L p q : Int) : Bool := waveOK L p q && decide (0 < nrmV L p q)
theorem tclamp_any (n lo hi : Int) (w : World) :
 Calls Tryz.prog 40 #[.int .i64 n, .int .i64 lo, .int .i64 hi] w fun e w' => e = .returned (.int .i64 (max lo (min n hi))) /\ w = w' := by
 go_enter Tryz.func40, Tryz.ntmps40
 go_wp2
 go_ret
 exact ⟨rfl, rfl⟩
set_option maxRecDepth 100000 in
set_option maxHeartbeats 4000000 in
theorem topWave_any (L p q : Int) (dv : Value) (w : World) :
 Calls Tryz.prog 12 #[.agg #[.int .i64 L, .int .i64 p, .int .i64 q, dv]] w fun e w' => (∃ b c, e = .returned (.tuple #[.slice b (wavR L p q).length c, .bool (topW L p q)]) /\ Cells w' b ((wavR L p q).map (Value.int .i64))) /\ Below w.heap.size w w' := by
 have hwl : waveOK L p q = true -> ((wavR L p q).length : Int) = L := fun h => by
  rw [wavR_length, if_pos h]
  have := waveOK_true h
  omega
 have HWL := Lib.hid hwl
 obtain ⟨W0, hW0⟩ : ∃ W0, W0 = w.alloc (.cells #[.int .i64 L, .int .i64 p, .int .i64 q, dv] 26) := ⟨_, rfl⟩
 have hb0 : Below w.heap.size w W0 := by rw [hW0]; exact (Below.refl _ _).alloc (Nat.le_refl _) _
 have hz0 : W0.heap.size = w.heap.size + 1 := by rw [hW0]; simp
 have x0 : W0.cell? ⟨w.heap.size, 0, none⟩ = some (.int .i64 L) := by rw [hW0]; simp
 have x1 : W0.cell? ⟨w.heap.size, 1, none⟩ = some (.int .i64 p) := by rw [hW0]; simp
 have x2 : W0.cell? ⟨w.heap.size, 2, none⟩ = some (.int .i64 q) := by rw [hW0]; simp
 have hW := fun W => Wave_any L p q W
 have hN := fun W => Norm_any L p q W
 have HW := Lib.hid hW; have HN := Lib.hid hN; have HB0 := Lib.hid hb0
 obtain ⟨n, hn⟩ : ∃ n, nrmV L p q = n := ⟨_, rfl⟩
 have ht : topW L p q = (waveOK L p q && decide (0 < n)) := by unfold topW; rw [hn]
 rw [ht]
 obtain ⟨tb, htb⟩ : ∃ tb, (waveOK L p q && decide (0 < n)) = tb := ⟨_, rfl⟩
 rw [htb]
 have HTB := Lib.hid htb
 rw [hn] at HN
 obtain ⟨we, hwe⟩ : ∃ we, wavE L p q = we := ⟨_, rfl⟩
 rw [hwe] at HW HN
 have hwe2 : we = if waveOK L p q = true then 0 else 70 := by rw [<- hwe]; rfl
 obtain ⟨ln, hln⟩ : ∃ ln, (wavR L p q).length = ln := ⟨_, rfl⟩
 rw [hln] at HW HWL ⊢
 have HWE := Lib.hid hwe2
 clear hwl hW hN hb0 hn ht htb hwe hwe2 hln
 go_enter Tryz.func12, Tryz.ntmps12
 go_wp2_with fail
 rw [<- hW0]
 clear hW0
 refine (HW.out _).mono ?_
 rintro e w1 ⟨⟨b, c, rfl, hc⟩, hb1⟩
 have HC := Lib.hid hc
 have HB1 := Lib.hid (HB0.out.trans (hb1.mono HB0.out.size))
 have y0 := cell_keep x0 hb1 (Nat.le_refl _)
 have y1 := cell_keep x1 hb1 (Nat.le_refl _)
 have y2 := cell_keep x2 hb1 (Nat.le_refl _)
 have hz1 : w.heap.size < w1.heap.size := by have := hb1.size; omega
 clear hc hb1 x0 x1 x2
 go_wp2_with fail
 refine (HN.out _).mono ?_
 rintro e w2 ⟨rfl, hb2⟩
 have HC2 := Lib.hid (HC.out.below hb2 (Nat.le_refl _))
 have HB2 := Lib.hid (HB1.out.trans (hb2.mono HB1.out.size))
 have z0 := cell_keep y0 hb2 (Nat.le_refl _)
 clear hb2 y0 y1 y2
 have hwe := HWE.out
 cases hok : waveOK L p q
 · rw [if_neg (by rw [hok]; decide)] at hwe
   subst hwe
   obtain rfl : tb = false := by rw [<- HTB.out, hok]; rfl
   clear hok HTB
   go_wp2_with fail
   go_quiet (fail)
   go_wp2_with fail
   go_ret2
   exact ⟨⟨_, _, rfl, HC2.out⟩, bel_drewN HB2.out _⟩
 · rw [if_pos hok] at hwe
   subst hwe
   have hl := HWL.out hok
   have e1 : ((ln : Int) == L) = true := by rw [beq_iff_eq]; exact hl
   have htb := HTB.out
   rw [hok, Bool.true_and] at htb
   clear hok hl HTB
   cases hp : decide (0 < n)
   · obtain rfl : tb = false := by rw [<- htb, hp]
     clear htb
     go_wp2_with fail
     go_quiet (fail)
     go_wp2_with fail
     go_ret2
     exact ⟨⟨_, _, rfl, HC2.out⟩, bel_drewN HB2.out _⟩
   · obtain rfl : tb = true := by rw [<- htb, hp]
     clear htb
     go_wp2_with fail
     go_quiet (fail)
     go_wp2_with fail
     go_ret2
     exact ⟨⟨_, _, rfl, HC2.out⟩, bel_drewN HB2.out _⟩
def winV (ds : List Int) (i : Nat) : Int := if i < ds.length then max (-16384) (min (ds.getD i 0) 16384) else 0
def winD (L : Int) (ds : List Int) : List Int := (List.range L.toNat).map (winV ds)
theorem winV_bd (ds : List Int) (i : Nat) : -16384 <= winV ds i /\ winV ds i <= 16384 := by unfold winV; split <;> omega
theorem winD_len (L : Int) (ds : List Int) : (winD L ds).length = L.toNat := by unfold winD; rw [List.length_map, List.length_range]
theorem winD_bd (L : Int) (ds : List Int) : ∀ x ∈ winD L ds, -16384 <= x /\ x <= 16384 := fun x hx => by
 obtain ⟨i, -, rfl⟩ := List.mem_map.1 hx
 exact winV_bd ds i
theorem winD_take (L : Int) (ds : List Int) {k : Nat} (h : k < L.toNat) : (winD L ds).take (k + 1) = (winD L ds).take k ++ [winV ds k] := by
 refine take_get ?_
 unfold winD; rw [List.getElem?_map, List.getElem?_range h]; rfl
theorem Tryz.infoInt7 : (Tryz.prog.info? 3).map (fun i => (i.zero, i.size, i.bytes)) = some (some (.int .i64 0), 1, 8) := by kernel_rfl
def DataRes (L : Int) (ds : List Int) (w : World) (e : Ending) (w' : World) : Prop := (∃ b c, e = .returned (.slice b L.toNat c) /\ Cells w' b ((winD L ds).map (Value.int .i64))) /\ Below w.heap.size w w'
theorem data_ok {N : Nat} {ds : List Int} {w w' : World} {b : Option Addr} {c : Nat} (hc : Cells w' b ((winD N ds).map (Value.int .i64))) (hb : Below w.heap.size w w') : DataRes N ds w (.returned (.slice b N c)) w' := ⟨⟨b, c, by rw [Int.toNat_natCast], hc⟩, hb⟩
set_option maxRecDepth 100000 in
set_option maxHeartbeats 4000000 in
theorem topData_any (L p q : Int) (ao : Option Addr) (ds : List Int) (cap : Nat) (w : World) (hc : Cells w ao (ds.map (Value.int .i64))) (hL0 : 0 <= L) (hL : L <= 64) :
 Calls Tryz.prog 15 #[.agg #[.int .i64 L, .int .i64 p, .int .i64 q, .slice ao ds.length cap]] w (DataRes L ds w) := by
 obtain ⟨i0, hi, hz0, hz1, hz2⟩ := info_parts Tryz.infoInt7
 obtain ⟨N, rfl⟩ : ∃ N : Nat, L = N := ⟨L.toNat, by omega⟩
 have HC := Lib.hid hc
 obtain ⟨W0, hW0⟩ : ∃ W0, W0 = w.alloc (.cells #[.int .i64 (N : Int), .int .i64 p, .int .i64 q, .slice ao ds.length cap] 26) := ⟨_, rfl⟩
 have hb0 : Below w.heap.size w W0 := by rw [hW0]; exact (Below.refl _ _).alloc (Nat.le_refl _) _
 have hz0' : W0.heap.size = w.heap.size + 1 := by rw [hW0]; simp
 have x0 : W0.cell? ⟨w.heap.size, 0, none⟩ = some (.int .i64 (N : Int)) := by rw [hW0]; simp
 have x3 : W0.cell? ⟨w.heap.size, 3, none⟩ = some (.slice ao ds.length cap) := by rw [hW0]; simp
 have HB0 := Lib.hid hb0
 have HCL : Hid (∀ (n : Int) W, Calls Tryz.prog 40 #[.int .i64 n, .int .i64 (-16384), .int .i64 16384] W fun e w' => e = .returned (.int .i64 (max (-16384) (min n 16384))) /\ W = w') := Lib.hid (fun n W => tclamp_any n (-16384) 16384 W)
 clear hc hb0
 go_enter Tryz.func15, Tryz.ntmps15
 go_wp2_with fail
 rw [<- hW0]
 clear hW0
 go_loopw [3, 4] (fun ov iv wr => ∃ k : Nat, k <= N /\ iv = .int .i64 k /\ wr.ownsRow W0.heap.size 3 1 ov k (((winD N ds).take k).map (Value.int .i64)) /\ Below W0.heap.size W0 wr) (fun _ iv _ => N - (intOf iv).toNat)
 case atStart => exact ⟨0, Nat.zero_le _, rfl, World.ownsRow_nil _ _ _ _, Below.refl _ _⟩
 case round =>
  obtain ⟨k, hk, rfl, hown, hb⟩ := hrel
  have hsz := hb.size
  have y0 := cell_keep x0 hb (by omega)
  have y3 := cell_keep x3 hb (by omega)
  by_cases hlt : k < N
  · have htk := winD_take (N : Int) ds (show k < ((N : Int)).toNat by omega)
    have HTK := Lib.hid htk
    have j0 : (k : Int) < N := by omega
    have hst : (((winD N ds).take k).map (Value.int .i64)) ++ [.int .i64 (winV ds k)] = ((winD N ds).take (k + 1)).map (Value.int .i64) := by rw [HTK.out]; simp
    have HST := Lib.hid hst
    have hbw := HB0.out.trans (hb.mono HB0.out.size)
    by_cases hkd : k < ds.length
    · obtain ⟨x, hx⟩ := get_of_lt hkd
      have hwv : winV ds k = max (-16384) (min x 16384) := by unfold winV; rw [if_pos hkd, List.getD, hx]; rfl
      obtain ⟨ba, offa, rfl⟩ := HC.out.addr (by simpa using List.ne_nil_of_length_pos (show 0 < ds.length by omega))
      have c1 := cell_keep (HC.out.int hx) hbw (Nat.le_refl _)
      have hcl := fun W => HCL.out x W
      rw [<- hwv] at hcl
      have HCLX := Lib.hid hcl
      have j1 : (k : Int) < ds.length := by omega
      have j2 : 0 <= (k : Int) := by omega
      obtain ⟨vv, hvv⟩ : ∃ vv, winV ds k = vv := ⟨_, rfl⟩
      rw [hvv] at HCLX HST
      clear htk hst hx hwv hbw hcl hvv
      go_wp2_with (first | (go_at_call 40; refine (HCLX.out _).mono ?_; rintro e w' ⟨rfl, rfl⟩) | (at_builtin; refine wpList_append_own _ rfl _ _ 24 rfl W0.heap.size 3 i0 (.int .i64 0) 1 8 Tryz.underlying24 hi hz0 hz1 hz2 rfl (by decide) _ _ _ rfl (hown.alloc _) ⟨wr.heap.size, 0, none⟩ 1 1 [.int .i64 vv] rfl rfl (World.news_of_block (cs := #[.int .i64 vv]) (t := 3) (fr := (0, 0)) (by have := heap_alloc_new wr (.cells #[.int .i64 vv] 3); simpa using this)) (by simp [Value.oneCell']) (by unfold maxLen; omega) (by omega) (by simp; omega) ?_; intro v1 wz hown2 hgrow _))
      have hbz := (hb.alloc hsz (.cells #[.int .i64 vv] 3)).grown hgrow (by simp; omega) (fun j e => (hown.lt j e).1)
      rw [HST.out] at hown2
      obtain ⟨gg, cp, rfl⟩ := own_succ hown2
      have HOW := Lib.hid hown2
      clear hown hown2 hgrow
      go_wp2_with fail
      go_roundw
      case rel => exact ⟨k + 1, by omega, by go_num, HOW.out, hbz⟩
      case measure => simp [intOf]; omega
    · have hwv : winV ds k = 0 := by unfold winV; rw [if_neg hkd]
      rw [hwv] at HST
      have j1 : ¬ (k : Int) < ds.length := by omega
      clear htk hst hwv hbw
      go_wp2_with (at_builtin; refine wpList_append_own _ rfl _ _ 24 rfl W0.heap.size 3 i0 (.int .i64 0) 1 8 Tryz.underlying24 hi hz0 hz1 hz2 rfl (by decide) _ _ _ rfl (hown.alloc _) ⟨wr.heap.size, 0, none⟩ 1 1 [.int .i64 0] rfl rfl (World.news_of_block (cs := #[.int .i64 0]) (t := 3) (fr := (0, 0)) (by have := heap_alloc_new wr (.cells #[.int .i64 0] 3); simpa using this)) (by simp [Value.oneCell']) (by unfold maxLen; omega) (by omega) (by simp; omega) ?_; intro v1 wz hown2 hgrow _)
      have hbz := (hb.alloc hsz (.cells #[.int .i64 0] 3)).grown hgrow (by simp; omega) (fun j e => (hown.lt j e).1)
      rw [HST.out] at hown2
      obtain ⟨gg, cp, rfl⟩ := own_succ hown2
      have HOW := Lib.hid hown2
      clear hown hown2 hgrow
      go_wp2_with fail
      go_roundw
      case rel => exact ⟨k + 1, by omega, by go_num, HOW.out, hbz⟩
      case measure => simp [intOf]; omega
  · obtain rfl : k = N := by omega
    rw [List.take_of_length_le (by rw [winD_len]; omega)] at hown
    have hbw := HB0.out.trans (hb.mono HB0.out.size)
    obtain ⟨g, c, rfl, hgc⟩ := own_cells hown
    have HGC := Lib.hid hgc
    have j0 : ¬ (k : Int) < k := by omega
    clear hown hgc
    go_wp2_with fail
    go_ret
    exact data_ok HGC.out hbw
set_option maxRecDepth 100000 in
set_option maxHeartbeats 2000000 in
theorem topSquares_any (ao : Option Addr) (xs : List Int) (n ca : Nat) (w : World) (ht : Tab w) (hc : Cells w ao (xs.map (Value.int .i64))) (hx : xs.length = n) (hn : n <= 64) (h1 : ∀ x ∈ xs, -1048576 <= x /\ x <= 1048576) :
 Calls Tryz.prog 26 #[.slice ao n ca] w fun e w' => e = .returned (.string (txQ ((prI xs xs : Int) : Rat))) /\ Below w.heap.size w w' := by
 have HC := Lib.hid hc; have HX := Lib.hid hx; have H1 := Lib.hid h1; have HT := Lib.hid ht
 have hbd : ∀ k, (prI (xs.take k) (xs.take k)).natAbs <= 70368744177664 := fun k => prI_sm (fun x h => h1 x (List.mem_of_mem_take h)) (fun x h => h1 x (List.mem_of_mem_take h)) (by rw [List.length_take]; omega)
 have HBD := Lib.hid hbd
 obtain ⟨tt, htt⟩ : ∃ tt, txQ ((prI xs xs : Int) : Rat) = tt := ⟨_, rfl⟩
 rw [htt]
 have HTT := Lib.hid htt
 clear hc hx h1 ht hbd htt
 go_enter Tryz.func26, Tryz.ntmps26
 go_wp2_with fail
 go_loopw [3, 4] (fun s i wr => ∃ k : Nat, k <= n /\ i = .int .i64 k /\ s = .int .i64 (prI (xs.take k) (xs.take k)) /\ Below w.heap.size w wr) (fun _ i _ => n - (intOf i).toNat)
 case atStart => exact ⟨0, Nat.zero_le _, rfl, rfl, Below.refl _ _⟩
 case round =>
  obtain ⟨k, hk, rfl, rfl, hbw⟩ := hrel
  by_cases hlt : k < n
  · obtain ⟨x, hxk⟩ := get_of_lt (show k < xs.length by rw [HX.out]; exact hlt)
    obtain ⟨ba, offa, rfl⟩ := HC.out.addr (by simpa using List.ne_nil_of_length_pos (show 0 < xs.length by rw [HX.out]; omega))
    have c1 := cell_keep (HC.out.int hxk) hbw (Nat.le_refl _)
    have m1 := H1.out x (List.mem_of_getElem? hxk)
    have e1 := prI_take hxk hxk
    have bd := HBD.out k
    have bd2 := HBD.out (k + 1)
    rw [e1] at bd2
    have E1 := Lib.hid e1
    have pm : (x * x).natAbs <= 1099511627776 := by
     rw [Int.natAbs_mul]
     exact Nat.mul_le_mul (show x.natAbs <= 1048576 by omega) (show x.natAbs <= 1048576 by omega)
    have i0 : (k : Int) < n := by omega
    have i1 : 0 <= (k : Int) := by omega
    obtain ⟨s0, hs0⟩ : ∃ s0, prI (xs.take k) (xs.take k) = s0 := ⟨_, rfl⟩
    rw [hs0] at bd bd2 ⊢
    have HS0 := Lib.hid hs0
    have q1 : IntKind.i64.wrap (x * x) = x * x := IntWalk.i64_in _ (by omega)
    have q2 : IntKind.i64.wrap (s0 + x * x) = s0 + x * x := IntWalk.i64_in _ (by omega)
    clear hxk e1 m1 pm bd bd2 hs0
    go_wp2_with fail
    go_quiet (fail)
    clear q1 q2
    go_wp2_with fail
    go_roundw
    case rel => exact ⟨k + 1, by omega, by go_num, by rw [E1.out, HS0.out], bel_drewN hbw _⟩
    case measure => simp [intOf]; omega
  · obtain rfl : k = n := by omega
    have hall : prI (xs.take k) (xs.take k) = prI xs xs := by rw [List.take_of_length_le (by rw [HX.out]; exact Nat.le_refl _)]
    have bd := HBD.out k
    rw [hall] at bd ⊢
    have ho := of_any (prI xs xs) 1 wr (HT.out.below hbw (Nat.le_refl _)) (by omega) (by omega) (by omega) (by omega) (by omega)
    rw [of_one] at ho
    rw [HTT.out] at ho
    have HO := Lib.hid ho
    have i0 : ¬ (k : Int) < k := by omega
    clear hall bd ho
    go_wp2_with fail
    refine HO.out.mono ?_
    rintro e w1 ⟨rfl, hb⟩
    go_wp2_with fail
    go_ret
    exact ⟨rfl, hbw.trans (hb.mono hbw.size)⟩
end Go.Proofs.YtdpjdifoonfcdaaGreatDoor

namespace Go.Proofs.YtdpjdifoonfcdaaGreatDoor
open Go.RowKit
theorem ex_one : OneW [0, 127, 0, -127] [0, 127, 0, 127] := ⟨rfl, by decide, by decide, by decide, by decide, by decide⟩
theorem ex_fit0 : txQ (((prI [0, 127, 0, -127] [0, 127, 0, 127] : Int) : Rat) / ((prI [0, 127, 0, -127] [0, 127, 0, -127] : Int) : Rat)) = ⟨#[48]⟩ := by
 rw [<- of_tx (prI [0, 127, 0, -127] [0, 127, 0, 127]) (d := prI [0, 127, 0, -127] [0, 127, 0, -127]) (by decide)]
 decide +kernel
theorem ex_rest0 : txQ (oneR [0, 127, 0, -127] [0, 127, 0, 127]) = ⟨#[51, 50, 50, 53, 56]⟩ := by
 have h : oneR [0, 127, 0, -127] [0, 127, 0, 127] = ((32258 : Int) : Rat) := by
  unfold oneR
  rw [show prI [0, 127, 0, -127] [0, 127, 0, 127] = 0 from rfl, show prI [0, 127, 0, 127] [0, 127, 0, 127] = 32258 from rfl, Int.zero_mul, Rat.div_def]
  rw [show ((0 : Int) : Rat) = 0 from rfl, Rat.zero_mul, Rat.sub_eq_add_neg, Rat.neg_zero, Rat.add_zero]
 rw [h, <- of_one]
 decide +kernel
theorem ex_inject : injRes [1, -1] 2 [0, 0, 0] = [2, -2, 2] /\ injErr [1, -1] 2 [0, 0, 0] = 0 := by decide +kernel
theorem gfit_one (ao ho : Option Addr) (bo : Option Addr) (h y : List Int) (o : OneW h y) (ca ch cw n : Nat) (w : World) (ht : Tab w) (hc : Cells w ao (y.map (Value.int .i64))) (hh : Cells w ho (h.map (Value.int .i64))) (hb : Cells w bo [.slice ho n ch]) (hn : n = y.length) :
 Calls Tryz.prog 16 #[.slice ao n ca, .slice bo 1 cw] w fun e w' => (∃ a c, e = .returned (.tuple #[.slice a 1 c, .string (txQ (oneR h y)), .int .i64 0]) /\ Cells w' a [.string (txQ (((prI h y : Int) : Rat) / ((prI h h : Int) : Rat)))]) /\ Below w.heap.size w w' := by
 subst hn
 have hl := o.hi
 have hlen := o.len
 have := gfit_any ao bo y [.slice ho y.length ch] [h] ca cw w ht hc (by omega) hb ⟨rfl, fun i v xs h1 h2 => by
  match i, h1, h2 with
  | 0, h1, h2 =>
    obtain rfl := Option.some.inj h1
    obtain rfl := Option.some.inj h2
    exact ⟨ho, ch, by rw [o.len], hh, by omega⟩
  | i + 1, h1, h2 => simp at h1⟩ (by simp)
 exact this.mono fun e w' hr => one_res o hr
set_option maxRecDepth 100000 in
set_option maxHeartbeats 4000000 in
theorem fitted_any (w : World) (ht : Tab w) :
 Calls Tryz.prog 14 #[] w fun e w' => e = .returned (.bool true) /\ Below w.heap.size w w' := by
 have hs := fun ao cap w ht hc => misfit_any 4 16 0 ao [0, 127, 0, 127] cap 0 2 w ht hc (by decide)
 rw [ex_misfit.1, ex_misfit.2] at hs
 have hj := fun ao cap ax cx w hc hx => inject_any ao [1, -1] cap 2 ax [0, 0, 0] cx w hc (by decide) hx (by decide)
 rw [ex_inject.1, ex_inject.2] at hj
 have hf := fun ao ho bo ca ch cw w ht hc hh hb => gfit_one ao ho bo [0, 127, 0, -127] [0, 127, 0, 127] ex_one ca ch cw 4 w ht hc hh hb rfl
 rw [ex_fit0, ex_rest0] at hf
 simp only [List.length_cons, List.length_nil, Nat.reduceAdd] at hs hj
 have HF := Lib.hid hf; have HS := Lib.hid hs; have HJ := Lib.hid hj; have HT := Lib.hid ht
 clear hf hs hj ht
 obtain ⟨W1, hW1⟩ : ∃ W1, W1 = w.alloc (.cells #[.int .i64 0, .int .i64 127, .int .i64 0, .int .i64 127] 3) := ⟨_, rfl⟩
 have l1 : Cells W1 (some ⟨w.heap.size, 0, none⟩) ([0, 127, 0, 127].map (Value.int .i64)) := by rw [hW1]; exact cells_lit w ([0, 127, 0, 127].map (Value.int .i64)) 3
 have B1 : Below w.heap.size w W1 := by rw [hW1]; exact (Below.refl _ _).alloc (Nat.le_refl _) _
 have z1 : W1.heap.size = w.heap.size + 1 := by rw [hW1]; simp
 obtain ⟨W2, hW2⟩ : ∃ W2, W2 = W1.alloc (.cells #[.int .i64 0, .int .i64 127, .int .i64 0, .int .i64 (-127)] 3) := ⟨_, rfl⟩
 have l2 : Cells W2 (some ⟨W1.heap.size, 0, none⟩) ([0, 127, 0, -127].map (Value.int .i64)) := by rw [hW2]; exact cells_lit W1 ([0, 127, 0, -127].map (Value.int .i64)) 3
 have B2 : Below W1.heap.size W1 W2 := by rw [hW2]; exact (Below.refl _ _).alloc (Nat.le_refl _) _
 have z2 : W2.heap.size = w.heap.size + 1 + 1 := by rw [hW2]; simp; omega
 rw [z1] at l2
 obtain ⟨W3, hW3⟩ : ∃ W3, W3 = W2.alloc (.cells #[.slice (some ⟨w.heap.size + 1, 0, none⟩) 4 4] 24) := ⟨_, rfl⟩
 have l3 : Cells W3 (some ⟨W2.heap.size, 0, none⟩) [.slice (some ⟨w.heap.size + 1, 0, none⟩) 4 4] := by rw [hW3]; exact cells_lit W2 [.slice (some ⟨w.heap.size + 1, 0, none⟩) 4 4] 24
 have B3 : Below W2.heap.size W2 W3 := by rw [hW3]; exact (Below.refl _ _).alloc (Nat.le_refl _) _
 rw [z2] at l3
 have B13 : Below W1.heap.size W1 W3 := B2.trans (B3.mono B2.size)
 have B03 : Below w.heap.size w W3 := B1.trans (B13.mono B1.size)
 have hfit := HF.out _ _ _ 4 4 1 W3 (HT.out.below B03 (Nat.le_refl _)) (l1.below B13 (Nat.le_refl _)) (l2.below B3 (Nat.le_refl _)) l3
 have HFIT := Lib.hid hfit; have HB3 := Lib.hid B03
 have hWW : W3 = ((w.alloc (.cells #[.int .i64 0, .int .i64 127, .int .i64 0, .int .i64 127] 3)).alloc (.cells #[.int .i64 0, .int .i64 127, .int .i64 0, .int .i64 (-127)] 3)).alloc (.cells #[.slice (some ⟨w.heap.size + 1, 0, none⟩) 4 4] 24) := by rw [hW3, hW2, hW1]
 clear hfit B03 B13 B3 B2 B1 l1 l2 l3 hW1 hW2 hW3 z1 z2 HF
 go_enter Tryz.func14, Tryz.ntmps14
 go_wp2_with fail
 rw [<- hWW]
 clear hWW
 refine HFIT.out.mono ?_
 rintro e w4 ⟨⟨a4, c4, rfl, hc4⟩, hb4⟩
 have HB4 := Lib.hid (HB3.out.trans (hb4.mono HB3.out.size))
 have HC4 := Lib.hid hc4
 clear hb4 hc4 HFIT
 have l5 := cells_lit w4 ([0, 127, 0, 127].map (Value.int .i64)) 3
 have B5 := (Below.refl w4.heap.size w4).alloc (Nat.le_refl _) (.cells ([0, 127, 0, 127].map (Value.int .i64)).toArray 3)
 have hs5 := HS.out _ 4 _ (HT.out.below (HB4.out.trans (B5.mono HB4.out.size)) (Nat.le_refl _)) l5
 have HS5 := Lib.hid hs5
 have HB5 := Lib.hid (HB4.out.trans (B5.mono HB4.out.size))
 have HC5 := Lib.hid (HC4.out.below B5 (Nat.le_refl _))
 clear l5 B5 hs5 HC4
 go_wp2_with fail
 refine (show _ from HS5.out).mono ?_
 rintro e w6 ⟨rfl, hb6⟩
 have HB6 := Lib.hid (HB5.out.trans (hb6.mono HB5.out.size))
 have HC6 := Lib.hid (HC5.out.below hb6 (Nat.le_refl _))
 clear hb6 HC5 HS5
 obtain ⟨W7, hW7⟩ : ∃ W7, W7 = w6.alloc (.cells #[.int .i64 1, .int .i64 (-1)] 3) := ⟨_, rfl⟩
 have l7 : Cells W7 (some ⟨w6.heap.size, 0, none⟩) ([1, -1].map (Value.int .i64)) := by rw [hW7]; exact cells_lit w6 ([1, -1].map (Value.int .i64)) 3
 have B7 : Below w6.heap.size w6 W7 := by rw [hW7]; exact (Below.refl _ _).alloc (Nat.le_refl _) _
 have z7 : W7.heap.size = w6.heap.size + 1 := by rw [hW7]; simp
 obtain ⟨W8, hW8⟩ : ∃ W8, W8 = W7.alloc (.cells #[.int .i64 0, .int .i64 0, .int .i64 0] 3) := ⟨_, rfl⟩
 have l8 : Cells W8 (some ⟨W7.heap.size, 0, none⟩) ([0, 0, 0].map (Value.int .i64)) := by rw [hW8]; exact cells_lit W7 ([0, 0, 0].map (Value.int .i64)) 3
 have B8 : Below W7.heap.size W7 W8 := by rw [hW8]; exact (Below.refl _ _).alloc (Nat.le_refl _) _
 rw [z7] at l8
 have B68 := B7.trans (B8.mono B7.size)
 have hj8 := HJ.out _ 2 _ 3 _ (l7.below B8 (Nat.le_refl _)) l8
 have HJ8 := Lib.hid hj8
 have HB8 := Lib.hid (HB6.out.trans (B68.mono HB6.out.size))
 have HC8 := Lib.hid (HC6.out.below B68 (Nat.le_refl _))
 have hWW8 : W8 = (w6.alloc (.cells #[.int .i64 1, .int .i64 (-1)] 3)).alloc (.cells #[.int .i64 0, .int .i64 0, .int .i64 0] 3) := by rw [hW8, hW7]
 clear l7 B7 l8 B8 B68 hj8 HC6 hW7 hW8 z7
 go_wp2_with fail
 rw [<- hWW8]
 clear hWW8
 refine HJ8.out.mono ?_
 rintro e w9 ⟨⟨b9, c9, rfl, hc9⟩, hb9⟩
 have HB9 := Lib.hid (HB8.out.trans (hb9.mono HB8.out.size))
 have hca := HC8.out.below hb9 (Nat.le_refl _)
 obtain ⟨a4b, a4o, rfl⟩ := hca.addr (by simp)
 have cz := hca.at (j := 0) rfl
 rw [Nat.add_zero] at cz
 have la := cells_lit w9 ([2, -2, 2].map (Value.int .i64)) 3
 have Ba := (Below.refl w9.heap.size w9).alloc (Nat.le_refl _) (.cells ([2, -2, 2].map (Value.int .i64)).toArray 3)
 have hsa := sameInts_any b9 _ [2, -2, 2] [2, -2, 2] c9 3 _ (hc9.below Ba (Nat.le_refl _)) la (by decide) (by decide)
 rw [decide_eq_true (rfl : ([2, -2, 2] : List Int) = [2, -2, 2])] at hsa
 simp only [List.length_cons, List.length_nil, Nat.reduceAdd] at hsa
 have HSA := Lib.hid hsa
 have HBA := Lib.hid (HB9.out.trans (Ba.mono HB9.out.size))
 clear hc9 hb9 hca la Ba hsa HC8 HJ8
 go_wp2_with fail
 refine (show _ from HSA.out).mono ?_
 rintro e wb ⟨rfl, hbb⟩
 have hbf := HBA.out.trans (hbb.mono HBA.out.size)
 go_wp2_with fail
 go_ret
 exact ⟨rfl, hbf⟩
end Go.Proofs.YtdpjdifoonfcdaaGreatDoor
