/- Parts of a proof, in build order: V0, A0, Bn, Bo, A1, Bp, B0, A4, B1, Dig, Dig2, N0. -/
import Derived.Test.YtdpjdifoonfcdaaGreatDoorProg
import Derived.WalkKit
import Derived.WalkSpells
import Derived.WalkLawsBesides
import Derived.Lib.Hide
import Derived.Outline
import Derived.Deep.LoopGhost
import Derived.Deep.DeepMust
import Derived.Deep.DeepFit
import Derived.Deep.QuietTactic
import Derived.BigQuiet
import Derived.StillTailTactics
import Derived.Deep.RegionHeld3
import Derived.Deep.AppendLies
import Derived.Laws.Rows
import Derived.Deep.WholeRow
import Derived.Laws.ResultCell
import Derived.Laws.CopyOwn

namespace Go.Proofs.YtdpjdifoonfcdaaGreatDoor
open Go.RowKit
theorem ret_bool {a b : Bool} (h : a = b) : Ending.returned (.bool a) = .returned (.bool b) := by rw [h]
theorem ret_int {k : IntKind} {a b : Int} (h : a = b) : Ending.returned (.int k a) = .returned (.int k b) := by rw [h]
def Cells (w : World) (ao : Option Addr) (cs : List Value) : Prop :=
 cs = [] ∨ ∃ b off, ao = some ⟨b, off, none⟩ /\ ∀ j u, cs[j]? = some u -> w.cell? ⟨b, off + j, none⟩ = some u
theorem Cells.nil (w : World) (ao : Option Addr) : Cells w ao [] := .inl rfl
theorem Cells.below {w w' : World} {B : Nat} {ao : Option Addr} {cs : List Value} (h : Cells w ao cs) (hb : Below B w w') (hB : w.heap.size <= B) : Cells w' ao cs := by
 rcases h with h | ⟨b, off, h1, h2⟩
 · exact .inl h
 · refine .inr ⟨b, off, h1, fun j u hu => ?_⟩
   have h3 := h2 j u hu
   have h4 := World.block_lt_of_cell? w _ h3
   rw [hb.cell (p := ⟨b, off + j, none⟩) (by simp at h4 ⊢; omega)]
   exact h3
theorem cell_keep {w w' : World} {B : Nat} {p : Addr} {v : Value} (h : w.cell? p = some v) (hb : Below B w w') (hB : w.heap.size <= B) : w'.cell? p = some v := by
 have h4 := World.block_lt_of_cell? w _ h
 rw [hb.cell (p := p) (by omega)]; exact h
theorem Cells.int {w : World} {b off : Nat} {k : IntKind} {xs : List Int} (h : Cells w (some ⟨b, off, none⟩) (xs.map (Value.int k))) {i : Nat} {x : Int} (hx : xs[i]? = some x) : w.cell? ⟨b, off + i, none⟩ = some (.int k x) := by
 rcases h with h | ⟨b', off', h1, h2⟩
 · have : xs = [] := by simpa using h
   rw [this] at hx; simp at hx
 · simp only [Option.some.injEq, Addr.mk.injEq] at h1
   obtain ⟨rfl, rfl, _⟩ := h1
   exact h2 i _ (by simp [hx])
theorem Cells.cases {w : World} {ao : Option Addr} {cs : List Value} (h : Cells w ao cs) : cs = [] ∨ ∃ b off, ao = some ⟨b, off, none⟩ := by
 rcases h with h | ⟨b, off, h1, _⟩
 · exact .inl h
 · exact .inr ⟨b, off, h1⟩
theorem Cells.addr {w : World} {ao : Option Addr} {cs : List Value} (h : Cells w ao cs) (hne : cs ≠ []) : ∃ b off, ao = some ⟨b, off, none⟩ := by
 rcases h.cases with h | h
 · exact absurd h hne
 · exact h
theorem get_of_lt {α : Type} {xs : List α} {i : Nat} (h : i < xs.length) : ∃ x, xs[i]? = some x := ⟨xs[i], by simp [h]⟩
theorem take_get {α : Type} {xs : List α} {i : Nat} {x : α} (h : xs[i]? = some x) : xs.take (i + 1) = xs.take i ++ [x] := by
 rw [List.take_add_one, h]; rfl
def prs (l : List (Int × Int)) : List Value := l.flatMap fun t => [.int .i64 t.1, .int .i64 t.2]
theorem Cells.at {w : World} {b off : Nat} {cs : List Value} (h : Cells w (some ⟨b, off, none⟩) cs) {j : Nat} {u : Value} (hu : cs[j]? = some u) : w.cell? ⟨b, off + j, none⟩ = some u := by
 rcases h with h | ⟨b', off', h1, h2⟩
 · rw [h] at hu; simp at hu
 · simp only [Option.some.injEq, Addr.mk.injEq] at h1
   obtain ⟨rfl, rfl, _⟩ := h1
   exact h2 j u hu
theorem box_keep {w w1 : World} {cs : Array Value} {T : TypeId} {B : Nat} (hb : Below B (w.alloc (.cells cs T)) w1) (hB : w.heap.size < B) (i : Nat) : w1.cell? ⟨w.heap.size, i, none⟩ = cs[i]? := by
 rw [hb.cell (p := ⟨w.heap.size, i, none⟩) hB]; simp
theorem own_cells {w : World} {b : Nat} {e : TypeId} {s : Nat} {v : Value} {n : Nat} {xs : List Value} (h : w.ownsRow b e s v n xs) : ∃ a c, v = .slice a n c /\ Cells w a xs := by
 obtain ⟨h0, h1⟩ := h
 rcases h1 with ⟨rfl, rfl⟩ | ⟨g, cap, cur, rfl, hb, hg, hn, hm, hs, ht⟩
 · refine ⟨none, 0, rfl, .inl ?_⟩
   simpa using h0
 · refine ⟨_, _, rfl, .inr ⟨g, 0, rfl, fun j u hu => ?_⟩⟩
   have h2 := World.ownsRow.cells (w := w) (base := b) (e := e) (size := s) (v := .slice (some ⟨g, 0, none⟩) n cap) (n := n) (xs := xs) ⟨h0, .inr ⟨g, cap, cur, rfl, hb, hg, hn, hm, hs, ht⟩⟩ rfl j u hu
   rw [Addr.add_lit] at h2
   exact h2
theorem news1 (w : World) (u : Value) (T : TypeId) : ∀ (j : Nat) (v : Value), [u][j]? = some v -> (w.alloc (.cells #[u] T)).cell? ((⟨w.heap.size, 0, none⟩ : Addr).add j) = some v := by
 intro j v hj
 match j, hj with
 | 0, hj => simp at hj; subst hj; simp [Addr.add]
theorem bel_drewN {B : Nat} {a w : World} (h : Below B a w) (k : Nat) : Below B a (w.drewN k) := ⟨h.os, h.tape, h.output, h.size, h.block⟩
end Go.Proofs.YtdpjdifoonfcdaaGreatDoor

namespace Go.Proofs.YtdpjdifoonfcdaaGreatDoor
open Go.RowKit
def inB (lo n hi : Int) : Bool := decide (lo <= n /\ n <= hi)
theorem within_any (n lo hi : Int) (w : World) :
 Calls Tryz.prog 98 #[.int .i64 n, .int .i64 lo, .int .i64 hi] w fun e w' => e = .returned (.bool (inB lo n hi)) /\ w = w' := by
 by_cases h1 : lo <= n
 · go_enter Tryz.func98, Tryz.ntmps98
   go_wp2
   go_ret
   exact ⟨ret_bool (by simp [inB]; try omega), rfl⟩
 · go_enter Tryz.func98, Tryz.ntmps98
   go_wp2
   go_ret
   exact ⟨ret_bool (by simp [inB]; try omega), rfl⟩
theorem seriesOK1_any (n : Int) (w : World) :
 Calls Tryz.prog 166 #[.int .i64 n] w fun e w' => e = .returned (.bool (!inB (-8388608) n 8388608)) /\ w = w' := by
 go_enter Tryz.func166, Tryz.ntmps166
 go_wp2_with (go_at_call 98; refine (within_any _ _ _ _).mono ?_; rintro e w' ⟨rfl, rfl⟩)
 go_ret
 exact ⟨rfl, rfl⟩
set_option maxRecDepth 100000 in
theorem indexFunc_ints (F : FuncId) (capd : Array Value) (p : Int -> Bool) (ao : Option Addr) (xs : List Int) (cap : Nat) (w : World) (hc : Cells w ao (xs.map (Value.int .i64))) (hl : xs.length <= 9223372036854775807)
 (hcf : ∀ (vs : Array Value) (wx : World), Sem.run Tryz.prog (callFunc F vs) wx = .ok (.enter F vs) wx)
 (hF : ∀ x wx, x ∈ xs -> Below w.heap.size w wx -> Calls Tryz.prog F (#[.int .i64 x] ++ capd) wx fun e w' => e = .returned (.bool (p x)) /\ Below wx.heap.size wx w') :
 Calls Tryz.prog 207 #[.slice ao xs.length cap, .func (.func F) #[] capd] w fun e w' => (∃ r : Int, e = .returned (.int .i64 r) /\ (0 <= r ↔ xs.any p = true)) /\ Below w.heap.size w w' := by
 go_enter Tryz.func207, Tryz.ntmps207
 go_wp2
 go_loopw [8] (fun i wr => ∃ k : Nat, k <= xs.length /\ i = .int .i64 k /\ (xs.take k).any p = false /\ Below w.heap.size w wr) (fun i _ => xs.length - (intOf i).toNat)
 case atStart => exact ⟨0, Nat.zero_le _, rfl, rfl, Below.refl _ _⟩
 case round =>
  obtain ⟨k, hk, rfl, hany, hb⟩ := hrel
  by_cases hlt : k < xs.length
  · obtain ⟨x, hx⟩ := get_of_lt hlt
    obtain ⟨b, off, rfl⟩ := hc.addr (by simpa using List.ne_nil_of_length_pos (by omega))
    have hcell := cell_keep (hc.int hx) hb (Nat.le_refl _)
    have HX := Lib.hid hx; clear hx
    have HC := Lib.hid hc; clear hc
    have HF := Lib.hid hF; clear hF
    have HA := Lib.hid hany; clear hany
    go_wp2_with fail
    refine (HF.out x wr (List.mem_of_getElem? HX.out) hb).mono ?_
    rintro e w1 ⟨rfl, hb1⟩
    have hb2 := hb.trans (hb1.mono hb.size)
    clear hb1
    by_cases hp : p x = true
    · go_wp2
      go_ret
      exact ⟨⟨_, rfl, by simp; exact ⟨x, List.mem_of_getElem? HX.out, hp⟩⟩, hb2⟩
    · simp only [Bool.not_eq_true] at hp
      go_wp2
      go_roundw
      case rel => exact ⟨k + 1, by omega, by go_num, by rw [take_get HX.out, List.any_append, HA.out]; simp [hp], hb2⟩
      case measure => simp [intOf]; omega
  · obtain rfl : k = xs.length := by omega
    rw [List.take_length] at hany
    have HA := Lib.hid hany; clear hany
    go_wp2
    go_ret
    exact ⟨⟨_, rfl, by rw [HA.out]; simp⟩, hb⟩
end Go.Proofs.YtdpjdifoonfcdaaGreatDoor

namespace Go.Proofs.YtdpjdifoonfcdaaGreatDoor
open Go.RowKit
theorem hold_old (w : World) (o : Obj) (i : Nat) (h : i < w.heap.size) : (w.alloc o).heap[i]? = w.heap[i]? := by
 show (w.heap.push o)[i]? = w.heap[i]?
 rw [Array.getElem?_push, if_neg (Nat.ne_of_lt h)]
theorem bwithin_any (n lo hi : Int) (w : World) :
 Calls Tryz.prog 66 #[.int .i64 n, .int .i64 lo, .int .i64 hi] w fun e w' => e = .returned (.bool (inB lo n hi)) /\ w = w' := by
 by_cases h1 : lo <= n
 · go_enter Tryz.func66, Tryz.ntmps66
   go_wp2
   go_ret
   exact ⟨ret_bool (by simp [inB]; try omega), rfl⟩
 · go_enter Tryz.func66, Tryz.ntmps66
   go_wp2
   go_ret
   exact ⟨ret_bool (by simp [inB]; try omega), rfl⟩
def quart : List Int := [0, 12, 25, 37, 49, 60, 71, 81, 90, 98, 106, 112, 117, 122, 125, 126, 127]
def half0 (k : Int) : Int := if k <= 16 then quart.getD k.toNat 0 else quart.getD (32 - k).toNat 0
theorem quart_bd (k : Nat) : 0 <= quart.getD k 0 /\ quart.getD k 0 <= 127 := by
 by_cases h : k < 17
 · have : ∀ k : Fin 17, 0 <= quart.getD k.val 0 /\ quart.getD k.val 0 <= 127 := by decide
   exact this ⟨k, h⟩
 · have h' : quart[k]? = none := by simp [quart]; omega
   rw [List.getD_eq_getElem?_getD, h']; simp
theorem half0_pos (k : Int) : 0 <= half0 k /\ half0 k <= 127 := by
 unfold half0; split <;> exact quart_bd _
def tab (p : Int) : Int := if p % 64 < 32 then half0 (p % 64) else -half0 (p % 64 - 32)
theorem tab_bd (p : Int) : -127 <= tab p /\ tab p <= 127 := by
 unfold tab
 split
 · have := half0_pos (p % 64); omega
 · have := half0_pos (p % 64 - 32); omega
set_option maxRecDepth 100000 in
theorem quarter_any (w : World) :
 Calls Tryz.prog 206 #[] w fun e w' => e = .returned (.agg (quart.map (Value.int .i64)).toArray) /\ Below w.heap.size w w' := by
 go_enter Tryz.func206, Tryz.ntmps206
 go_wp2
 refine bodyPost_ret (v := .agg (quart.map (Value.int .i64)).toArray) ?_ rfl ⟨rfl, ?_⟩
 · exact results_cell_row rfl _ _ w.heap.size _ _ _ (.array 17 3) (by rfl) (heap_alloc_new _ _) Tryz.underlying310 rfl (by kernel_rfl)
 · exact (Below.refl _ _).alloc (by simp) _
theorem run_index_val {P : Program} {w : World} (t e : TypeId) (n : Nat) (cs : Array Value) (k : IntKind) (i : Nat) (v : Value) (h : P.underlying t = some (.array n e)) (hs : (sizeOf e).run P w = .ok 1 w) (ha : (isAgg e).run P w = .ok false w) (hi : i < n) (hv : cs[i]? = some v) :
 (Instr.index t (.agg cs) (.int k i)).run P w = .ok v w := by
 have hn : 0 <= (i : Int) /\ (i : Int) < (n : Int) := by omega
 simp [Instr.index, run_underlying h, asIntOf, hi, go_sem, hs, part, ha, hv]
theorem quart_get (k : Nat) (h : k <= 16) : (quart.map (Value.int .i64)).toArray[k]? = some (.int .i64 (quart.getD k 0)) := by
 have : k < quart.length := by simp [quart]; omega
 simp [List.getD_eq_getElem?_getD, this]
set_option maxRecDepth 100000 in
theorem table_low (p : Nat) (w : World) (h1 : p < 32) :
 Calls Tryz.prog 135 #[.int .i64 p] w fun e w' => e = .returned (.int .i64 (half0 p)) /\ Below w.heap.size w w' := by
 have e1 : Int.tmod (p : Int) 64 = p := by rw [Int.tmod_eq_emod_of_nonneg (by omega)]; omega
 obtain ⟨A, hA⟩ : ∃ A, A = (quart.map (Value.int .i64)).toArray := ⟨_, rfl⟩
 have hq : ∀ w : World, Calls Tryz.prog 206 #[] w fun e w' => e = .returned (.agg A) /\ Below w.heap.size w w' := by rw [hA]; exact quarter_any
 by_cases h2 : p <= 16
 · have hv : ∀ w, (Instr.index 310 (.agg A) (.int .i64 (p : Int))).run Tryz.prog w = .ok (.int .i64 (quart.getD p 0)) w := fun w => run_index_val 310 3 17 _ .i64 p _ Tryz.underlying310 (Tryz.sizeOf3 w) (Tryz.isAgg3 w) (by omega) (by rw [hA]; exact quart_get p h2)
   have hh : half0 p = quart.getD p 0 := by simp only [half0, Int.toNat_natCast]; rw [if_pos (by omega)]
   generalize quart.getD p 0 = y at hv hh
   have HH := Lib.hid hh; clear hh
   have HQ := Lib.hid hq; clear hq
   clear hA
   go_enter Tryz.func135, Tryz.ntmps135
   go_wp2_with (go_at_call 206; refine (HQ.out _).mono ?_; rintro e w1 ⟨rfl, hb⟩)
   go_ret
   exact ⟨by rw [HH.out]; rfl, hb⟩
 · have hv : ∀ w, (Instr.index 310 (.agg A) (.int .i64 (32 - (p : Int)))).run Tryz.prog w = .ok (.int .i64 (quart.getD (32 - p) 0)) w := fun w => by
    have := run_index_val (P := Tryz.prog) (w := w) 310 3 17 A .i64 (32 - p) _ Tryz.underlying310 (Tryz.sizeOf3 w) (Tryz.isAgg3 w) (by omega) (by rw [hA]; exact quart_get (32 - p) (by omega))
    rwa [show ((32 - p : Nat) : Int) = 32 - (p : Int) by omega] at this
   have hh : half0 p = quart.getD (32 - p) 0 := by simp only [half0]; rw [if_neg (by omega)]; congr 1; omega
   generalize quart.getD (32 - p) 0 = y at hv hh
   have HH := Lib.hid hh; clear hh
   have HQ := Lib.hid hq; clear hq
   clear hA
   go_enter Tryz.func135, Tryz.ntmps135
   go_wp2_with (go_at_call 206; refine (HQ.out _).mono ?_; rintro e w1 ⟨rfl, hb⟩)
   go_ret
   exact ⟨by rw [HH.out]; rfl, hb⟩
set_option maxRecDepth 100000 in
theorem table_any (p : Nat) (w : World) (h : p < 4611686018427387904) :
 Calls Tryz.prog 135 #[.int .i64 p] w fun e w' => e = .returned (.int .i64 (tab p)) /\ Below w.heap.size w w' := by
 obtain ⟨q, hq⟩ : ∃ q, q = p % 64 := ⟨_, rfl⟩
 have hq1 : q < 64 := by omega
 have e1 : Int.tmod (p : Int) 64 = q := by rw [Int.tmod_eq_emod_of_nonneg (by omega)]; omega
 have ht : tab p = if (q : Int) < 32 then half0 q else -half0 ((q : Int) - 32) := by simp only [tab]; rw [show (p : Int) % 64 = q by omega]
 obtain ⟨A, hA⟩ : ∃ A, A = (quart.map (Value.int .i64)).toArray := ⟨_, rfl⟩
 have hqu : ∀ w : World, Calls Tryz.prog 206 #[] w fun e w' => e = .returned (.agg A) /\ Below w.heap.size w w' := by rw [hA]; exact quarter_any
 have HQ := Lib.hid hqu; clear hqu
 by_cases h1 : q < 32
 · rw [if_pos (by omega)] at ht
   by_cases h2 : q <= 16
   · have hv : ∀ w, (Instr.index 310 (.agg A) (.int .i64 (q : Int))).run Tryz.prog w = .ok (.int .i64 (quart.getD q 0)) w := fun w => run_index_val 310 3 17 _ .i64 q _ Tryz.underlying310 (Tryz.sizeOf3 w) (Tryz.isAgg3 w) (by omega) (by rw [hA]; exact quart_get q h2)
     have hh : tab p = quart.getD q 0 := by rw [ht]; simp only [half0, Int.toNat_natCast]; rw [if_pos (by omega)]
     generalize quart.getD q 0 = y at hv hh
     have HH := Lib.hid hh; clear hh ht
     clear hA hq
     go_enter Tryz.func135, Tryz.ntmps135
     go_wp2_with (go_at_call 206; refine (HQ.out _).mono ?_; rintro e w1 ⟨rfl, hb⟩)
     go_ret
     exact ⟨by rw [HH.out]; rfl, hb⟩
   · have hv : ∀ w, (Instr.index 310 (.agg A) (.int .i64 (32 - (q : Int)))).run Tryz.prog w = .ok (.int .i64 (quart.getD (32 - q) 0)) w := fun w => by
      have := run_index_val (P := Tryz.prog) (w := w) 310 3 17 A .i64 (32 - q) _ Tryz.underlying310 (Tryz.sizeOf3 w) (Tryz.isAgg3 w) (by omega) (by rw [hA]; exact quart_get (32 - q) (by omega))
      rwa [show ((32 - q : Nat) : Int) = 32 - (q : Int) by omega] at this
     have hh : tab p = quart.getD (32 - q) 0 := by rw [ht]; simp only [half0]; rw [if_neg (by omega)]; congr 1; omega
     generalize quart.getD (32 - q) 0 = y at hv hh
     have HH := Lib.hid hh; clear hh ht
     clear hA hq
     go_enter Tryz.func135, Tryz.ntmps135
     go_wp2_with (go_at_call 206; refine (HQ.out _).mono ?_; rintro e w1 ⟨rfl, hb⟩)
     go_ret
     exact ⟨by rw [HH.out]; rfl, hb⟩
 · rw [if_neg (by omega)] at ht
   have e3 : (q : Int) - 32 = ((q - 32 : Nat) : Int) := by omega
   have hlow := fun w => table_low (q - 32) w (by omega)
   have hb2 := fun w => hlow w
   rw [e3] at ht
   have HT := Lib.hid ht; clear ht
   have HL := Lib.hid hlow; clear hlow hb2
   clear hA hq
   have hw := half0_pos ((q - 32 : Nat) : Int)
   generalize half0 ((q - 32 : Nat) : Int) = y at *
   go_enter Tryz.func135, Tryz.ntmps135
   go_wp2_with (go_at_call 135; refine (HL.out _).mono ?_; rintro e w1 ⟨rfl, hb⟩)
   go_ret
   exact ⟨by rw [HT.out]; rfl, hb⟩
end Go.Proofs.YtdpjdifoonfcdaaGreatDoor

namespace Go.Proofs.YtdpjdifoonfcdaaGreatDoor
open Go.RowKit
def shp (L : Int) (xs : List Int) : Array Value := (Value.int .i64 L :: xs.map (Value.int .i64)).toArray
def smp (p q : Nat) (i : Nat) : List Int := (List.range 64).map fun t => if t < i then tab (p * t + q * t * t : Nat) else 0
theorem smp_length (p q i : Nat) : (smp p q i).length = 64 := by simp [smp]
theorem smp_at (p q i k : Nat) (h : k < 64) : (smp p q i)[k]? = some (if k < i then tab (p * k + q * k * k : Nat) else 0) := by simp [smp, h]
theorem shp_size (L : Int) (xs : List Int) : (shp L xs).size = xs.length + 1 := by simp [shp]
theorem shp_zero (L : Int) (xs : List Int) : (shp L xs)[0]? = some (.int .i64 L) := by simp [shp]
theorem shp_succ (L : Int) (xs : List Int) (i : Nat) (x : Int) (h : xs[i]? = some x) : (shp L xs)[1 + i]? = some (.int .i64 x) := by
 rw [Nat.add_comm]; simp [shp, h]
theorem shp_set (L : Int) (p q i : Nat) (h : i < 64) : (shp L (smp p q i)).setIfInBounds (1 + i) (.int .i64 (tab (p * i + q * i * i : Nat))) = shp L (smp p q (i + 1)) := by
 apply Array.ext_getElem?
 intro j
 rw [Array.getElem?_setIfInBounds]
 cases j with
 | zero => simp [shp]
 | succ j =>
   by_cases hj : j = i
   · subst hj
     rw [if_pos (by omega), if_pos (by rw [shp_size, smp_length]; omega), Nat.add_comm j 1, shp_succ L _ j (tab (p * j + q * j * j : Nat)) (by simp [smp, h])]
   · rw [if_neg (by omega)]
     simp only [shp, smp, List.getElem?_toArray, List.getElem?_cons_succ, List.getElem?_map]
     by_cases hk : j < 64
     · rw [List.getElem?_range hk]
       simp only [Option.map_some]
       congr 2
       by_cases h1 : j < i
       · rw [if_pos h1, if_pos (by omega)]
       · rw [if_neg h1, if_neg (by omega)]
     · rw [List.getElem?_eq_none (by simp; omega)]; rfl
theorem run_storeCells_row {P : Program} (w : World) (g : Nat) (t : TypeId) (old : Array Value) (l : List Value) (hg : w.heap[g]? = some (.cells old t (0, 0))) (ho : old.size = l.length) (h1 : ∀ v ∈ l, v.oneCell' = true) :
 (storeCells ⟨g, 0, none⟩ l 0).run P w = .ok () (w.setRow g l.toArray) := by
 have := run_storeCells_from (P := P) g t l 0 old w hg (by omega) h1
 simpa [ho] using this
theorem zero101 : Tryz.zeroCells129 = shp 0 (smp 0 0 0) := by kernel_rfl
theorem shp_mem {L : Int} {xs : List Int} : ∀ v ∈ (shp L xs).toList, v.oneCell' = true := by
 intro v hv
 simp only [shp, List.mem_cons, List.mem_map] at hv
 rcases hv with rfl | ⟨x, _, rfl⟩ <;> rfl
theorem smp_zero (p q : Nat) : smp p q 0 = smp 0 0 0 := by simp [smp]
set_option maxRecDepth 100000 in
set_option maxHeartbeats 4000000 in
theorem wave_ok (L p q : Nat) (w : World) (hp : p < 64) (hq : q < 64) (h1 : 4 <= L) (h2 : L <= 64) :
 Calls Tryz.prog 63 #[.int .i64 L, .agg #[.int .i64 p, .int .i64 q]] w fun e w' => e = .returned (.tuple #[.agg (shp L (smp p q L)), .bool true]) /\ Below w.heap.size w w' := by
 have i1 : inB 4 (L : Int) 64 = true := by simp [inB]; omega
 have i2 : inB 0 (p : Int) 63 = true := by simp [inB]; omega
 have i3 : inB 0 (q : Int) 63 = true := by simp [inB]; omega
 obtain ⟨Z, hZ⟩ : ∃ Z, Z = shp 0 (smp 0 0 0) := ⟨_, rfl⟩
 have z : Tryz.zeroCells129 = Z := by rw [hZ]; exact zero101
 have hZs : Z.size = 65 := by rw [hZ, shp_size, smp_length]
 have hset : Z.toList.set 0 (.int .i64 (L : Int)) = (shp L (smp p q 0)).toList := by rw [hZ, smp_zero p q]; simp [shp]
 have hZn : ¬ Z = #[] := by intro h; rw [h] at hZs; simp at hZs
 have HZ := Lib.hid hZ; clear hZ
 obtain ⟨W3, hW3⟩ : ∃ W3, W3 = ((w.alloc (.cells #[.int .i64 p, .int .i64 q] 23)).alloc (.cells Z 129)).alloc (.cells (shp L (smp p q 0)) 129) := ⟨_, rfl⟩
 have hst : (storeCells ⟨w.heap.size + 1 + 1, 0, none⟩ (Z.toList.set 0 (.int .i64 (L : Int))) 0).run Tryz.prog (((w.alloc (.cells #[.int .i64 p, .int .i64 q] 23)).alloc (.cells Z 129)).alloc (.cells Z 129)) = .ok () W3 := by
  have hsz : ((w.alloc (.cells #[.int .i64 p, .int .i64 q] 23)).alloc (.cells Z 129)).heap.size = w.heap.size + 1 + 1 := by simp
  rw [hset, <- hsz]
  rw [run_storeCells_row _ _ 129 Z _ (heap_alloc_new _ _) (by rw [hZs, Array.length_toList, shp_size, smp_length]) shp_mem]
  rw [hW3]
  congr 1
  exact World.setRow_alloc_new _ _ _ _
 have hb3 : Below (w.heap.size + 2) ((w.alloc (.cells #[.int .i64 p, .int .i64 q] 23)).alloc (.cells Z 129)) W3 := by
  rw [hW3]; exact (Below.refl _ _).alloc (by simp) _
 have hh3 : W3.heap[w.heap.size + 2]? = some (.cells (shp L (smp p q 0)) 129 (0, 0)) := by
  have hsz : ((w.alloc (.cells #[.int .i64 p, .int .i64 q] 23)).alloc (.cells Z 129)).heap.size = w.heap.size + 2 := by simp
  rw [hW3, <- hsz]; exact heap_alloc_new _ _
 have HH3 := Lib.hid hh3; clear hh3
 have HB3 := Lib.hid hb3; clear hb3
 clear hW3 hset
 go_enter Tryz.func63, Tryz.ntmps63
 go_wp2_with (go_at_call 66; refine (bwithin_any _ _ _ _).mono ?_; rintro e w' ⟨rfl, rfl⟩)
 go_loopw [27] (fun i wr => ∃ k : Nat, k <= L /\ i = .int .i64 k /\ wr.heap[w.heap.size + 2]? = some (.cells (shp L (smp p q k)) 129 (0, 0)) /\ Below (w.heap.size + 2) ((w.alloc (.cells #[.int .i64 p, .int .i64 q] 23)).alloc (.cells Z 129)) wr) (fun i _ => L - (intOf i).toNat)
 case atStart => exact ⟨0, Nat.zero_le _, rfl, HH3.out, HB3.out⟩
 case round =>
  obtain ⟨k, hk, rfl, hrow, hb⟩ := hrel
  have hc0 : wr.cell? ⟨w.heap.size, 0, none⟩ = some (.int .i64 p) := cell_keep (B := w.heap.size + 2) (by simp) hb (by simp)
  have hc1 : wr.cell? ⟨w.heap.size, 1, none⟩ = some (.int .i64 q) := cell_keep (B := w.heap.size + 2) (by simp) hb (by simp)
  have hsz : w.heap.size + 2 < wr.heap.size := (Array.getElem?_eq_some_iff.1 hrow).1
  have hbw : Below w.heap.size w wr := (((Below.refl _ _).alloc (Nat.le_refl _) _).alloc (by simp) _).trans (hb.mono (by omega))
  clear hst
  by_cases hlt : k < L
  · have b1 : p * k <= 64 * 64 := Nat.mul_le_mul (by omega) (by omega)
    have b2 : q * k <= 64 * 64 := Nat.mul_le_mul (by omega) (by omega)
    have b3 : q * k * k <= 64 * 64 * 64 := Nat.mul_le_mul b2 (by omega)
    have c1 : 0 <= (p : Int) * k /\ (p : Int) * k <= 4096 := by rw [<- Int.natCast_mul]; omega
    have c2 : 0 <= (q : Int) * k /\ (q : Int) * k <= 4096 := by rw [<- Int.natCast_mul]; omega
    have c3 : 0 <= (q : Int) * k * k /\ (q : Int) * k * k <= 262144 := by rw [<- Int.natCast_mul, <- Int.natCast_mul]; omega
    have q1 : IntKind.i64.wrap ((p : Int) * k) = (p : Int) * k := IntWalk.i64_in _ (by omega)
    have q2 : IntKind.i64.wrap ((q : Int) * k) = (q : Int) * k := IntWalk.i64_in _ (by omega)
    have q3 : IntKind.i64.wrap ((q : Int) * k * k) = (q : Int) * k * k := IntWalk.i64_in _ (by omega)
    have q4 : IntKind.i64.wrap ((p : Int) * k + (q : Int) * k * k) = (p : Int) * k + (q : Int) * k * k := IntWalk.i64_in _ (by omega)
    have htab : ∀ w, Calls Tryz.prog 135 #[.int .i64 ((p : Int) * k + (q : Int) * k * k)] w fun e w' => e = .returned (.int .i64 (tab (p * k + q * k * k : Nat))) /\ Below w.heap.size w w' := fun w => by
     have := table_any (p * k + q * k * k) w (by omega)
     push_cast at this ⊢
     exact this
    have hse := shp_set L p q k (by omega)
    generalize tab (p * k + q * k * k : Nat) = v at htab hse
    have hz : (shp L (smp p q k))[1 + k]? = some (.int .i64 0) := shp_succ _ _ _ _ (by rw [smp_at p q k k (by omega), if_neg (by omega)])
    have HT := Lib.hid htab; clear htab
    have HS := Lib.hid hse; clear hse
    have HR := Lib.hid hrow; clear hrow
    have HZ2 := Lib.hid hz; clear hz
    go_wp2_with (go_at_call 135; refine (HT.out _).mono ?_; rintro e w1 ⟨rfl, hb1⟩; have hr1 : w1.heap[w.heap.size + 2]? = _ := (hb1.block _ hsz).trans HR.out; have hcc : w1.cell? ⟨w.heap.size + 1 + 1, 1 + k, none⟩ = some (.int .i64 0) := (cell_of_row w1 _ _ _ _ _ hr1).trans HZ2.out; have hfr : w1.frozen? ⟨w.heap.size + 1 + 1, 1 + k, none⟩ = false := frozen_of_row w1 _ _ _ _ hr1; have HR1 := Lib.hid hr1; clear hr1)
    go_roundw
    case rel => exact ⟨k + 1, by omega, by go_num, (heap_setCell_same w1 _ _ _ _ _ HR1.out).trans (by rw [HS.out]), (hb.trans (hb1.mono (by omega))).setCell (by simp) _⟩
    case measure => simp [intOf]; omega
  · obtain rfl : k = L := by omega
    have hss : (shp k (smp p q k)).size = 65 := by rw [shp_size, smp_length]
    have hr1 : wr.heap[w.heap.size + 1]? = some (.cells Z 129 (0, 0)) := by
     rw [hb.block _ (by omega)]
     have hsz : (w.alloc (.cells #[.int .i64 p, .int .i64 q] 23)).heap.size = w.heap.size + 1 := by simp
     rw [<- hsz]; exact heap_alloc_new _ _
    have hsc := run_storeCells_row (P := Tryz.prog) wr (w.heap.size + 1) 129 Z (shp k (smp p q k)).toList hr1 (by rw [hZs, Array.length_toList, hss]) shp_mem
    have hr2 := setRow_heap wr (w.heap.size + 1) Z (shp k (smp p q k)) 129 (0, 0) hr1
    have HR2 := Lib.hid hr2; clear hr2
    have hne : ¬ shp k (smp p q k) = #[] := by intro h; rw [h] at hss; simp at hss
    have HRO := Lib.hid hrow
    clear hrow hr1
    have hi : (Tryz.prog.info? 129).map (·.size) = some (shp k (smp p q k)).size := by rw [hss]; kernel_rfl
    have HI := Lib.hid hi; clear hi
    rw [Array.toArray_toList] at hsc
    generalize hV : shp k (smp p q k) = V at *
    have HV := Lib.hid hV; clear hV
    go_wp2_with (refine wpList_load_row (by rfl) 129 _ (by rfl) (w.heap.size + 1 + 1) (by rfl) _ V _ _ HRO.out Tryz.underlying129 (by rfl) HI.out ?_)
    refine bodyPost_ret (v := .tuple #[.agg V, .bool true]) ?_ rfl ⟨by rw [HV.out], below_setRow hbw (by omega) _⟩
    rw [results_cell_tmp rfl]
    have hfin := run_loadVar_row (P := Tryz.prog) (wr.setRow (w.heap.size + 1) V) (w.heap.size + 1) 129 129 V (0, 0) _ HR2.out Tryz.underlying129 (by rfl) HI.out
    simp [asAddr, Result.andThen, hfin]
def waveOK (L p q : Int) : Bool := inB 4 L 64 && inB 0 p 63 && inB 0 q 63
set_option maxHeartbeats 4000000 in
theorem wave_bad (L p q : Int) (w : World) (h : waveOK L p q = false) :
 Calls Tryz.prog 63 #[.int .i64 L, .agg #[.int .i64 p, .int .i64 q]] w fun e w' => e = .returned (.tuple #[.agg (shp 0 (smp 0 0 0)), .bool false]) /\ Below w.heap.size w w' := by
 obtain ⟨Z, hZ⟩ : ∃ Z, Z = shp 0 (smp 0 0 0) := ⟨_, rfl⟩
 have z : Tryz.zeroCells129 = Z := by rw [hZ]; exact zero101
 have hZs : Z.size = 65 := by rw [hZ, shp_size, smp_length]
 have hZn : ¬ Z = #[] := by intro h; rw [h] at hZs; simp at hZs
 have hm : ∀ v ∈ Z.toList, v.oneCell' = true := by rw [hZ]; exact shp_mem
 have hsz : (w.alloc (.cells #[.int .i64 p, .int .i64 q] 23)).heap.size = w.heap.size + 1 := by simp
 have hr1 : ((w.alloc (.cells #[.int .i64 p, .int .i64 q] 23)).alloc (.cells Z 129)).heap[w.heap.size + 1]? = some (.cells Z 129 (0, 0)) := by rw [<- hsz]; exact heap_alloc_new _ _
 have hst := run_storeCells_row (P := Tryz.prog) _ (w.heap.size + 1) 129 Z Z.toList hr1 (by simp) hm
 have hi : (Tryz.prog.info? 129).map (·.size) = some Z.size := by rw [hZs]; kernel_rfl
 have hset : ((w.alloc (.cells #[.int .i64 p, .int .i64 q] 23)).alloc (.cells Z 129)).setRow (w.heap.size + 1) Z = (w.alloc (.cells #[.int .i64 p, .int .i64 q] 23)).alloc (.cells Z 129) := by
  rw [<- hsz]; exact World.setRow_alloc_new _ _ _ _
 rw [Array.toArray_toList, hset] at hst
 have HZ := Lib.hid hZ; clear hZ
 have HR := Lib.hid hr1; clear hr1
 have HI := Lib.hid hi; clear hi
 clear hm hset hsz
 have fin : ∀ (tm : Array Value), tm.getD 4 undef = .pointer (some ⟨w.heap.size + 1, 0, none⟩) -> tm.getD 5 undef = .bool false -> bodyPost Tryz.prog Tryz.f63 (fun e w' => e = .returned (.tuple #[.agg (shp 0 (smp 0 0 0)), .bool false]) /\ Below w.heap.size w w') .ret { tmps := tm, defers := [] } ((w.alloc (.cells #[.int .i64 p, .int .i64 q] 23)).alloc (.cells Z 129)) := by
  intro tm e1 e2
  refine bodyPost_ret (v := .tuple #[.agg Z, .bool false]) ?_ rfl ⟨by rw [HZ.out], ((Below.refl _ _).alloc (Nat.le_refl _) _).alloc (by simp) _⟩
  rw [results_cell_tmp rfl, e1, e2]
  have hfin := run_loadVar_row (P := Tryz.prog) ((w.alloc (.cells #[.int .i64 p, .int .i64 q] 23)).alloc (.cells Z 129)) (w.heap.size + 1) 129 129 Z (0, 0) _ HR.out Tryz.underlying129 (by rfl) HI.out
  simp [asAddr, Result.andThen, hfin]
 have FIN := Lib.hid fin; clear fin
 by_cases h1 : inB 4 L 64 = true
 · by_cases h2 : inB 0 p 63 = true
   · have h3 : inB 0 q 63 = false := by
      cases e : inB 0 q 63
      · rfl
      · simp [waveOK, h1, h2, e] at h
     clear h
     go_enter Tryz.func63, Tryz.ntmps63
     go_wp2_with (go_at_call 66; refine (bwithin_any _ _ _ _).mono ?_; rintro e w' ⟨rfl, rfl⟩)
     exact FIN.out _ rfl rfl
   · have h2 : inB 0 p 63 = false := by simpa using h2
     clear h
     go_enter Tryz.func63, Tryz.ntmps63
     go_wp2_with (go_at_call 66; refine (bwithin_any _ _ _ _).mono ?_; rintro e w' ⟨rfl, rfl⟩)
     exact FIN.out _ rfl rfl
 · have h1 : inB 4 L 64 = false := by simpa using h1
   clear h
   go_enter Tryz.func63, Tryz.ntmps63
   go_wp2_with (go_at_call 66; refine (bwithin_any _ _ _ _).mono ?_; rintro e w' ⟨rfl, rfl⟩)
   exact FIN.out _ rfl rfl
def wav (L p q : Int) : List Int := smp p.toNat q.toNat L.toNat
def waveV (L p q : Int) : Array Value := if waveOK L p q then shp L (wav L p q) else shp 0 (smp 0 0 0)
theorem wave_any (L p q : Int) (w : World) :
 Calls Tryz.prog 63 #[.int .i64 L, .agg #[.int .i64 p, .int .i64 q]] w fun e w' => e = .returned (.tuple #[.agg (waveV L p q), .bool (waveOK L p q)]) /\ Below w.heap.size w w' := by
 cases h : waveOK L p q
 · have e1 : waveV L p q = shp 0 (smp 0 0 0) := by simp [waveV, h]
   rw [e1]; exact wave_bad L p q w h
 · have h' := h
   simp only [waveOK, inB, Bool.and_eq_true, decide_eq_true_eq] at h'
   have e1 : waveV L p q = shp L (wav L p q) := by simp [waveV, h]
   rw [e1]
   have := wave_ok L.toNat p.toNat q.toNat w (by omega) (by omega) (by omega) (by omega)
   rw [show ((L.toNat : Nat) : Int) = L by omega, show ((p.toNat : Nat) : Int) = p by omega, show ((q.toNat : Nat) : Int) = q by omega] at this
   exact this
end Go.Proofs.YtdpjdifoonfcdaaGreatDoor

namespace Go.Proofs.YtdpjdifoonfcdaaGreatDoor
open Go.RowKit
set_option maxRecDepth 100000 in
theorem containsFunc_ints (F : FuncId) (capd : Array Value) (p : Int -> Bool) (ao : Option Addr) (xs : List Int) (cap : Nat) (w : World) (hc : Cells w ao (xs.map (Value.int .i64))) (hl : xs.length <= 9223372036854775807)
 (hcf : ∀ (vs : Array Value) (wx : World), Sem.run Tryz.prog (callFunc F vs) wx = .ok (.enter F vs) wx)
 (hF : ∀ x wx, x ∈ xs -> Below w.heap.size w wx -> Calls Tryz.prog F (#[.int .i64 x] ++ capd) wx fun e w' => e = .returned (.bool (p x)) /\ Below wx.heap.size wx w') :
 Calls Tryz.prog 136 #[.slice ao xs.length cap, .func (.func F) #[] capd] w fun e w' => e = .returned (.bool (xs.any p)) /\ Below w.heap.size w w' := by
 have HC := Lib.hid hc; clear hc
 have HF := Lib.hid hF; clear hF
 have HCF := Lib.hid hcf; clear hcf
 go_enter Tryz.func136, Tryz.ntmps136
 go_wp2_with fail
 refine (indexFunc_ints F capd p ao xs cap w HC.out hl HCF.out HF.out).mono ?_
 rintro e w1 ⟨⟨r, rfl, hr⟩, hb⟩
 have HR := Lib.hid hr; clear hr
 go_wp2
 go_ret
 exact ⟨ret_bool (by rw [Bool.eq_iff_iff, decide_eq_true_iff]; exact HR.out), hb⟩
def serOK (xs : List Int) : Bool := decide (xs.length <= 4096) && xs.all (fun n => inB (-8388608) n 8388608)
def serErr (xs : List Int) : Int := if serOK xs then 0 else 55
theorem seriesOK_any (ao : Option Addr) (xs : List Int) (cap : Nat) (w : World) (hc : Cells w ao (xs.map (Value.int .i64))) (hl : xs.length <= 9223372036854775807) :
 Calls Tryz.prog 99 #[.slice ao xs.length cap] w fun e w' => e = .returned (.bool (serOK xs)) /\ Below w.heap.size w w' := by
 have HC := Lib.hid hc; clear hc
 by_cases h : xs.length <= 4096
 · go_enter Tryz.func99, Tryz.ntmps99
   go_wp2_with fail
   refine (containsFunc_ints 166 #[] (fun n => !inB (-8388608) n 8388608) ao xs cap w HC.out hl (fun _ _ => by kernel_rfl) (fun x wx _ _ => (seriesOK1_any x wx).mono fun e w' h => ⟨h.1, h.2 ▸ Below.refl _ _⟩)).mono ?_
   rintro e w1 ⟨rfl, hb⟩
   go_wp2
   go_ret
   exact ⟨ret_bool (by simp [serOK, h, List.all_eq_not_any_not]), hb⟩
 · go_enter Tryz.func99, Tryz.ntmps99
   go_wp2
   go_ret
   exact ⟨ret_bool (by simp [serOK]; omega), Below.refl _ _⟩
theorem checkSeries_any (ao : Option Addr) (xs : List Int) (cap : Nat) (w : World) (hc : Cells w ao (xs.map (Value.int .i64))) (hl : xs.length <= 9223372036854775807) :
 Calls Tryz.prog 108 #[.slice ao xs.length cap] w fun e w' => e = .returned (.int .i64 (serErr xs)) /\ Below w.heap.size w w' := by
 have HC := Lib.hid hc; clear hc
 cases hs : serOK xs
 all_goals
  go_enter Tryz.func108, Tryz.ntmps108
  go_wp2_with fail
  refine (seriesOK_any ao xs cap w HC.out hl).mono ?_
  rintro e w1 ⟨rfl, hb⟩
  go_wp2
  go_ret
  exact ⟨ret_int (by simp [serErr, hs]), hb⟩
end Go.Proofs.YtdpjdifoonfcdaaGreatDoor

namespace Go.Proofs.YtdpjdifoonfcdaaGreatDoor
open Go.RowKit
def dotTo (xs ds : List Int) (t a : Nat) : Nat -> Int
 | 0 => 0
 | n + 1 => dotTo xs ds t a n + xs.getD (a + n) 0 * ds.getD (t + (a + n)) 0
theorem dot_prod {x y : Int} (h1 : -127 <= x) (h2 : x <= 127) (h3 : -32768 <= y) (h4 : y <= 32768) : -4161536 <= x * y /\ x * y <= 4161536 := by
 have ha : x.natAbs <= 127 := by omega
 have hx : y.natAbs <= 32768 := by omega
 have h := Nat.mul_le_mul ha hx
 rw [<- Int.natAbs_mul] at h
 omega
theorem getD_in {xs : List Int} {M : Int} (hM : 0 <= M) (h : ∀ x ∈ xs, -M <= x /\ x <= M) (i : Nat) : -M <= xs.getD i 0 /\ xs.getD i 0 <= M := by
 rw [List.getD_eq_getElem?_getD]
 cases e : xs[i]? with
 | none => simp; omega
 | some v => exact h v (List.mem_of_getElem? e)
theorem dotTo_bd {xs ds : List Int} (h1 : ∀ x ∈ xs, -127 <= x /\ x <= 127) (h2 : ∀ x ∈ ds, -32768 <= x /\ x <= 32768) (t a n : Nat) : -(4161536 * (n : Int)) <= dotTo xs ds t a n /\ dotTo xs ds t a n <= 4161536 * (n : Int) := by
 induction n with
 | zero => simp [dotTo]
 | succ n ih =>
   have g1 := getD_in (by omega) h1 (a + n)
   have g2 := getD_in (by omega) h2 (t + (a + n))
   have := dot_prod g1.1 g1.2 g2.1 g2.2
   simp only [dotTo]
   push_cast
   omega
set_option maxHeartbeats 4000000 in
theorem output_any (L : Int) (xs ds : List Int) (ao : Option Addr) (cap : Nat) (t a b : Nat) (w : World) (hx : xs.length = 64) (hc : Cells w ao (ds.map (Value.int .i64))) (hab : a <= b) (hb : b <= 64) (ht : t + b <= ds.length) (hl : ds.length <= 512)
 (h1 : ∀ x ∈ xs, -127 <= x /\ x <= 127) (h2 : ∀ x ∈ ds, -32768 <= x /\ x <= 32768) :
 Calls Tryz.prog 68 #[.agg (shp L xs), .slice ao ds.length cap, .int .i64 t, .int .i64 a, .int .i64 b] w fun e w' => e = .returned (.int .i64 (dotTo xs ds t a (b - a))) /\ Below w.heap.size w w' := by
 have hcell : ∀ i x, xs[i]? = some x -> (shp L xs)[1 + i]? = some (.int .i64 x) := shp_succ L xs
 generalize shp L xs = V at hcell
 have HX := Lib.hid hcell; clear hcell
 have HC := Lib.hid hc; clear hc
 have H1 := Lib.hid h1; clear h1
 have H2 := Lib.hid h2; clear h2
 go_enter Tryz.func68, Tryz.ntmps68
 go_wp2
 go_loopw [11, 12] (fun s i wr => ∃ n : Nat, n <= b - a /\ i = .int .i64 ((a + n : Nat) : Int) /\ s = .int .i64 (dotTo xs ds t a n) /\ Below (w.heap.size + 1) (w.alloc (.cells V 129)) wr) (fun _ i _ => b - (intOf i).toNat)
 case atStart => exact ⟨0, Nat.zero_le _, rfl, rfl, Below.refl _ _⟩
 case round =>
  obtain ⟨n, hn, rfl, rfl, hbe⟩ := hrel
  have hbw : Below w.heap.size w wr := ((Below.refl _ _).alloc (Nat.le_refl _) _).trans (hbe.mono (by omega))
  have bd := dotTo_bd H1.out H2.out t a n
  by_cases hlt : a + n < b
  · obtain ⟨x, hxx⟩ := get_of_lt (show a + n < xs.length by omega)
    obtain ⟨y, hy⟩ := get_of_lt (show t + (a + n) < ds.length by omega)
    obtain ⟨bd1, off, rfl⟩ := HC.out.addr (by simpa using List.ne_nil_of_length_pos (by omega))
    have hcell2 := cell_keep (HC.out.int hy) hbw (Nat.le_refl _)
    have hcell1 : wr.cell? ⟨w.heap.size, 1 + (a + n), none⟩ = some (.int .i64 x) := (box_keep hbe (by simp) _).trans (HX.out _ _ hxx)
    have m1 := H1.out x (List.mem_of_getElem? hxx)
    have m2 := H2.out y (List.mem_of_getElem? hy)
    have pd := dot_prod m1.1 m1.2 m2.1 m2.2
    have e1 : dotTo xs ds t a (n + 1) = dotTo xs ds t a n + x * y := by simp [dotTo, hxx, hy]
    have E1 := Lib.hid e1; clear e1
    have q1 : IntKind.i64.wrap (x * y) = x * y := IntWalk.i64_in _ (by omega)
    clear hxx hy
    generalize hm : a + n = m at *
    have HM := Lib.hid hm; clear hm
    go_wp2
    have q2 : IntKind.i64.wrap ((t : Int) + m) = (t : Int) + m := IntWalk.i64_in _ (by omega)
    have q3 : 0 <= (t : Int) + m := by omega
    have q4 : (t : Int) + m < ds.length := by omega
    have q5 : ((t : Int) + m).toNat = t + m := by omega
    have q6 : (m : Int) < 64 := by omega
    have q7 : IntKind.i64.wrap (dotTo xs ds t a n + x * y) = dotTo xs ds t a n + x * y := IntWalk.i64_in _ (by omega)
    go_quiet (fail)
    clear q1 q2 q3 q4 q5 q6 q7
    go_wp2
    go_roundw
    case rel => exact ⟨n + 1, by have := HM.out; omega, by have := HM.out; go_num, by rw [E1.out], bel_drewN hbe _⟩
    case measure => simp [intOf]; omega
  · obtain rfl : b = a + n := by omega
    have e : a + n - a = n := by omega
    have E := Lib.hid e; clear e
    go_wp2
    go_ret
    exact ⟨by rw [E.out]; rfl, hbw⟩
end Go.Proofs.YtdpjdifoonfcdaaGreatDoor

namespace Go.Proofs.YtdpjdifoonfcdaaGreatDoor
open Go.RowKit
def sumL (xs : List Int) : Int := xs.foldl (· + ·) 0
theorem sumL_snoc (xs : List Int) (x : Int) : sumL (xs ++ [x]) = sumL xs + x := by simp [sumL]
def lineOK (xs : List Int) : Bool := xs.all (fun n => inB (-1000) n 1000) && (inB 2 xs.length 32 && (decide (sumL xs = 0) && xs.any (fun n => n != 0)))
def lineErr (xs : List Int) : Int := if lineOK xs then 0 else 54
theorem sumL_bd {xs : List Int} (h : ∀ x ∈ xs, -1000 <= x /\ x <= 1000) : -(1000 * (xs.length : Int)) <= sumL xs /\ sumL xs <= 1000 * (xs.length : Int) := by
 suffices ∀ (xs : List Int) (a : Int), (∀ x ∈ xs, -1000 <= x /\ x <= 1000) -> a - 1000 * (xs.length : Int) <= xs.foldl (· + ·) a /\ xs.foldl (· + ·) a <= a + 1000 * (xs.length : Int) by
  have := this xs 0 h; simp only [sumL]; omega
 intro xs
 induction xs with
 | nil => intro a _; simp
 | cons x xs ih =>
   intro a h
   have h1 := h x (by simp)
   have h2 := ih (a + x) (fun y hy => h y (by simp [hy]))
   simp only [List.foldl_cons, List.length_cons]
   push_cast
   omega
theorem checkLine_any (ao : Option Addr) (xs : List Int) (cap : Nat) (w : World) (hc : Cells w ao (xs.map (Value.int .i64))) (hl : xs.length <= 17592186044416) :
 Calls Tryz.prog 42 #[.slice ao xs.length cap] w fun e w' => e = .returned (.int .i64 (lineErr xs)) /\ w = w' := by
 have HC := Lib.hid hc; clear hc
 go_enter Tryz.func42, Tryz.ntmps42
 go_wp2
 go_loop [3, 4, 9] (fun sm so i => ∃ k : Nat, k <= xs.length /\ i = .int .i64 k /\ sm = .int .i64 (sumL (xs.take k)) /\ so = .bool ((xs.take k).any (fun n => n != 0)) /\ (xs.take k).all (fun n => inB (-1000) n 1000) = true) (fun _ _ i => xs.length - (intOf i).toNat)
 case atStart => exact ⟨0, Nat.zero_le _, rfl, rfl, rfl, rfl⟩
 case round =>
  obtain ⟨k, hk, rfl, rfl, rfl, hall⟩ := hrel
  have hbd := sumL_bd (xs := xs.take k) (fun x hx => by have := List.all_eq_true.1 hall x hx; simpa [inB] using this)
  rw [List.length_take, Nat.min_eq_left hk] at hbd
  obtain ⟨hb1, hb2⟩ := hbd
  by_cases hlt : k < xs.length
  · obtain ⟨x, hx⟩ := get_of_lt hlt
    obtain ⟨b, off, rfl⟩ := HC.out.addr (by simpa using List.ne_nil_of_length_pos (by omega))
    have hcell := HC.out.int hx
    have ht := take_get hx
    cases hin : inB (-1000) x 1000
    · have he : lineErr xs = 54 := by
       have : xs.all (fun n => inB (-1000) n 1000) = false := List.all_eq_false.2 ⟨x, List.mem_of_getElem? hx, by simp [hin]⟩
       simp [lineErr, lineOK, this]
      have HE := Lib.hid he; clear he hx ht hall
      go_wp2_with (go_at_call 98; refine (within_any _ _ _ _).mono ?_; rintro e w' ⟨rfl, rfl⟩)
      go_ret
      exact ⟨ret_int HE.out.symm, rfl⟩
    · have hx1 : -1000 <= x /\ x <= 1000 := by simpa [inB] using hin
      obtain ⟨hx1, hx2⟩ := hx1
      have hs : sumL (xs.take (k + 1)) = sumL (xs.take k) + x := by rw [ht, sumL_snoc]
      have ha : (xs.take (k + 1)).all (fun n => inB (-1000) n 1000) = true := by rw [ht, List.all_append, hall]; simp [hin]
      have hn : (xs.take (k + 1)).any (fun n => n != 0) = ((xs.take k).any (fun n => n != 0) || x != 0) := by rw [ht, List.any_append]; simp
      have HS := Lib.hid hs; have HA := Lib.hid ha; have HN := Lib.hid hn
      clear hs ha hn ht hx hall
      generalize (xs.take k).any (fun n => n != 0) = so at *
      generalize sumL (xs.take k) = sm at *
      cases so
      all_goals
       go_wp2_with (go_at_call 98; refine (within_any _ _ _ _).mono ?_; rintro e w' ⟨rfl, rfl⟩)
       go_round
       case rel => exact ⟨k + 1, by omega, by go_num, by rw [HS.out], by rw [HN.out]; simp, HA.out⟩
       case measure => simp [intOf]; omega
  · obtain rfl : k = xs.length := by omega
    rw [List.take_length] at hall hb1 hb2 ⊢
    have he : lineErr xs = if (inB 2 xs.length 32 && (decide (sumL xs = 0) && xs.any (fun n => n != 0))) then 0 else 54 := by simp only [lineErr, lineOK, hall, Bool.true_and]
    have HE := Lib.hid he; clear he hall
    generalize xs.any (fun n => n != 0) = so at *
    generalize sumL xs = sm at *
    by_cases hsm : sm = 0
    · subst hsm
      cases so
      all_goals
       cases hin : inB 2 xs.length 32
       all_goals
        have HIN := Lib.hid hin
        go_wp2_with (go_at_call 98; refine (within_any _ _ _ _).mono ?_; rintro e w' ⟨rfl, rfl⟩)
        go_ret
        exact ⟨ret_int (by rw [HE.out, HIN.out]; rfl), rfl⟩
    · have h1 : (sm != 0) = true := by simpa using hsm
      have hd : decide (sm = 0) = false := by simpa using hsm
      have HD := Lib.hid hd; clear hd
      cases hin : inB 2 xs.length 32
      all_goals
       have HIN := Lib.hid hin
       go_wp2_with (go_at_call 98; refine (within_any _ _ _ _).mono ?_; rintro e w' ⟨rfl, rfl⟩)
       go_ret
       exact ⟨ret_int (by rw [HE.out, HIN.out, HD.out]; rfl), rfl⟩
end Go.Proofs.YtdpjdifoonfcdaaGreatDoor

namespace Go.Proofs.YtdpjdifoonfcdaaGreatDoor
open Go.RowKit
theorem serErr_zero {xs : List Int} (h : serErr xs = 0) : xs.length <= 4096 /\ ∀ x ∈ xs, -8388608 <= x /\ x <= 8388608 := by
 have h1 : serOK xs = true := by
  cases e : serOK xs
  · simp [serErr, e] at h
  · rfl
 simpa [serOK, inB] using h1
end Go.Proofs.YtdpjdifoonfcdaaGreatDoor

namespace Go.Proofs.YtdpjdifoonfcdaaGreatDoor
open Go.RowKit
def linedErr (sh xs : List Int) : Int := if lineErr sh ≠ 0 then lineErr sh else serErr xs
theorem lined_any (ao : Option Addr) (sh : List Int) (cap : Nat) (ax : Option Addr) (xs : List Int) (cx : Nat) (w : World) (hc : Cells w ao (sh.map (Value.int .i64))) (hl : sh.length <= 17592186044416) (hx : Cells w ax (xs.map (Value.int .i64))) (hlx : xs.length <= 9223372036854775807) :
 Calls Tryz.prog 97 #[.slice ao sh.length cap, .slice ax xs.length cx] w fun e w' => e = .returned (.int .i64 (linedErr sh xs)) /\ Below w.heap.size w w' := by
 have HC := Lib.hid hc; clear hc
 have HX := Lib.hid hx; clear hx
 by_cases h1 : lineErr sh = 0
 · have he : linedErr sh xs = serErr xs := by simp [linedErr, h1]
   have HE := Lib.hid he; clear he
   have H1 := Lib.hid h1; clear h1
   go_enter Tryz.func97, Tryz.ntmps97
   go_wp2_with fail
   refine (checkLine_any ao sh cap _ HC.out hl).mono ?_
   rintro e w1 ⟨rfl, rfl⟩
   rw [H1.out]
   go_wp2_with fail
   refine (checkSeries_any ax xs cx _ HX.out hlx).mono ?_
   rintro e w2 ⟨rfl, hb2⟩
   go_wp2
   go_ret
   exact ⟨ret_int HE.out.symm, hb2⟩
 · have he : linedErr sh xs = lineErr sh := by simp [linedErr, h1]
   have HE := Lib.hid he; clear he
   have h3 : (lineErr sh != 0) = true := by simpa using h1
   have h4 : (lineErr sh == 0) = false := by simpa using h1
   go_enter Tryz.func97, Tryz.ntmps97
   go_wp2_with fail
   refine (checkLine_any ao sh cap _ HC.out hl).mono ?_
   rintro e w1 ⟨rfl, rfl⟩
   go_wp2
   go_ret
   exact ⟨ret_int HE.out.symm, Below.refl _ _⟩
theorem lineErr_zero {xs : List Int} (h : lineErr xs = 0) : 2 <= xs.length /\ xs.length <= 32 /\ sumL xs = 0 /\ ∀ x ∈ xs, -1000 <= x /\ x <= 1000 := by
 have h1 : lineOK xs = true := by
  cases e : lineOK xs
  · simp [lineErr, e] at h
  · rfl
 simp only [lineOK, inB, Bool.and_eq_true, decide_eq_true_eq, List.all_eq_true] at h1
 exact ⟨by omega, by omega, h1.2.2.1, h1.1⟩
theorem linedErr_zero {sh xs : List Int} (h : linedErr sh xs = 0) : lineErr sh = 0 /\ serErr xs = 0 := by
 by_cases h1 : lineErr sh = 0
 · exact ⟨h1, by simpa [linedErr, h1] using h⟩
 · simp [linedErr, h1] at h
def injAt (sh : List Int) (a : Int) (xs : List Int) (t : Nat) : Int := xs.getD t 0 + a * sh.getD (t % sh.length) 0
def inj (sh : List Int) (a : Int) (xs : List Int) (n : Nat) : List Int := (List.range n).map (injAt sh a xs)
theorem inj_length (sh : List Int) (a : Int) (xs : List Int) (n : Nat) : (inj sh a xs n).length = n := by simp [inj]
theorem inj_succ (sh : List Int) (a : Int) (xs : List Int) (n : Nat) : inj sh a xs (n + 1) = inj sh a xs n ++ [injAt sh a xs n] := by simp [inj, List.range_succ]
def injErr (sh : List Int) (a : Int) (xs : List Int) : Int :=
 if linedErr sh xs ≠ 0 then linedErr sh xs else if inB (-1000) a 1000 = false then 8 else if serOK (inj sh a xs xs.length) = false then 8 else 0
def injRes (sh : List Int) (a : Int) (xs : List Int) : List Int := if injErr sh a xs = 0 then inj sh a xs xs.length else []
theorem mul_bd {a x A X : Int} (h1 : -A <= a) (h2 : a <= A) (h3 : -X <= x) (h4 : x <= X) : -(A * X) <= a * x /\ a * x <= A * X := by
 have ha : a.natAbs <= A.natAbs := by omega
 have hx : x.natAbs <= X.natAbs := by omega
 have h := Nat.mul_le_mul ha hx
 rw [<- Int.natAbs_mul, <- Int.natAbs_mul] at h
 have : 0 <= A * X := Int.mul_nonneg (by omega) (by omega)
 omega
theorem Tryz.infoInt : (Tryz.prog.info? 3).map (fun i => (i.zero, i.size, i.bytes)) = some (some (.int .i64 0), 1, 8) := by kernel_rfl
set_option maxRecDepth 100000 in
set_option maxHeartbeats 1000000 in
theorem inject_any (ao : Option Addr) (sh : List Int) (cap : Nat) (a : Int) (ax : Option Addr) (xs : List Int) (cx : Nat) (w : World) (hc : Cells w ao (sh.map (Value.int .i64))) (hl : sh.length <= 17592186044416) (hx : Cells w ax (xs.map (Value.int .i64))) (hlx : xs.length <= 9223372036854775807) :
 Calls Tryz.prog 41 #[.slice ao sh.length cap, .int .i64 a, .slice ax xs.length cx] w fun e w' => (∃ b c, e = .returned (.tuple #[.slice b (injRes sh a xs).length c, .int .i64 (injErr sh a xs)]) /\ Cells w' b ((injRes sh a xs).map (Value.int .i64))) /\ Below w.heap.size w w' := by
 have HC := Lib.hid hc; clear hc
 have HX := Lib.hid hx; clear hx
 by_cases h1 : linedErr sh xs = 0
 · cases h2 : inB (-1000) a 1000
   · have he : injErr sh a xs = 8 := by simp [injErr, h1, h2]
     have hr : injRes sh a xs = [] := by simp [injRes, he]
     have HE := Lib.hid he; clear he
     have HR := Lib.hid hr; clear hr
     have H1 := Lib.hid h1; clear h1
     go_enter Tryz.func41, Tryz.ntmps41
     go_wp2_with fail
     refine (lined_any ao sh cap ax xs cx _ HC.out hl HX.out hlx).mono ?_
     rintro e w1 ⟨rfl, hb⟩
     rw [H1.out]
     go_wp2_with fail
     refine (within_any _ _ _ _).mono ?_
     rintro e w2 ⟨rfl, rfl⟩
     go_wp2
     go_ret2
     exact ⟨⟨none, 0, by rw [HE.out, HR.out]; rfl, by rw [HR.out]; exact Cells.nil _ _⟩, hb⟩
   · obtain ⟨hl1, hl2⟩ := linedErr_zero h1
     have l1 := lineErr_zero hl1
     have l2 := serErr_zero hl2
     obtain ⟨l11, l12, _, l13⟩ := l1
     obtain ⟨l21, l22⟩ := l2
     have ha : -1000 <= a /\ a <= 1000 := by simpa [inB] using h2
     obtain ⟨ha1, ha2⟩ := ha
     have he : injErr sh a xs = if serOK (inj sh a xs xs.length) = false then 8 else 0 := by simp [injErr, h1, h2]
     have HE := Lib.hid he; clear he
     have H1 := Lib.hid h1; clear h1
     have L13 := Lib.hid l13; clear l13
     have L22 := Lib.hid l22; clear l22
     have H2 := Lib.hid h2; clear h2
     clear hl1 hl2
     obtain ⟨i0, hi, hz0, hz1, hz2⟩ := info_parts Tryz.infoInt
     go_enter Tryz.func41, Tryz.ntmps41
     go_wp2_with fail
     refine (lined_any ao sh cap ax xs cx _ HC.out hl HX.out hlx).mono ?_
     rintro e w1 ⟨rfl, hb⟩
     rw [H1.out]
     go_wp2_with fail
     refine (within_any _ _ _ _).mono ?_
     rintro e w2 ⟨rfl, rfl⟩
     rw [H2.out]
     go_wp2
     go_loopw [9, 23] (fun v i wr => ∃ k : Nat, k <= xs.length /\ i = .int .i64 k /\ wr.ownsRow w.heap.size 3 1 v k ((inj sh a xs k).map (Value.int .i64)) /\ Below w.heap.size w wr) (fun _ i _ => xs.length - (intOf i).toNat)
     case atStart => exact ⟨0, Nat.zero_le _, rfl, World.ownsRow_nil _ _ _ _, hb⟩
     case round =>
      clear hb
      obtain ⟨k, hk, rfl, hown, hb⟩ := hrel
      by_cases hlt : k < xs.length
      · obtain ⟨x, hx⟩ := get_of_lt hlt
        have hm0 : k % sh.length < sh.length := Nat.mod_lt _ (by omega)
        obtain ⟨y, hy⟩ := get_of_lt hm0
        obtain ⟨b, off, rfl⟩ := HC.out.addr (by simpa using List.ne_nil_of_length_pos (by omega))
        obtain ⟨bx, ox, rfl⟩ := HX.out.addr (by simpa using List.ne_nil_of_length_pos (by omega))
        have c1 := cell_keep (HX.out.int hx) hb (Nat.le_refl _)
        have c2 := cell_keep (HC.out.int hy) hb (Nat.le_refl _)
        have t1 := L22.out _ (List.mem_of_getElem? hx)
        have t2 := L13.out _ (List.mem_of_getElem? hy)
        have p1 := mul_bd ha1 ha2 t2.1 t2.2
        obtain ⟨t11, t12⟩ := t1
        obtain ⟨p11, p12⟩ := p1
        have hat : injAt sh a xs k = x + a * y := by simp [injAt, hx, hy]
        have HAT := Lib.hid hat; clear hat hx hy
        have hsz := hb.size
        have HOB : Hid (∀ j, u9.ownBlock = some j -> w.heap.size <= j) := fun j e => (hown.lt j e).1
        go_wp2_with (at_builtin; refine wpList_append_own _ rfl _ _ 24 rfl w.heap.size 3 i0 (.int .i64 0) 1 8 Tryz.underlying24 hi hz0 hz1 hz2 rfl (by decide) _ _ _ rfl (hown.alloc _) ⟨wr.heap.size, 0, none⟩ 1 1 [.int .i64 (x + a * y)] rfl rfl (news1 _ _ _) (by simp [Value.oneCell']) (by unfold maxLen; omega) (by omega) (by simp; omega) ?_; intro v1 wz hown1 hgrow _)
        all_goals
         have hfin := hown1
         rw [show (inj sh a xs k).map (Value.int .i64) ++ [.int .i64 (x + a * y)] = (inj sh a xs (k + 1)).map (Value.int .i64) from by rw [inj_succ, List.map_append, HAT.out]; rfl] at hfin
         have hbz := (hb.alloc hsz (.cells #[.int .i64 (x + a * y)] 3)).grown hgrow (by simp; omega) HOB.out
         clear hown1 hgrow hown
         have HFIN := Lib.hid hfin; clear hfin
         go_wp2
         go_roundw
         case rel => exact ⟨k + 1, by omega, by go_num, HFIN.out, hbz⟩
         case measure => simp [intOf]; omega
      · obtain rfl : k = xs.length := by omega
        obtain ⟨g, c, rfl, hcs⟩ := own_cells hown
        have hli : (inj sh a xs xs.length).length = xs.length := inj_length _ _ _ _
        have HCS := Lib.hid hcs; clear hcs hown
        have hser := fun (wx : World) (h : Cells wx g ((inj sh a xs xs.length).map (Value.int .i64))) => seriesOK_any g (inj sh a xs xs.length) c wx h (by rw [hli]; omega)
        rw [hli] at hser
        have HL := Lib.hid hli; clear hli
        have HSER := Lib.hid hser; clear hser
        cases hok : serOK (inj sh a xs xs.length)
        · have he : injErr sh a xs = 8 := by rw [HE.out, hok]; rfl
          have hr : injRes sh a xs = [] := by simp [injRes, he]
          have HE2 := Lib.hid he; clear he
          have HR2 := Lib.hid hr; clear hr
          have HOK := Lib.hid hok; clear hok
          go_wp2_with fail
          refine (HSER.out _ HCS.out).mono ?_
          rintro e w2 ⟨rfl, hb2⟩
          rw [HOK.out]
          go_wp2
          go_ret2
          exact ⟨⟨none, 0, by rw [HE2.out, HR2.out]; rfl, by rw [HR2.out]; exact Cells.nil _ _⟩, hb.trans (hb2.mono hb.size)⟩
        · have he : injErr sh a xs = 0 := by rw [HE.out, hok]; rfl
          have hr : injRes sh a xs = inj sh a xs xs.length := by simp [injRes, he]
          have HE2 := Lib.hid he; clear he
          have HR2 := Lib.hid hr; clear hr
          have HOK := Lib.hid hok; clear hok
          go_wp2_with fail
          refine (HSER.out _ HCS.out).mono ?_
          rintro e w2 ⟨rfl, hb2⟩
          rw [HOK.out]
          go_wp2
          go_ret2
          exact ⟨⟨g, c, by rw [HE2.out, HR2.out, HL.out]; rfl, by rw [HR2.out]; exact HCS.out.below hb2 (Nat.le_refl _)⟩, hb.trans (hb2.mono hb.size)⟩
 · have he : injErr sh a xs = linedErr sh xs := by simp [injErr, h1]
   have hr : injRes sh a xs = [] := by simp [injRes, he, h1]
   have HE := Lib.hid he; clear he
   have HR := Lib.hid hr; clear hr
   have h3 : (linedErr sh xs != 0) = true := by simpa using h1
   have h4 : (linedErr sh xs == 0) = false := by simpa using h1
   go_enter Tryz.func41, Tryz.ntmps41
   go_wp2_with fail
   refine (lined_any ao sh cap ax xs cx _ HC.out hl HX.out hlx).mono ?_
   rintro e w1 ⟨rfl, hb⟩
   go_wp2
   go_ret2
   exact ⟨⟨none, 0, by rw [HE.out, HR.out]; rfl, by rw [HR.out]; exact Cells.nil _ _⟩, hb⟩
end Go.Proofs.YtdpjdifoonfcdaaGreatDoor

namespace Go.Proofs.YtdpjdifoonfcdaaGreatDoor
def B : Nat := 1000000000
def val : List Nat -> Nat
 | [] => 0
 | d :: ds => d + B * val ds
def dig (n : Nat) : List Nat := if n = 0 then [] else n % B :: dig (n / B)
termination_by n
decreasing_by exact Nat.div_lt_self (Nat.pos_of_ne_zero ‹_›) (by decide)
theorem B_pos : 0 < B := by decide
theorem dig_zero : dig 0 = [] := by rw [dig]; simp
theorem dig_pos {n : Nat} (h : n ≠ 0) : dig n = n % B :: dig (n / B) := by rw [dig]; simp [h]
theorem val_dig (n : Nat) : val (dig n) = n := by
 induction n using Nat.strongRecOn with
 | _ n ih =>
   by_cases h : n = 0
   · subst h; simp [dig_zero, val]
   · rw [dig_pos h, val, ih _ (Nat.div_lt_self (Nat.pos_of_ne_zero h) (by decide))]
     exact Nat.mod_add_div n B
def Sm (xs : List Nat) : Prop := ∀ d ∈ xs, d < B
theorem sm_dig (n : Nat) : Sm (dig n) := by
 induction n using Nat.strongRecOn with
 | _ n ih =>
   by_cases h : n = 0
   · subst h; simp [dig_zero, Sm]
   · rw [dig_pos h]
     intro d hd
     rcases List.mem_cons.1 hd with rfl | hd
     · exact Nat.mod_lt _ B_pos
     · exact ih _ (Nat.div_lt_self (Nat.pos_of_ne_zero h) (by decide)) d hd
theorem val_nil : val [] = 0 := rfl
theorem val_cons (d : Nat) (ds : List Nat) : val (d :: ds) = d + B * val ds := rfl
theorem val_append (xs ys : List Nat) : val (xs ++ ys) = val xs + B ^ xs.length * val ys := by
 induction xs with
 | nil => simp [val]
 | cons d ds ih => simp only [List.cons_append, val_cons, ih, List.length_cons, Nat.pow_succ]; rw [Nat.mul_add, Nat.add_assoc, Nat.mul_comm (B ^ ds.length) B, Nat.mul_assoc]
theorem val_snoc (xs : List Nat) (d : Nat) : val (xs ++ [d]) = val xs + B ^ xs.length * d := by
 rw [val_append]; simp [val]
theorem val_lt {xs : List Nat} (h : Sm xs) : val xs < B ^ xs.length := by
 induction xs with
 | nil => simp [val]
 | cons d ds ih =>
   have h1 : d < B := h d (by simp)
   have h2 := ih (fun x hx => h x (by simp [hx]))
   simp only [val_cons, List.length_cons, Nat.pow_succ]
   have : B * (val ds + 1) <= B * B ^ ds.length := Nat.mul_le_mul_left _ h2
   rw [Nat.mul_add, Nat.mul_one] at this
   rw [Nat.mul_comm (B ^ ds.length) B]; omega
theorem val_eq_zero {xs : List Nat} : val xs = 0 ↔ ∀ d ∈ xs, d = 0 := by
 induction xs with
 | nil => simp [val]
 | cons d ds ih =>
   simp only [val_cons, List.mem_cons, forall_eq_or_imp, <- ih]
   constructor
   · intro h
     have h1 : d = 0 := by omega
     have h2 : B * val ds = 0 := by omega
     refine ⟨h1, ?_⟩
     rcases Nat.mul_eq_zero.1 h2 with h | h
     · exact absurd h (by decide)
     · exact h
   · rintro ⟨rfl, h⟩; simp [h]
theorem dig_val {xs : List Nat} (h : Sm xs) (hl : xs.getLast? ≠ some 0) : dig (val xs) = xs := by
 induction xs with
 | nil => simp [val, dig_zero]
 | cons d ds ih =>
   have h1 : d < B := h d (by simp)
   have hs : Sm ds := fun x hx => h x (by simp [hx])
   have hne : val (d :: ds) ≠ 0 := by
    intro h0
    have h0' := val_eq_zero.1 h0
    have : ((d :: ds).getLast (by simp)) = 0 := h0' _ (List.getLast_mem _)
    exact hl (by rw [List.getLast?_eq_some_getLast (by simp), this])
   rw [dig_pos hne, val_cons]
   have e1 : (d + B * val ds) % B = d := by rw [Nat.add_mul_mod_self_left, Nat.mod_eq_of_lt h1]
   have e2 : (d + B * val ds) / B = val ds := by rw [Nat.add_mul_div_left _ _ B_pos, Nat.div_eq_of_lt h1, Nat.zero_add]
   rw [e1, e2, ih hs]
   cases ds with
   | nil => simp
   | cons x xs => simpa [List.getLast?_cons_cons] using hl
theorem last_dig (n : Nat) : (dig n).getLast? ≠ some 0 := by
 induction n using Nat.strongRecOn with
 | _ n ih =>
   by_cases h : n = 0
   · subst h; simp [dig_zero]
   · rw [dig_pos h]
     have := ih (n / B) (Nat.div_lt_self (Nat.pos_of_ne_zero h) (by decide))
     by_cases h2 : n / B = 0
     · rw [h2, dig_zero]; simp
       have h3 : n < B := by
        rcases Nat.div_eq_zero_iff.1 h2 with h | h
        · exact absurd h (by decide)
        · exact h
       rw [Nat.mod_eq_of_lt h3]; exact h
     · rw [dig_pos h2] at this ⊢
       simpa [List.getLast?_cons_cons] using this
theorem dig_len_pos {n : Nat} : (dig n).length = 0 ↔ n = 0 := by
 by_cases h : n = 0
 · subst h; simp [dig_zero]
 · rw [dig_pos h]; simp [h]
theorem dig_small {n : Nat} (h : n < B) (h0 : n ≠ 0) : dig n = [n] := by
 rw [dig_pos h0, Nat.mod_eq_of_lt h, Nat.div_eq_of_lt h, dig_zero]
theorem lt_pow_len (n : Nat) : n < B ^ (dig n).length := by
 have := val_lt (sm_dig n); rwa [val_dig] at this
theorem pow_len_le {n : Nat} (h : n ≠ 0) : B ^ ((dig n).length - 1) <= n := by
 induction n using Nat.strongRecOn with
 | _ n ih =>
   rw [dig_pos h]
   by_cases h2 : n / B = 0
   · rw [h2, dig_zero]; simp; omega
   · have := ih _ (Nat.div_lt_self (Nat.pos_of_ne_zero h) (by decide)) h2
     have hl : (dig (n / B)).length ≠ 0 := by rw [Ne, dig_len_pos]; exact h2
     simp only [List.length_cons, Nat.add_sub_cancel]
     obtain ⟨k, hk⟩ : ∃ k, (dig (n / B)).length = k + 1 := ⟨(dig (n/B)).length - 1, by omega⟩
     rw [hk, Nat.add_sub_cancel] at this
     rw [hk, Nat.pow_succ]
     calc B ^ k * B <= n / B * B := Nat.mul_le_mul_right _ this
      _ <= n := Nat.div_mul_le_self n B
theorem lt_of_len {m n : Nat} (h : (dig m).length < (dig n).length) : m < n := by
 have hn : n ≠ 0 := by rintro rfl; simp [dig_zero] at h
 have h1 := lt_pow_len m
 have h2 := pow_len_le hn
 have h3 : B ^ (dig m).length <= B ^ ((dig n).length - 1) := Nat.pow_le_pow_right B_pos (by omega)
 omega
theorem dig_len_mono {m n : Nat} (h : m <= n) : (dig m).length <= (dig n).length := by
 apply Nat.le_of_not_lt
 intro hc
 have := lt_of_len hc
 omega
end Go.Proofs.YtdpjdifoonfcdaaGreatDoor

namespace Go.Proofs.YtdpjdifoonfcdaaGreatDoor
theorem val_split {l : List Nat} {j x : Nat} (hx : l[j]? = some x) : val l = val (l.take j) + B ^ j * (x + B * val (l.drop (j + 1))) := by
 have hj : j < l.length := (List.getElem?_eq_some_iff.1 hx).1
 have h1 : l = l.take j ++ (x :: l.drop (j + 1)) := by
  have := (List.take_append_drop j l).symm
  rw [List.drop_eq_getElem_cons hj, (List.getElem?_eq_some_iff.1 hx).2] at this
  exact this
 have h2 := congrArg val h1
 rw [val_append, val_cons, List.length_take, Nat.min_eq_left (by omega)] at h2
 exact h2
theorem cmp_digit {l1 l2 : List Nat} (h1 : Sm l1) {j x y : Nat} (hx : l1[j]? = some x) (hy : l2[j]? = some y) (hd : l1.drop (j + 1) = l2.drop (j + 1)) (hlt : x < y) : val l1 < val l2 := by
 rw [val_split hx, val_split hy, hd]
 have hj : j < l1.length := (List.getElem?_eq_some_iff.1 hx).1
 have h3 : val (l1.take j) < B ^ j := by
  have := val_lt (xs := l1.take j) (fun d hd => h1 d (List.mem_of_mem_take hd))
  rwa [List.length_take, Nat.min_eq_left (by omega)] at this
 have h4 : B ^ j * (x + 1 + B * val (l2.drop (j + 1))) <= B ^ j * (y + B * val (l2.drop (j + 1))) := Nat.mul_le_mul_left _ (by omega)
 have h5 : B ^ j * (x + 1 + B * val (l2.drop (j + 1))) = B ^ j * (x + B * val (l2.drop (j + 1))) + B ^ j := by
  rw [show x + 1 + B * val (l2.drop (j + 1)) = (x + B * val (l2.drop (j + 1))) + 1 from by omega, Nat.mul_add, Nat.mul_one]
 omega
def cmpN (m n : Nat) : Int := if m < n then -1 else if n < m then 1 else 0
theorem cmpN_lt {m n : Nat} (h : m < n) : cmpN m n = -1 := by simp [cmpN, h]
theorem cmpN_gt {m n : Nat} (h : n < m) : cmpN m n = 1 := by simp [cmpN, h]; omega
theorem cmpN_eq (n : Nat) : cmpN n n = 0 := by simp [cmpN]
theorem short_step {H d x : Nat} (hd : 0 < d) : ((H % d) * B + x) / d + B * (H / d) = (x + B * H) / d /\ ((H % d) * B + x) % d = (x + B * H) % d := by
 have h : x + B * H = ((H % d) * B + x) + d * (B * (H / d)) := by
  have h1 : d * (H / d) + H % d = H := Nat.div_add_mod H d
  have h2 : B * H = B * (d * (H / d)) + B * (H % d) := by rw [<- Nat.mul_add, h1]
  rw [h2, Nat.mul_comm (H % d) B, Nat.mul_left_comm d B]; omega
 rw [h, Nat.add_mul_div_left _ _ hd, Nat.add_mul_mod_self_left]
 exact ⟨rfl, rfl⟩
theorem short_dig {r d x : Nat} (hr : r < d) (hx : x < B) : (r * B + x) / d < B := by
 apply Nat.div_lt_of_lt_mul
 have : (r + 1) * B <= d * B := Nat.mul_le_mul_right _ hr
 rw [Nat.add_mul] at this; omega
theorem dig_len_val {l : List Nat} (h : Sm l) : (dig (val l)).length <= l.length := by
 have h1 := val_lt h
 apply Nat.le_of_not_lt
 intro hc
 have hne : val l ≠ 0 := by
  intro h0; rw [h0, dig_zero] at hc; simp at hc
 have h2 := pow_len_le hne
 have h3 : B ^ l.length <= B ^ ((dig (val l)).length - 1) := Nat.pow_le_pow_right B_pos (by omega)
 omega
end Go.Proofs.YtdpjdifoonfcdaaGreatDoor

namespace Go.Proofs.YtdpjdifoonfcdaaGreatDoor
open Go.RowKit
def dgs (l : List Nat) : List Value := l.map fun d => Value.int .u64 (d : Nat)
theorem dgs_length (l : List Nat) : (dgs l).length = l.length := by simp [dgs]
theorem dgs_append (a b : List Nat) : dgs (a ++ b) = dgs a ++ dgs b := by simp [dgs]
theorem dgs_ne {l : List Nat} (h : 0 < l.length) : dgs l ≠ [] := by
 intro e; have := dgs_length l; rw [e] at this; simp at this; omega
theorem Cells.dgs {w : World} {b off : Nat} {l : List Nat} (h : Cells w (some ⟨b, off, none⟩) (dgs l)) {i d : Nat} (hd : l[i]? = some d) : w.cell? ⟨b, off + i, none⟩ = some (.int .u64 (d : Nat)) :=
 h.at (by simp [Go.Proofs.YtdpjdifoonfcdaaGreatDoor.dgs, hd])
theorem Cells.take {w : World} {ao : Option Addr} {cs : List Value} (h : Cells w ao cs) (n : Nat) : Cells w ao (cs.take n) := by
 rcases h with h | ⟨b, off, h1, h2⟩
 · exact .inl (by simp [h])
 · refine .inr ⟨b, off, h1, fun j u hu => h2 j u ?_⟩
   rw [List.getElem?_take] at hu
   split at hu
   · exact hu
   · simp at hu
theorem sm_get {l : List Nat} (h : Sm l) {i d : Nat} (hd : l[i]? = some d) : d <= 999999999 := by
 have := h d (List.mem_of_getElem? hd); simp only [B] at this; omega
theorem Tryz.infoU64 : (Tryz.prog.info? 208).map (fun i => (i.zero, i.size, i.bytes)) = some (some (.int .u64 0), 1, 8) := by kernel_rfl
theorem own_cap {w : World} {b : Nat} {e : TypeId} {s : Nat} {v : Value} {n : Nat} {xs : List Value} (h : w.ownsRow b e s v n xs) : ∃ a c, v = .slice a n c /\ Cells w a xs /\ n <= c /\ c <= maxLen := by
 obtain ⟨a, c, hv, hc⟩ := own_cells h
 obtain ⟨h0, h1⟩ := h
 rcases h1 with ⟨h2, h3⟩ | ⟨g, cap, cur, h2, hb, hg, hn, hm, hs, ht⟩
 · rw [h2] at hv; simp at hv
   obtain ⟨rfl, rfl, rfl⟩ := hv
   exact ⟨none, 0, h2, hc, by omega, by unfold maxLen; omega⟩
 · rw [h2] at hv; simp at hv
   obtain ⟨rfl, rfl⟩ := hv
   exact ⟨_, _, h2, hc, hn, hm⟩
theorem dig_len_u64 {n : Nat} (h : n < 18446744073709551616) : (dig n).length <= 3 := by
 apply Nat.le_of_not_lt
 intro hc
 have hn : n ≠ 0 := by rintro rfl; simp [dig_zero] at hc
 have h1 := pow_len_le hn
 have h2 : B ^ 3 <= B ^ ((dig n).length - 1) := Nat.pow_le_pow_right B_pos (by omega)
 have h3 : B ^ 3 = 1000000000000000000000000000 := by decide
 omega
set_option maxRecDepth 100000 in
theorem natural_any (n : Nat) (w : World) (hn : n < 18446744073709551616) :
 Calls Tryz.prog 112 #[.int .u64 (n : Nat)] w fun e w' => (∃ a c, e = .returned (.slice a (dig n).length c) /\ Cells w' a (dgs (dig n)) /\ (dig n).length <= c /\ c <= 9223372036854775807) /\ Below w.heap.size w w' := by
 obtain ⟨i0, hi, hz0, hz1, hz2⟩ := info_parts Tryz.infoU64
 have hlen := dig_len_u64 hn
 have hn1 : n <= 18446744073709551615 := by omega
 clear hn
 go_enter Tryz.func112, Tryz.ntmps112
 go_wp2
 go_loopw [3, 0] (fun v m wr => ∃ (ds : List Nat) (k : Nat), m = .int .u64 (k : Nat) /\ k <= n /\ dig n = ds ++ dig k /\ wr.ownsRow w.heap.size 208 1 v ds.length (dgs ds) /\ Below w.heap.size w wr) (fun _ m _ => (intOf m).toNat)
 case atStart => exact ⟨[], n, rfl, Nat.le_refl _, rfl, World.ownsRow_nil _ _ _ _, Below.refl _ _⟩
 case round =>
  obtain ⟨ds, k, rfl, hk, hds, hown, hb⟩ := hrel
  by_cases h0 : k = 0
  · subst h0
    rw [dig_zero, List.append_nil] at hds
    subst hds
    obtain ⟨g, c, rfl, hcs, hc1, hc2⟩ := own_cap hown
    unfold maxLen at hc2
    have HCS := Lib.hid hcs; clear hcs hown
    go_wp2
    go_ret
    exact ⟨⟨g, c, rfl, HCS.out, hc1, hc2⟩, hb⟩
  · have hkp : 0 < (k : Int) := by omega
    have hds2 : dig n = (ds ++ [k % B]) ++ dig (k / B) := by rw [hds, dig_pos h0]; simp
    have hle : ds.length <= 2 := by
     have := congrArg List.length hds2
     simp only [List.length_append, List.length_singleton] at this; omega
    have HDS := Lib.hid hds2; clear hds hds2 hlen
    have e1 : ((k : Int) % 1000000000) = ((k % B : Nat) : Int) := by simp [B]
    have e2 : ((k : Int) / 1000000000) = ((k / B : Nat) : Int) := by simp [B]
    have hlt : k / B < k := Nat.div_lt_self (by omega) (by decide)
    have HE1 := Lib.hid e1; have HE2 := Lib.hid e2; clear e1 e2
    have HOB : Hid (∀ j, u3.ownBlock = some j -> w.heap.size <= j) := fun j e => (hown.lt j e).1
    have hsz := hb.size
    go_wp2_with (at_builtin; refine wpList_append_own _ rfl _ _ 144 rfl w.heap.size 208 i0 (.int .u64 0) 1 8 Tryz.underlying144 hi hz0 hz1 hz2 rfl (by decide) _ _ _ rfl (hown.alloc _) ⟨wr.heap.size, 0, none⟩ 1 1 [.int .u64 ((k : Int) % 1000000000)] rfl rfl (news1 _ _ _) (by simp [Value.oneCell']) (by unfold maxLen; omega) (by omega) (by simp; omega) ?_; intro v1 wz hown1 hgrow _)
    have hfin := hown1
    rw [show dgs ds ++ [.int .u64 ((k : Int) % 1000000000)] = dgs (ds ++ [k % B]) from by rw [dgs_append, HE1.out]; rfl] at hfin
    have hbz := (hb.alloc hsz (.cells #[.int .u64 ((k : Int) % 1000000000)] 208)).grown hgrow (by simp; omega) HOB.out
    clear hown1 hgrow hown
    have HFIN := Lib.hid hfin; clear hfin
    go_wp2
    go_roundw
    case rel => exact ⟨ds ++ [k % B], k / B, by rw [HE2.out], by omega, HDS.out, by simpa using HFIN.out, hbz⟩
    case measure => simp only [intOf]; rw [HE2.out]; simp; omega
theorem val_take_zero {l : List Nat} {k : Nat} (h0 : l[k]? = some 0) : val (l.take (k + 1)) = val (l.take k) := by
 rw [take_get h0, val_snoc]; simp
def lenOf : Value -> Nat | .slice _ n _ => n | _ => 0
theorem lean_any (ao : Option Addr) (l : List Nat) (c : Nat) (w : World) (hc : Cells w ao (dgs l)) (hs : Sm l) (hl : l.length <= 9223372036854775807) (hcap : l.length <= c) (hc2 : c <= 9223372036854775807) :
 Calls Tryz.prog 222 #[.slice ao l.length c] w fun e w' => (e = .returned (.slice ao (dig (val l)).length c) /\ Cells w' ao (dgs (dig (val l)))) /\ w = w' := by
 have HC := Lib.hid hc; clear hc
 have HS := Lib.hid hs; clear hs
 go_enter Tryz.func222, Tryz.ntmps222
 go_wp2
 go_loop [0] (fun v => ∃ k : Nat, k <= l.length /\ v = .slice ao k c /\ val (l.take k) = val l) (fun v => lenOf v)
 case atStart => exact ⟨l.length, Nat.le_refl _, rfl, by rw [List.take_length]⟩
 case round =>
  obtain ⟨k, hk, rfl, hv⟩ := hrel
  by_cases h0 : k = 0
  · subst h0
    rw [List.take_zero, val_nil] at hv
    have hv2 : dig (val l) = [] := by rw [<- hv, dig_zero]
    have HV := Lib.hid hv2; clear hv hv2
    go_wp2
    go_ret
    exact ⟨⟨by rw [HV.out]; rfl, by rw [HV.out]; exact Cells.nil _ _⟩, rfl⟩
  · obtain ⟨j, rfl⟩ : ∃ j, k = j + 1 := ⟨k - 1, by omega⟩
    have hj : j < l.length := by omega
    obtain ⟨d, hd⟩ := get_of_lt hj
    obtain ⟨b, off, rfl⟩ := HC.out.addr (dgs_ne (by omega))
    have hcell := HC.out.dgs hd
    by_cases hd0 : d = 0
    · subst hd0
      have hv2 := val_take_zero hd
      rw [hv] at hv2
      have HV := Lib.hid hv2.symm; clear hv hv2 hd
      go_wp2
      go_round
      case rel => exact ⟨j, by omega, by go_num, HV.out⟩
      case measure => simp [lenOf]
    · have hdp : 0 < d := by omega
      have hne : ((d : Int) == 0) = false := by simp; omega
      have hlast : (l.take (j + 1)).getLast? ≠ some 0 := by rw [take_get hd]; simp; omega
      have hsm : Sm (l.take (j + 1)) := fun x hx => HS.out x (List.mem_of_mem_take hx)
      have hv2 : dig (val l) = l.take (j + 1) := by rw [<- hv, dig_val hsm hlast]
      have hl2 : (dig (val l)).length = j + 1 := by rw [hv2, List.length_take]; omega
      have hcs : Cells w (some ⟨b, off, none⟩) (dgs (dig (val l))) := by
       rw [hv2, dgs, List.map_take]; exact HC.out.take _
      have HL := Lib.hid hl2; have HCS := Lib.hid hcs; clear hv hv2 hl2 hcs hd hsm hlast
      go_wp2
      go_ret
      exact ⟨⟨by rw [HL.out]; rfl, HCS.out⟩, rfl⟩
theorem drop_of_len {l1 l2 : List Nat} (h : l1.length = l2.length) : l1.drop l1.length = l2.drop l1.length := by
 rw [List.drop_length, h, List.drop_length]
set_option maxRecDepth 100000 in
theorem compare_any (aa ab : Option Addr) (m n : Nat) (ca cb : Nat) (w : World) (ha : Cells w aa (dgs (dig m))) (hb : Cells w ab (dgs (dig n))) (hm : (dig m).length <= 4611686018427387904) (hn : (dig n).length <= 4611686018427387904) :
 Calls Tryz.prog 113 #[.slice aa (dig m).length ca, .slice ab (dig n).length cb] w fun e w' => e = .returned (.int .i64 (cmpN m n)) /\ Below w.heap.size w w' := by
 have HA := Lib.hid ha; clear ha
 have HB := Lib.hid hb; clear hb
 by_cases hlen : (dig m).length = (dig n).length
 · have h1 : (((dig m).length : Int) != (dig n).length) = false := by simp [hlen]
   have HL := Lib.hid hlen; clear hlen
   go_enter Tryz.func113, Tryz.ntmps113
   go_wp2
   go_loopw [5] (fun i wr => ∃ k : Nat, k <= (dig m).length /\ i = .int .i64 ((k : Int) - 1) /\ (dig m).drop k = (dig n).drop k /\ Below w.heap.size w wr) (fun i _ => (intOf i + 1).toNat)
   case atStart => exact ⟨(dig m).length, Nat.le_refl _, rfl, drop_of_len HL.out, Below.refl _ _⟩
   case round =>
    obtain ⟨k, hk, rfl, hd, hbe⟩ := hrel
    have HD := Lib.hid hd; clear hd
    by_cases h0 : k = 0
    · subst h0
      have he : cmpN m n = 0 := by
       have := HD.out
       simp only [List.drop_zero] at this
       have h2 := congrArg val this
       rw [val_dig, val_dig] at h2
       rw [h2, cmpN_eq]
      have HE := Lib.hid he; clear he
      go_wp2
      go_ret
      exact ⟨ret_int HE.out.symm, hbe⟩
    · obtain ⟨j, rfl⟩ : ∃ j, k = j + 1 := ⟨k - 1, by omega⟩
      have hj2 : j < (dig n).length := by have := HL.out; omega
      obtain ⟨x, hx⟩ := get_of_lt (show j < (dig m).length by omega)
      obtain ⟨y, hy⟩ := get_of_lt hj2
      obtain ⟨b, off, rfl⟩ := HA.out.addr (dgs_ne (by omega))
      obtain ⟨b2, off2, rfl⟩ := HB.out.addr (dgs_ne (by omega))
      have c1 := cell_keep (HA.out.dgs hx) hbe (Nat.le_refl _)
      have c2 := cell_keep (HB.out.dgs hy) hbe (Nat.le_refl _)
      have e1 : (((j + 1 : Nat) : Int) - 1) = (j : Int) := by omega
      rw [e1]
      have i1 : (j : Int) < (dig m).length := by omega
      have i2 : (j : Int) < (dig n).length := by omega
      have i3 : (0 : Int) <= j := by omega
      have hxy : x < y ∨ y < x ∨ x = y := by omega
      rcases hxy with hlt | hgt | heq
      · have he : cmpN m n = -1 := cmpN_lt (by have := cmp_digit (sm_dig m) hx hy HD.out hlt; rwa [val_dig, val_dig] at this)
        have HE := Lib.hid he; clear he hx hy e1
        have hne : ((x : Int) != y) = true := by simp; omega
        have hl : decide ((x : Int) < y) = true := by simp; omega
        go_wp2
        go_quiet (fail)
        go_wp2
        go_quiet (fail)
        go_wp2
        go_ret
        exact ⟨ret_int HE.out.symm, bel_drewN (bel_drewN hbe _) _⟩
      · have he : cmpN m n = 1 := cmpN_gt (by have := cmp_digit (sm_dig n) hy hx HD.out.symm hgt; rwa [val_dig, val_dig] at this)
        have HE := Lib.hid he; clear he hx hy e1
        have hne : ((x : Int) != y) = true := by simp; omega
        have hl : decide ((x : Int) < y) = false := by simp; omega
        go_wp2
        go_quiet (fail)
        go_wp2
        go_quiet (fail)
        go_wp2
        go_ret
        exact ⟨ret_int HE.out.symm, bel_drewN (bel_drewN hbe _) _⟩
      · subst heq
        have he : (dig m).drop j = (dig n).drop j := by
         rw [List.drop_eq_getElem_cons (show j < (dig m).length by omega), List.drop_eq_getElem_cons hj2, HD.out, (List.getElem?_eq_some_iff.1 hx).2, (List.getElem?_eq_some_iff.1 hy).2]
        have HE := Lib.hid he; clear he hx hy e1
        have hne : ((x : Int) != x) = false := by simp
        go_wp2
        go_quiet (fail)
        go_wp2
        go_roundw
        case rel => exact ⟨j, by omega, by go_num, HE.out, bel_drewN hbe _⟩
        case measure => simp [intOf]
 · rcases Nat.lt_or_gt_of_ne hlen with hlt | hgt
   · have he : cmpN m n = -1 := cmpN_lt (lt_of_len hlt)
     have HE := Lib.hid he; clear he
     have h1 : (((dig m).length : Int) != (dig n).length) = true := by simp; omega
     go_enter Tryz.func113, Tryz.ntmps113
     go_wp2
     go_ret
     exact ⟨ret_int HE.out.symm, Below.refl _ _⟩
   · have he : cmpN m n = 1 := cmpN_gt (lt_of_len hgt)
     have HE := Lib.hid he; clear he
     have h1 : (((dig m).length : Int) != (dig n).length) = true := by simp; omega
     have h2 : (dig n).length <= (dig m).length := by omega
     go_enter Tryz.func113, Tryz.ntmps113
     go_wp2
     go_ret
     exact ⟨ret_int HE.out.symm, Below.refl _ _⟩
end Go.Proofs.YtdpjdifoonfcdaaGreatDoor
