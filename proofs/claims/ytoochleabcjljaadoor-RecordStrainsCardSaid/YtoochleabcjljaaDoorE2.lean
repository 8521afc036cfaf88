/- Codes: sinks; way.write over whatever sink. -/
import Derived.Test.YtoochleabcjljaaDoorE1
import Derived.Deep.RegionWith
namespace Go.Proofs.YtoochleabcjljaaDoor
open Go.RowKit

/-- the lowest k bits of n, the highest one first -/
def binL (n : Int) : Nat → List Nat
  | 0 => []
  | k + 1 => (n / 2 ^ k % 2).toNat :: binL n k
theorem binL_length (n : Int) (k : Nat) : (binL n k).length = k := by
  induction k with
  | zero => rfl
  | succ k ih => simp [binL, ih]

/-- blocks in S, and those below B, are as they were -/
structure KeepS (S : Nat → Prop) (B : Nat) (w w' : World) : Prop where
  below : Below B w w'
  same : ∀ k, S k → w'.heap[k]? = w.heap[k]?
theorem KeepS.refl (S : Nat → Prop) (B : Nat) (w : World) : KeepS S B w w := ⟨Below.refl _ _, fun _ _ => rfl⟩
theorem KeepS.trans {S : Nat → Prop} {B : Nat} {a b c : World} (h : KeepS S B a b) (k : KeepS S B b c) : KeepS S B a c :=
  ⟨h.below.trans k.below, fun i hi => (k.same i hi).trans (h.same i hi)⟩
theorem KeepS.drew {S : Nat → Prop} {B : Nat} {a b : World} (h : KeepS S B a b) : KeepS S B a b.drew := ⟨h.below.drew, h.same⟩
theorem KeepS.mono {S S' : Nat → Prop} {B : Nat} {a b : World} (h : KeepS S B a b) (hs : ∀ k, S' k → S k) : KeepS S' B a b := ⟨h.below, fun k hk => h.same k (hs k hk)⟩
theorem KeepS.cell {S : Nat → Prop} {B : Nat} {w w' : World} (h : KeepS S B w w') {b i : Nat} {v : Value} (hb : S b) (hc : w.cell? ⟨b, i, none⟩ = some v) : w'.cell? ⟨b, i, none⟩ = some v := by
  rw [World.cell?_of_block (w := w) (a := ⟨b, i, none⟩) (h.same b hb)]; exact hc

/-- a sink of bits, by what it holds: 'St S w bs': bs has been put; the blocks of S are none of its own -/
structure SinkOK (T : TypeId) (pv : Value) (F : FuncId) (B : Nat) (St : (Nat → Prop) → World → List Nat → Prop) : Prop where
  alloc : ∀ S w bs o, St S w bs → St (fun k => S k ∨ k = w.heap.size) (w.alloc o) bs
  drew : ∀ S w bs, St S w bs → St S w.drew bs
  mono : ∀ (S S' : Nat → Prop) w bs, (∀ k, S' k → S k) → St S w bs → St S' w bs
  size : ∀ S w bs, St S w bs → B ≤ w.heap.size
  lt : ∀ (S : Nat → Prop) w bs k, St S w bs → S k → k < w.heap.size
  put : ∀ S w bs (n : Int) (k : Nat), St S w bs → 0 ≤ n → n ≤ 4294967295 → k ≤ 32 → bs.length ≤ 1099511627776 →
    Calls Tryd.prog F #[pv, .int .i64 n, .int .i64 (k : Nat)] w fun e w' => e = .returned (.tuple #[]) ∧ St S w' (bs ++ binL n k) ∧ KeepS S B w w'
  meth : ∀ w d, (method (d + 1) T pv "ringdown/record.put").run Tryd.prog w = .ok (F, pv) w
  ahead : ∀ w d, (nilAhead (d + 1) T pv "ringdown/record.put").run Tryd.prog w = .ok (some false) w
  enter : ∀ (vs : Array Value) (w : World), Sem.run Tryd.prog (callFunc F vs) w = .ok (.enter F vs) w

/-- the bits of a folded value; of a list -/
def encU (u : Int) (sh : Nat) : List Nat := if u / 2 ^ sh < 20 then binL (2 ^ ((u / 2 ^ sh).toNat + 1) - 2) ((u / 2 ^ sh).toNat + 1) ++ binL u sh else binL 1048575 20 ++ binL u 32
def encL (o sh : Nat) (l : List Int) : List Nat := binL o 2 ++ binL sh 5 ++ l.flatMap fun r => encU (foldU r) sh

theorem pow_bd (q : Nat) (h : q < 20) : (2 : Int) ≤ 2 ^ (q + 1) ∧ (2 : Int) ^ (q + 1) ≤ 1048576 := by
  have h1 : (2 : Nat) ^ 1 ≤ 2 ^ (q + 1) := Nat.pow_le_pow_right (by decide) (by omega)
  have h2 : (2 : Nat) ^ (q + 1) ≤ 2 ^ 20 := Nat.pow_le_pow_right (by decide) (by omega)
  have h3 : ((2 ^ (q + 1) : Nat) : Int) = (2 : Int) ^ (q + 1) := by simp
  have h4 : (2 : Nat) ^ 20 = 1048576 := by decide
  omega
theorem foldU_bd {r : Int} (h1 : -67108864 ≤ r) (h2 : r ≤ 67108864) : 0 ≤ foldU r ∧ foldU r ≤ 268435456 := by
  unfold foldU; split <;> omega
theorem encU_length (u : Int) (sh : Nat) (hs : sh ≤ 30) : (encU u sh).length ≤ 52 := by
  unfold encU
  split
  · rw [List.length_append, binL_length, binL_length]; omega
  · rw [List.length_append, binL_length, binL_length]; omega
theorem flat_length (l : List Int) (sh : Nat) (hs : sh ≤ 30) : (l.flatMap fun r => encU (foldU r) sh).length ≤ 52 * l.length := by
  induction l with
  | nil => simp
  | cons r l ih =>
    have := encU_length (foldU r) sh hs
    simp only [List.flatMap_cons, List.length_append, List.length_cons]; omega

set_option maxRecDepth 100000 in
set_option maxHeartbeats 1000000 in
theorem write_any {T : TypeId} {pv : Value} {F : FuncId} {B : Nat} {St : (Nat → Prop) → World → List Nat → Prop} (hk : SinkOK T pv F B St) (S : Nat → Prop) (o sh : Nat) (ho : o ≤ 3) (hsh : sh ≤ 30) (al : Option Addr) (l : List Int) (cl : Nat) (bs : List Nat) (w : World)
    (hst : St S w bs) (hl : ∀ b off, al = some ⟨b, off, none⟩ → l ≠ [] → S b) (hc : Cells w al (l.map (Value.int .i64))) (hlen : l.length ≤ 4096) (hbs : bs.length ≤ 1000000) (hr : ∀ r ∈ l, -67108864 ≤ r ∧ r ≤ 67108864) :
    Calls Tryd.prog 48 #[.agg #[.int .i64 (o : Nat), .int .i64 (sh : Nat)], .iface T pv, .slice al l.length cl] w fun e w' => e = .returned (.tuple #[]) ∧ St S w' (bs ++ encL o sh l) ∧ KeepS S B w w' := by
  have HK := Lib.hid hk; have HST := Lib.hid hst; have HC := Lib.hid hc; have HR := Lib.hid hr
  have hmeth := hk.meth
  have hen := hk.enter
  clear hk hst hc hr
  go_enter Tryd.func48, Tryd.ntmps48
  have hs1 := HK.out.alloc S w bs (.cells #[.int .i64 (o : Nat), .int .i64 (sh : Nat)] 94) HST.out
  have hsz0 := HK.out.size S w bs HST.out
  go_wp2_with fail
  refine (HK.out.put _ _ bs o 2 hs1 (by omega) (by omega) (by omega) (by omega)).mono ?_
  rintro e w1 ⟨rfl, hs2, hk1⟩
  have hbx : w1.cell? ⟨w.heap.size, 1, none⟩ = some (.int .i64 (sh : Nat)) := hk1.cell (.inr rfl) (by simp)
  have HS2 := Lib.hid hs2; clear hs1 hs2
  go_wp2_with fail
  refine (HK.out.put _ _ _ sh 5 HS2.out (by omega) (by omega) (by omega) (by rw [List.length_append, binL_length]; omega)).mono ?_
  rintro e w2 ⟨rfl, hs3, hk2⟩
  have hk3 := hk1.trans hk2
  have HS3 := Lib.hid hs3; clear hs3 hk1 hk2 hbx HS2
  go_wp2
  go_loopw [20] (fun i wr => ∃ k : Nat, k ≤ l.length ∧ i = .int .i64 k ∧ St (fun k => S k ∨ k = w.heap.size) wr (bs ++ binL o 2 ++ binL sh 5 ++ (l.take k).flatMap fun r => encU (foldU r) sh) ∧ KeepS (fun k => S k ∨ k = w.heap.size) B (w.alloc (.cells #[.int .i64 (o : Nat), .int .i64 (sh : Nat)] 94)) wr) (fun i _ => l.length - (intOf i).toNat)
  case atStart => exact ⟨0, Nat.zero_le _, rfl, by simpa using HS3.out, hk3⟩
  case round =>
    clear hk3 HS3
    obtain ⟨k, hk, rfl, hst, hks⟩ := hrel
    have hbx : wr.cell? ⟨w.heap.size, 1, none⟩ = some (.int .i64 (sh : Nat)) := hks.cell (.inr rfl) (by simp)
    have hfl := flat_length (l.take k) sh hsh
    rw [List.length_take, Nat.min_eq_left hk] at hfl
    by_cases hlt : k < l.length
    · obtain ⟨r, hx⟩ := get_of_lt hlt
      obtain ⟨r1, r2⟩ := HR.out r (List.mem_of_getElem? hx)
      have hne : l ≠ [] := by intro h; rw [h] at hlt; simp at hlt
      obtain ⟨bl, ol, rfl⟩ := HC.out.addr (by intro h; exact hne (List.map_eq_nil_iff.1 h))
      have hSb : S bl := hl bl ol rfl hne
      clear hl hne
      have hc1 : wr.cell? ⟨bl, ol + k, none⟩ = some (.int .i64 r) := hks.cell (.inl hSb) (by
        have h0 := HC.out.int hx
        have h1 := World.block_lt_of_cell? w _ h0
        rw [World.cell?_alloc_lt _ _ _ (by simpa using h1)]; exact h0)
      obtain ⟨u1, u2⟩ := foldU_bd r1 r2
      have hq0 : 0 ≤ foldU r / 2 ^ sh := Int.ediv_nonneg u1 (Int.le_of_lt (Int.pow_pos (by decide)))
      obtain ⟨qn, hqn⟩ := Int.eq_ofNat_of_zero_le hq0
      have ht : (l.take (k + 1)).flatMap (fun r => encU (foldU r) sh) = (l.take k).flatMap (fun r => encU (foldU r) sh) ++ encU (foldU r) sh := by
        rw [take_get hx, List.flatMap_append]; simp
      have HT := Lib.hid ht; have HS := Lib.hid hst
      clear ht hst hx hq0
      have hmin : min sh 64 = sh := by omega
      by_cases hq : foldU r / 2 ^ sh < 20
      · have hqn2 : qn < 20 := by omega
        have he : encU (foldU r) sh = binL (2 ^ (qn + 1) - 2) (qn + 1) ++ binL (foldU r) sh := by
          rw [encU, if_pos hq, hqn]; rfl
        have HE := Lib.hid he; clear he hq
        go_wp2_with fail
        refine (folded_any _ _ (by omega) (by omega)).mono ?_
        rintro e w1 ⟨rfl, rfl⟩
        obtain ⟨p1, p2⟩ := pow_bd qn hqn2
        have a1 : IntKind.i64.wrap ((qn : Int) + 1) = (qn : Int) + 1 := IntWalk.i64_in _ (by omega)
        have a2 : ((qn : Int) + 1).toNat = qn + 1 := by omega
        have a3 : min (qn + 1) 64 = qn + 1 := by omega
        have a4 : IntKind.i64.wrap (2 ^ (qn + 1)) = 2 ^ (qn + 1) := IntWalk.i64_in _ (by omega)
        have a5 : IntKind.i64.wrap (2 ^ (qn + 1) - 2) = 2 ^ (qn + 1) - 2 := IntWalk.i64_in _ (by omega)
        have a6 : (0 : Int) ≤ (qn : Int) + 1 := by omega
        have hah := HK.out.ahead
        go_wp2
        go_still_tail 10, (by kernel_rfl)
        change wpList _ _ _ _ _ wr.drew
        have hksd := hks.drew
        have HSd := Lib.hid (HK.out.drew _ _ _ HS.out)
        clear hbx hks HS a1 a2 a3 a4 a5 a6
        generalize wr.drew = wd at *
        have hp := HK.out.put _ wd _ (2 ^ (qn + 1) - 2) (qn + 1) HSd.out (by omega) (by omega) (by omega) (by simp only [List.length_append, binL_length]; omega)
        rw [show (((qn + 1 : Nat) : Int)) = (qn : Int) + 1 from by omega] at hp
        have HP := Lib.hid hp; clear hp
        go_wp2_with fail
        refine HP.out.mono ?_
        rintro e w3 ⟨rfl, hs3, hk3⟩
        have hks3 := hksd.trans hk3
        have hbx3 : w3.cell? ⟨w.heap.size, 1, none⟩ = some (.int .i64 (sh : Nat)) := hks3.cell (.inr rfl) (by simp)
        have HS3 := Lib.hid hs3
        have hp := HK.out.put _ w3 _ (foldU r) sh hs3 u1 (by omega) (by omega) (by simp only [List.length_append, binL_length]; omega)
        have HP2 := Lib.hid hp
        clear hp hs3 hk3 hksd
        go_wp2_with fail
        refine HP2.out.mono ?_
        rintro e w4 ⟨rfl, hs4, hk4⟩
        have hks4 := hks3.trans hk4
        have HS4 := Lib.hid hs4
        clear hs4 hk4 hks3 hbx3
        go_wp2
        go_roundw
        case rel => exact ⟨k + 1, by omega, by go_num, by rw [HT.out, HE.out]; simpa [List.append_assoc] using HS4.out, hks4⟩
        case measure => simp [intOf]; omega
      · have he : encU (foldU r) sh = binL 1048575 20 ++ binL (foldU r) 32 := by rw [encU, if_neg hq]
        have HE := Lib.hid he; clear he
        have hqn2 : ¬ ((qn : Int) < 20) := by omega
        clear hq
        go_wp2_with fail
        refine (folded_any _ _ (by omega) (by omega)).mono ?_
        rintro e w1 ⟨rfl, rfl⟩
        have hp := HK.out.put _ wr _ 1048575 20 HS.out (by omega) (by omega) (by omega) (by simp only [List.length_append, binL_length]; omega)
        have HP := Lib.hid hp; clear hp
        go_wp2_with fail
        refine HP.out.mono ?_
        rintro e w3 ⟨rfl, hs3, hk3⟩
        have hks3 := hks.trans hk3
        have hp := HK.out.put _ w3 _ (foldU r) 32 hs3 u1 (by omega) (by omega) (by simp only [List.length_append, binL_length]; omega)
        have HP2 := Lib.hid hp
        clear hp hs3 hk3 hks
        go_wp2_with fail
        refine HP2.out.mono ?_
        rintro e w4 ⟨rfl, hs4, hk4⟩
        have hks4 := hks3.trans hk4
        have HS4 := Lib.hid hs4
        clear hs4 hk4 hks3
        go_wp2
        go_roundw
        case rel => exact ⟨k + 1, by omega, by go_num, by rw [HT.out, HE.out]; simpa [List.append_assoc] using HS4.out, hks4⟩
        case measure => simp [intOf]; omega
    · obtain rfl : k = l.length := by omega
      rw [List.take_length] at hst
      have hst2 := HK.out.mono _ S _ _ (fun k h => .inl h) hst
      have HS := Lib.hid hst2
      have HW : Hid (KeepS S B w wr) := ⟨((Below.refl B w).alloc hsz0 _).trans hks.below, fun j hj => by
        rw [hks.same j (.inl hj), Below.heap_alloc _ _ _ (HK.out.lt S w bs j HST.out hj)]⟩
      clear hst hst2 hks hbx
      go_wp2
      go_end0
      exact ⟨rfl, by simpa [encL, List.append_assoc] using HS.out, HW.out⟩
end Go.Proofs.YtoochleabcjljaaDoor
