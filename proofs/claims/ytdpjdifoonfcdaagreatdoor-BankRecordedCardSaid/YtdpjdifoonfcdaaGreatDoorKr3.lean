/- Parts of a proof, in build order: Bs, Shelf, Bt, Bu, Bv, Bw, Tk, Bx, N4, N5. -/
import Derived.Test.YtdpjdifoonfcdaaGreatDoorKr2
import Derived.ChangeKeysEq
import Derived.Shelf.Strings.Builder1
import Derived.Shelf.Strings.Builder2
import Derived.Shelf.Small.Bits
import Derived.Shelf.Small.Wraps
import Derived.Shelf.Strings.BuilderF
import Derived.Shelf.Strings.BuilderK
import Derived.Shelf.Strings.Builder2Cap
import Derived.Shelf.Strconv.Itoa0
import Derived.Shelf.Strconv.Itoa1
import Derived.Shelf.LaysM
import Derived.Shelf.Strconv.Itoa2
import Derived.Shelf.Strings.Search1
import Derived.Shelf.Strings.Search2
import Derived.Shelf.Strings.Search3
import Derived.Shelf.Strings.Cut
import Derived.Shelf.Strings.Count
import Derived.Shelf.Strings.Shaped
import Derived.Shelf.Strings.Prefix
import Derived.Shelf.Bits.Mul64
import Derived.Shelf.Strings.Repeat
import Derived.Shelf.Unicode.DecodeSlow
import Derived.Shelf.Strings.BuilderCap
import Derived.Ground.Names2Prog
import Derived.Shelf.Slices.Clone
import Derived.Test.YtdpjdifoonfcdaaGreatDoorProg
import Derived.Deep.Quiet
import Derived.RangeFuncNested
import Derived.RangeFuncBound
import Derived.RangeFuncCalls
import Derived.RangeFuncLeaves
import Derived.Shelf.Abstract
import Derived.Shelf.RegionOpen
import Derived.WalkKit
import Derived.OwnWalkIn
import Derived.TacticsInMore
import Derived.LoopNIn
import Derived.LoopIn
import Derived.Deep.RegionHeld3
import Derived.Deep.RegionWith

namespace Go.Proofs.YtdpjdifoonfcdaaGreatDoor
open Go.RowKit
theorem run_eqItems_ints {P : Program} {w : World} (d : Nat) {e : TypeId} (he : P.underlying e = some (.int .i64)) (xs ys : List Int) : ∀ (is : List Nat), (∀ i ∈ is, i < xs.length /\ i < ys.length) ->
 (Op.eqItems (d + 1) e 1 (xs.map (Value.int .i64)).toArray (ys.map (Value.int .i64)).toArray is).run P w = .ok (is.all fun i => xs.getD i 0 == ys.getD i 0) w
 | [], _ => by simp [Op.eqItems]
 | i :: is, h => by
   obtain ⟨h1, h2⟩ := h i (by simp)
   have ih := run_eqItems_ints (w := w) d he xs ys is (fun j hj => h j (by simp [hj]))
   have px : (part e (xs.map (Value.int .i64)).toArray (i * 1)).run P w = .ok (.int .i64 (xs.getD i 0)) w := by
    simp [part, isAgg, run_underlying he, List.getD, List.getElem?_eq_getElem h1]
   have py : (part e (ys.map (Value.int .i64)).toArray (i * 1)).run P w = .ok (.int .i64 (ys.getD i 0)) w := by
    simp [part, isAgg, run_underlying he, List.getD, List.getElem?_eq_getElem h2]
   have pe := run_equalIn_int (P := P) w d e .i64 .i64 (xs.getD i 0) (ys.getD i 0) he
   simp only [Op.eqItems, Sem.run_bind, px, py, pe, Result.andThen_ok, List.all_cons]
   cases hb : (xs.getD i 0 == ys.getD i 0)
   · simp
   · simpa using ih
theorem all_range_ints : ∀ (xs ys : List Int), xs.length = ys.length -> ((List.range xs.length).all fun i => xs.getD i 0 == ys.getD i 0) = (xs == ys)
 | [], [], _ => rfl
 | x :: xs, y :: ys, h => by
   have ih := all_range_ints xs ys (by simpa using h)
   rw [List.length_cons, List.range_succ_eq_map, List.all_cons, List.all_map]
   simp only [List.getD_cons_zero, Function.comp_def, List.getD_cons_succ, ih]
   simp [List.cons_beq_cons]
 | [], _ :: _, h => by simp at h
 | _ :: _, [], h => by simp at h
theorem shp_extract (L : Int) (xs : List Int) (h : xs.length = 64) : (shp L xs).extract 1 65 = (xs.map (Value.int .i64)).toArray := by
 unfold shp
 rw [List.extract_toArray]
 congr 1
 simp only [List.extract, List.drop_succ_cons, List.drop_zero]
 exact List.take_of_length_le (by simp [h])
theorem infoI : ∃ i, Tryz.prog.info? 3 = some i /\ i.size = 1 := by
 have h : (Tryz.prog.info? 3).map (·.size) = some 1 := by kernel_rfl
 cases e : Tryz.prog.info? 3 with
 | none => rw [e] at h; simp at h
 | some i => rw [e] at h; exact ⟨i, rfl, by simpa using h⟩
theorem cells3 : Tryz.prog.cellsOf 3 = 1 := by kernel_rfl
theorem flds : Tryz.prog.underlying 129 = some (.struct (Tryz.prog.fieldsOf 129)) := by kernel_rfl
theorem stood : Tryz.prog.stoodInHeld 129 = false := Tryz.stoodInHeld129
theorem flds2 : ∃ f0 f1 : Field, (Tryz.prog.fieldsOf 129).toList = [f0, f1] /\ f0.name = "length" /\ f0.type = 3 /\ f0.offset = 0 /\ f1.name = "samples" /\ f1.type = 127 /\ f1.offset = 1 := by
 have e3 := TypeDesc.struct.inj (Option.some.inj (Tryz.underlying129.symm.trans flds))
 rw [<- e3]
 exact ⟨_, _, rfl, rfl, rfl, rfl, rfl, rfl, rfl⟩
theorem part3 (K : Int) (zs : List Int) (w : World) : (part 3 (shp K zs) 0).run Tryz.prog w = .ok (.int .i64 K) w := by
 have h : (shp K zs)[0]? = some (.int .i64 K) := shp_zero _ _
 simp only [part, Sem.run_bind, Tryz.isAgg3, Result.andThen_ok, Bool.false_eq_true, if_false, h, Sem.run_pure]
theorem part99 (K : Int) (zs : List Int) (h : zs.length = 64) (w : World) : (part 127 (shp K zs) 1).run Tryz.prog w = .ok (.agg (zs.map (Value.int .i64)).toArray) w := by
 have h1 := shp_extract K zs h
 simp only [part, Sem.run_bind, Tryz.isAgg127, Result.andThen_ok, if_true, Tryz.sizeOf127, Sem.run_pure]
 rw [show 1 + 64 = 65 from rfl, h1]
theorem arr_eqd (d : Nat) (xs ys : List Int) (hx : xs.length = 64) (hy : ys.length = 64) (w : World) :
 (Op.equalIn (d + 2) 127 (.agg (xs.map (Value.int .i64)).toArray) (.agg (ys.map (Value.int .i64)).toArray)).run Tryz.prog w = .ok (xs == ys) w := by
 obtain ⟨i, hi, his⟩ := infoI
 rw [run_equalIn_array w (d + 1) _ _ Tryz.underlying127 hi, cells3, run_eqItems_ints d Tryz.underlying3 xs ys _ (by intro i hi; simp at hi; omega), <- all_range_ints xs ys (by omega), hx]
theorem shape_eqd (d : Nat) (L M : Int) (xs ys : List Int) (hx : xs.length = 64) (hy : ys.length = 64) (w : World) :
 (Op.equalIn (d + 3) 129 (.agg (shp L xs)) (.agg (shp M ys))).run Tryz.prog w = .ok (L == M && xs == ys) w := by
 obtain ⟨f0, f1, hf, n0, t0, o0, n1, t1, o1⟩ := flds2
 have pe := run_equalIn_int (P := Tryz.prog) w (d + 1) 3 .i64 .i64 L M Tryz.underlying3
 have ha := arr_eqd d xs ys hx hy w
 rw [run_equalIn_struct w (d + 2) 129 _ _ flds stood, hf]
 have m0 : f0.name ≠ "_" := by rw [n0]; decide
 have m1 : f1.name ≠ "_" := by rw [n1]; decide
 simp only [Op.eqFields, m0, m1, ne_eq, not_false_eq_true, if_true, t0, t1, o0, o1, Sem.run_bind, part3, Result.andThen_ok, pe]
 cases hL : (L == M) <;> cases hX : (xs == ys) <;> simp [part99 _ _ hx, part99 _ _ hy, ha, hX]
theorem shape_eq (L M : Int) (xs ys : List Int) (hx : xs.length = 64) (hy : ys.length = 64) (w : World) :
 (Op.equalIn 10000 129 (.agg (shp L xs)) (.agg (shp M ys))).run Tryz.prog w = .ok (L == M && xs == ys) w := shape_eqd 9997 L M xs ys hx hy w
def silentB (xs : List Int) : Bool := xs == smp 0 0 0
set_option maxRecDepth 100000 in
theorem norm_any (L : Int) (xs : List Int) (w : World) (hx : xs.length = 64) (hL1 : 1 <= L) (hL : L <= 64) (h1 : ∀ x ∈ xs, -127 <= x /\ x <= 127) :
 Calls Tryz.prog 81 #[.agg (shp L xs)] w fun e w' => e = .returned (.int .i64 (ovl xs xs L 0)) /\ Below w.heap.size w w' := by
 have ho := fun w => overlap_any L L xs xs 0 w hx hx hL1 hL (by omega) (by omega) h1 h1
 have hi : (Tryz.prog.info? 129).map (·.size) = some (shp L xs).size := by rw [shp_size, hx]; kernel_rfl
 generalize shp L xs = V at ho hi
 have HI := Lib.hid hi; clear hi
 have HO := Lib.hid ho; clear ho
 go_enter Tryz.func81, Tryz.ntmps81
 go_wp2_with (first
  | (refine wpList_load_row (by rfl) 129 _ (by rfl) w.heap.size (by rfl) _ V _ _ (heap_alloc_new _ _) Tryz.underlying129 (by rfl) HI.out ?_)
  | (go_at_call 94; refine (HO.out _).mono ?_; rintro e w1 ⟨rfl, hb1⟩))
 go_ret
 exact ⟨rfl, ((Below.refl _ _).alloc (Nat.le_refl _) _).trans (hb1.mono (by simp))⟩
set_option maxRecDepth 100000 in
set_option maxHeartbeats 4000000 in
theorem silent_any (L : Int) (xs : List Int) (w : World) (hx : xs.length = 64) :
 Calls Tryz.prog 64 #[.agg (shp L xs)] w fun e w' => e = .returned (.bool (silentB xs)) /\ Below w.heap.size w w' := by
 have hq := fun w => shape_eq L L xs (smp 0 0 0) hx (smp_length _ _ _) w
 obtain ⟨Z, hZ⟩ : ∃ Z, Z = shp 0 (smp 0 0 0) := ⟨_, rfl⟩
 have z : Tryz.zeroCells129 = Z := by rw [hZ]; exact zero101
 have hZs : Z.size = 65 := by rw [hZ, shp_size, smp_length]
 have hZn : ¬ Z = #[] := by intro h; rw [h] at hZs; simp at hZs
 have hset : Z.setIfInBounds 0 (.int .i64 L) = shp L (smp 0 0 0) := by rw [hZ]; simp [shp]
 have h0 : (shp L xs)[0]? = some (.int .i64 L) := shp_zero _ _
 have hi : (Tryz.prog.info? 129).map (·.size) = some (shp L xs).size := by rw [shp_size, hx]; kernel_rfl
 rw [<- hset] at hq
 generalize shp L xs = V at hq hi h0
 have HI := Lib.hid hi; clear hi
 have HQ := Lib.hid hq
 have H0 := Lib.hid h0
 clear hZ hset
 have hc0 : (w.alloc (.cells V 129)).cell? ⟨w.heap.size, 0, none⟩ = some (.int .i64 L) := by simpa using h0
 clear h0
 go_enter Tryz.func64, Tryz.ntmps64
 go_wp2_with (first
  | (refine wpList_load_row (by rfl) 129 _ (by rfl) w.heap.size (by rfl) _ V _ _ (heap_alloc_new _ _) Tryz.underlying129 (by rfl) HI.out ?_))
 go_ret
 exact ⟨by simp [silentB], (Below.refl _ _).alloc (Nat.le_refl _) _⟩
end Go.Proofs.YtdpjdifoonfcdaaGreatDoor

namespace Go.Proofs
open Go.Shelf
def Tryz.lays169_ren : Go.Shelf.Ren := ⟨fun | 169 => 281 | n => n, fun | 70 => 380 | 9 => 9 | 0 => 0 | 72 => 382 | 37 => 109 | 127 => 409 | 3 => 3 | 5 => 5 | n => n, fun | n => n⟩
theorem Tryz.lays169 : Go.Proofs.Lays.n169 Tryz.prog Tryz.lays169_ren := {
 mixed := by kernel_rfl
 f169 := Tryz.func281.trans (congrArg some (by kernel_rfl))
 t0 := Tryz.underlying0
 a0 := Tryz.isAgg0
 z0 := Tryz.sizeOf0
 v0 := Tryz.zeroValue0
 t3 := Tryz.underlying3
 a3 := Tryz.isAgg3
 z3 := Tryz.sizeOf3
 v3 := Tryz.zeroValue3
 t9 := Tryz.underlying9
 a9 := Tryz.isAgg9
 z9 := Tryz.sizeOf9
 v9 := Tryz.zeroValue9
 t37 := Tryz.underlying109
 a37 := Tryz.isAgg109
 z37 := Tryz.sizeOf109
 v37 := Tryz.zeroValue109
 t70 := Tryz.underlying380
 a70 := Tryz.isAgg380
 z70 := Tryz.sizeOf380
 v70 := Tryz.zeroValue380
 t72 := Tryz.underlying382
 a72 := Tryz.isAgg382
 z72 := Tryz.sizeOf382
 v72 := Tryz.zeroValue382
 t127 := Tryz.underlying409
 a127 := Tryz.isAgg409
 z127 := Tryz.sizeOf409
 v127 := Tryz.zeroValue409 }
theorem Tryz.Builder_Extra_169 : Builder.Extra Tryz.prog Tryz.lays169_ren := {
 sizeBuilder := by kernel_rfl
 liesBuilder := by kernel_rfl
 t5 := Tryz.underlying5
 a5 := Tryz.isAgg5
 z5 := Tryz.sizeOf5
 v5 := Tryz.zeroValue5
 infoByte := by kernel_rfl
 cellsByte := by kernel_rfl
 sizeByte := by kernel_rfl
 neB5 := by decide }
open Go.RowKit in
theorem Tryz.Builder_String (B b : Nat) (l : List UInt8) (w : World) (h : Lib.IsBuilder 382 5 B b (Lib.byteCells l) w) (h0 : l ≠ []) :
 Calls Tryz.prog 281 #[.pointer (some ⟨b, 0, none⟩)] w fun e w' => e = .returned (.string ⟨l.toArray⟩) /\ Below B w w' := Any.Builder_String Tryz.lays169 Tryz.Builder_Extra_169 B b l w h h0
def Tryz.lays103_ren : Go.Shelf.Ren := ⟨fun | 103 => 243 | 210 => 271 | 206 => 270 | n => n, fun | 9 => 9 | 4 => 4 | 24 => 301 | 3 => 3 | n => n, fun | n => n⟩
theorem Tryz.lays103 : Go.Proofs.Lays.n103 Tryz.prog Tryz.lays103_ren := {
 mixed := by kernel_rfl
 f103 := Tryz.func243.trans (congrArg some (by kernel_rfl))
 f206 := Tryz.func270.trans (congrArg some (by kernel_rfl))
 f210 := Tryz.func271.trans (congrArg some (by kernel_rfl))
 t3 := Tryz.underlying3
 a3 := Tryz.isAgg3
 z3 := Tryz.sizeOf3
 v3 := Tryz.zeroValue3
 t4 := Tryz.underlying4
 a4 := Tryz.isAgg4
 z4 := Tryz.sizeOf4
 v4 := Tryz.zeroValue4
 t9 := Tryz.underlying9
 a9 := Tryz.isAgg9
 z9 := Tryz.sizeOf9
 v9 := Tryz.zeroValue9
 t24 := Tryz.underlying301
 a24 := Tryz.isAgg301
 z24 := Tryz.sizeOf301
 v24 := Tryz.zeroValue301 }
open Go.RowKit in
theorem Tryz.strings_CutPrefix (s p : ByteArray) (w : World) :
 Calls Tryz.prog 243 #[.string s, .string p] w fun e w' => e = .returned (.tuple #[.string ⟨(Lib.trimPrefix s.data.toList p.data.toList).toArray⟩, .bool (Lib.hasPrefix s.data.toList p.data.toList)]) /\ w' = w := Any.strings_CutPrefix Tryz.lays103 s p w
def Tryz.lays104_ren : Go.Shelf.Ren := ⟨fun | 104 => 197 | 211 => 241 | 207 => 269 | n => n, fun | 9 => 9 | 4 => 4 | 24 => 301 | 3 => 3 | n => n, fun | n => n⟩
theorem Tryz.lays104 : Go.Proofs.Lays.n104 Tryz.prog Tryz.lays104_ren := {
 mixed := by kernel_rfl
 f104 := Tryz.func197.trans (congrArg some (by kernel_rfl))
 f207 := Tryz.func269.trans (congrArg some (by kernel_rfl))
 f211 := Tryz.func241.trans (congrArg some (by kernel_rfl))
 t3 := Tryz.underlying3
 a3 := Tryz.isAgg3
 z3 := Tryz.sizeOf3
 v3 := Tryz.zeroValue3
 t4 := Tryz.underlying4
 a4 := Tryz.isAgg4
 z4 := Tryz.sizeOf4
 v4 := Tryz.zeroValue4
 t9 := Tryz.underlying9
 a9 := Tryz.isAgg9
 z9 := Tryz.sizeOf9
 v9 := Tryz.zeroValue9
 t24 := Tryz.underlying301
 a24 := Tryz.isAgg301
 z24 := Tryz.sizeOf301
 v24 := Tryz.zeroValue301 }
open Go.RowKit in
theorem Tryz.strings_CutSuffix (s p : ByteArray) (w : World) (hs : s.size <= 9223372036854775807) :
 Calls Tryz.prog 197 #[.string s, .string p] w fun e w' => e = .returned (.tuple #[.string ⟨(Lib.trimSuffix s.data.toList p.data.toList).toArray⟩, .bool (Lib.hasSuffix s.data.toList p.data.toList)]) /\ w' = w := Any.strings_CutSuffix Tryz.lays104 s p w hs
def Tryz.lays283_ren : Go.Shelf.Ren := ⟨fun | 283 => 305 | n => n, fun | 3 => 3 | 9 => 9 | 4 => 4 | n => n, fun | n => n⟩
theorem Tryz.lays283 : Go.Proofs.Lays.n283 Tryz.prog Tryz.lays283_ren := {
 mixed := by kernel_rfl
 f283 := Tryz.func305.trans (congrArg some (by kernel_rfl))
 t3 := Tryz.underlying3
 a3 := Tryz.isAgg3
 z3 := Tryz.sizeOf3
 v3 := Tryz.zeroValue3
 t4 := Tryz.underlying4
 a4 := Tryz.isAgg4
 z4 := Tryz.sizeOf4
 v4 := Tryz.zeroValue4
 t9 := Tryz.underlying9
 a9 := Tryz.isAgg9
 z9 := Tryz.sizeOf9
 v9 := Tryz.zeroValue9 }
open Go.Lib in
theorem Tryz.internal_strconv_small (i : Nat) (h : i < 100) (w : World) :
 Calls Tryz.prog 305 #[.int .i64 i] w fun e w' => e = .returned (.string ⟨(Lib.decDigits i).toArray⟩) /\ w' = w := Any.internal_strconv_small Tryz.lays283 i h w
def Tryz.laysM284_ren : Go.Shelf.Ren := ⟨fun | 284 => 306 | 129 => 268 | 317 => 330 | 318 => 331 | n => n, fun | 53 => 208 | 3 => 3 | 212 => 430 | 0 => 0 | 4 => 4 | 46 => 289 | 5 => 5 | 9 => 9 | n => n, fun | 17 => 3 | n => n⟩
theorem Tryz.laysM284 : Go.Proofs.LaysM.n284 Tryz.prog Tryz.laysM284_ren := {
 mixed := by kernel_rfl
 f129 := Tryz.func268.trans (congrArg some (by kernel_rfl))
 f284 := Tryz.func306.trans (congrArg some (by kernel_rfl))
 f317 := Tryz.func330.trans (congrArg some (by kernel_rfl))
 f318 := Tryz.func331.trans (congrArg some (by kernel_rfl))
 t0 := Tryz.underlying0
 a0 := Tryz.isAgg0
 z0 := Tryz.sizeOf0
 v0 := Tryz.zeroValue0
 t3 := Tryz.underlying3
 a3 := Tryz.isAgg3
 z3 := Tryz.sizeOf3
 v3 := Tryz.zeroValue3
 t4 := Tryz.underlying4
 a4 := Tryz.isAgg4
 z4 := Tryz.sizeOf4
 v4 := Tryz.zeroValue4
 t5 := Tryz.underlying5
 a5 := Tryz.isAgg5
 z5 := Tryz.sizeOf5
 v5 := Tryz.zeroValue5
 t9 := Tryz.underlying9
 a9 := Tryz.isAgg9
 z9 := Tryz.sizeOf9
 v9 := Tryz.zeroValue9
 t46 := Tryz.underlying289
 a46 := Tryz.isAgg289
 z46 := Tryz.sizeOf289
 v46 := Tryz.zeroValue289
 t53 := Tryz.underlying208
 a53 := Tryz.isAgg208
 z53 := Tryz.sizeOf208
 v53 := Tryz.zeroValue208
 t212 := Tryz.underlying430
 a212 := Tryz.isAgg430
 z212 := Tryz.sizeOf430
 v212 := Tryz.zeroValue430
 g17 := by kernel_rfl
 i0 := by kernel_rfl
 i3 := by kernel_rfl
 i4 := by kernel_rfl
 i5 := by kernel_rfl
 i9 := by kernel_rfl
 i46 := by kernel_rfl
 i53 := by kernel_rfl
 i212 := by kernel_rfl
 m17 := by kernel_rfl }
open Go.Lib in
theorem Tryz.internal_strconv_numDigits (u : Nat) (h1 : 1 <= u) (h2 : u < 18446744073709551616) (w : World) (htab : Lib.TabIs Tryz.prog w "internal/strconv.uint64pow10" .u64 Lib.pow10Tab) :
 Calls Tryz.prog 306 #[.int .u64 u] w fun e w' => e = .returned (.int .i64 (Lib.nDigits u)) /\ w' = w := Any.internal_strconv_numDigits Tryz.laysM284 u h1 h2 w htab
def Tryz.lays285_ren : Go.Shelf.Ren := ⟨fun | 285 => 307 | n => n, fun | 37 => 109 | 53 => 208 | 3 => 3 | 4 => 4 | 51 => 370 | 9 => 9 | 5 => 5 | 0 => 0 | n => n, fun | n => n⟩
theorem Tryz.lays285 : Go.Proofs.Lays.n285 Tryz.prog Tryz.lays285_ren := {
 mixed := by kernel_rfl
 f285 := Tryz.func307.trans (congrArg some (by kernel_rfl))
 t0 := Tryz.underlying0
 a0 := Tryz.isAgg0
 z0 := Tryz.sizeOf0
 v0 := Tryz.zeroValue0
 t3 := Tryz.underlying3
 a3 := Tryz.isAgg3
 z3 := Tryz.sizeOf3
 v3 := Tryz.zeroValue3
 t4 := Tryz.underlying4
 a4 := Tryz.isAgg4
 z4 := Tryz.sizeOf4
 v4 := Tryz.zeroValue4
 t5 := Tryz.underlying5
 a5 := Tryz.isAgg5
 z5 := Tryz.sizeOf5
 v5 := Tryz.zeroValue5
 t9 := Tryz.underlying9
 a9 := Tryz.isAgg9
 z9 := Tryz.sizeOf9
 v9 := Tryz.zeroValue9
 t37 := Tryz.underlying109
 a37 := Tryz.isAgg109
 z37 := Tryz.sizeOf109
 v37 := Tryz.zeroValue109
 t51 := Tryz.underlying370
 a51 := Tryz.isAgg370
 z51 := Tryz.sizeOf370
 v51 := Tryz.zeroValue370
 t53 := Tryz.underlying208
 a53 := Tryz.isAgg208
 z53 := Tryz.sizeOf208
 v53 := Tryz.zeroValue208 }
open Go.RowKit Go.Sort Go.Lib in
theorem Tryz.internal_strconv_formatBase10 (blk off cap : Nat) (u : Nat) (d : Array UInt8) (w : World) (hH : Holds (fun (b : UInt8) => Value.int .u8 (b.toNat : Int)) w blk off d) (hu : u < 10 ^ d.size) (hu64 : u < 18446744073709551616) (hsz : d.size < 4611686018427387904) :
 Calls Tryz.prog 307 #[.slice (some ⟨blk, off, none⟩) d.size cap, .int .u64 u] w fun e w' =>
  e = .returned (.tuple #[]) /\ ∃ (n v' : Nat) (dk : Array UInt8), w' = (putRow (fun (b : UInt8) => Value.int .u8 (b.toNat : Int)) w blk off dk).drewN n /\ FmtInv d.size u 0 v' dk := Any.internal_strconv_formatBase10 Tryz.lays285 blk off cap u d w hH hu hu64 hsz
def Tryz.lays219_ren : Go.Shelf.Ren := ⟨fun | 219 => 272 | 217 => 295 | 225 => 296 | 224 => 297 | 267 => 298 | 266 => 322 | 314 => 323 | n => n, fun | 9 => 9 | 3 => 3 | 4 => 4 | 5 => 5 | 46 => 289 | 146 => 421 | 51 => 370 | n => n, fun | 1 => 0 | n => n⟩
theorem Tryz.lays219 : Go.Proofs.Lays.n219 Tryz.prog Tryz.lays219_ren := {
 mixed := by kernel_rfl
 f217 := Tryz.func295.trans (congrArg some (by kernel_rfl))
 f219 := Tryz.func272.trans (congrArg some (by kernel_rfl))
 f224 := Tryz.func297.trans (congrArg some (by kernel_rfl))
 f225 := Tryz.func296.trans (congrArg some (by kernel_rfl))
 f266 := Tryz.func322.trans (congrArg some (by kernel_rfl))
 f267 := Tryz.func298.trans (congrArg some (by kernel_rfl))
 f314 := Tryz.func323.trans (congrArg some (by kernel_rfl))
 t3 := Tryz.underlying3
 a3 := Tryz.isAgg3
 z3 := Tryz.sizeOf3
 v3 := Tryz.zeroValue3
 t4 := Tryz.underlying4
 a4 := Tryz.isAgg4
 z4 := Tryz.sizeOf4
 v4 := Tryz.zeroValue4
 t5 := Tryz.underlying5
 a5 := Tryz.isAgg5
 z5 := Tryz.sizeOf5
 v5 := Tryz.zeroValue5
 t9 := Tryz.underlying9
 a9 := Tryz.isAgg9
 z9 := Tryz.sizeOf9
 v9 := Tryz.zeroValue9
 t46 := Tryz.underlying289
 a46 := Tryz.isAgg289
 z46 := Tryz.sizeOf289
 v46 := Tryz.zeroValue289
 t51 := Tryz.underlying370
 a51 := Tryz.isAgg370
 z51 := Tryz.sizeOf370
 v51 := Tryz.zeroValue370
 t146 := Tryz.underlying421
 a146 := Tryz.isAgg421
 z146 := Tryz.sizeOf421
 v146 := Tryz.zeroValue421
 g1 := by kernel_rfl }
open Go.RowKit Go.Lib in
theorem Tryz.stringslite_Index_one (s : ByteArray) (c : UInt8) (w : World) :
 Calls Tryz.prog 272 #[.string s, .string ⟨#[c]⟩] w fun e w' => e = .returned (.int .i64 (Lib.indexByte s.data.toList c)) /\ w' = w := Any.stringslite_Index_one Tryz.lays219 s c w
def Tryz.lays105_ren : Go.Shelf.Ren := ⟨fun | 105 => 280 | 212 => 310 | 99 => 311 | 165 => 312 | 166 => 279 | 170 => 313 | 169 => 281 | 263 => 335 | 264 => 336 | 206 => 270 | 240 => 309 | 241 => 337 | 276 => 334 | 277 => 350 | n => n, fun | 9 => 9 | 3 => 3 | 4 => 4 | 20 => 20 | 0 => 0 | 46 => 289 | 109 => 407 | 5 => 5 | 72 => 382 | 76 => 330 | 51 => 370 | 146 => 421 | 53 => 208 | 148 => 435 | 70 => 380 | 37 => 109 | 75 => 329 | 127 => 409 | 164 => 432 | 80 => 251 | n => n, fun | n => n⟩
theorem Tryz.lays105 : Go.Proofs.Lays.n105 Tryz.prog Tryz.lays105_ren := {
 mixed := by kernel_rfl
 f99 := Tryz.func311.trans (congrArg some (by kernel_rfl))
 f105 := Tryz.func280.trans (congrArg some (by kernel_rfl))
 f165 := Tryz.func312.trans (congrArg some (by kernel_rfl))
 f166 := Tryz.func279.trans (congrArg some (by kernel_rfl))
 f169 := Tryz.func281.trans (congrArg some (by kernel_rfl))
 f170 := Tryz.func313.trans (congrArg some (by kernel_rfl))
 f206 := Tryz.func270.trans (congrArg some (by kernel_rfl))
 f212 := Tryz.func310.trans (congrArg some (by kernel_rfl))
 f240 := Tryz.func309.trans (congrArg some (by kernel_rfl))
 f241 := Tryz.func337.trans (congrArg some (by kernel_rfl))
 f263 := Tryz.func335.trans (congrArg some (by kernel_rfl))
 f264 := Tryz.func336.trans (congrArg some (by kernel_rfl))
 f276 := Tryz.func334.trans (congrArg some (by kernel_rfl))
 f277 := Tryz.func350.trans (congrArg some (by kernel_rfl))
 t0 := Tryz.underlying0
 a0 := Tryz.isAgg0
 z0 := Tryz.sizeOf0
 v0 := Tryz.zeroValue0
 t3 := Tryz.underlying3
 a3 := Tryz.isAgg3
 z3 := Tryz.sizeOf3
 v3 := Tryz.zeroValue3
 t4 := Tryz.underlying4
 a4 := Tryz.isAgg4
 z4 := Tryz.sizeOf4
 v4 := Tryz.zeroValue4
 t5 := Tryz.underlying5
 a5 := Tryz.isAgg5
 z5 := Tryz.sizeOf5
 v5 := Tryz.zeroValue5
 t9 := Tryz.underlying9
 a9 := Tryz.isAgg9
 z9 := Tryz.sizeOf9
 v9 := Tryz.zeroValue9
 t20 := Tryz.underlying20
 a20 := Tryz.isAgg20
 z20 := Tryz.sizeOf20
 v20 := Tryz.zeroValue20
 t37 := Tryz.underlying109
 a37 := Tryz.isAgg109
 z37 := Tryz.sizeOf109
 v37 := Tryz.zeroValue109
 t46 := Tryz.underlying289
 a46 := Tryz.isAgg289
 z46 := Tryz.sizeOf289
 v46 := Tryz.zeroValue289
 t51 := Tryz.underlying370
 a51 := Tryz.isAgg370
 z51 := Tryz.sizeOf370
 v51 := Tryz.zeroValue370
 t53 := Tryz.underlying208
 a53 := Tryz.isAgg208
 z53 := Tryz.sizeOf208
 v53 := Tryz.zeroValue208
 t70 := Tryz.underlying380
 a70 := Tryz.isAgg380
 z70 := Tryz.sizeOf380
 v70 := Tryz.zeroValue380
 t72 := Tryz.underlying382
 a72 := Tryz.isAgg382
 z72 := Tryz.sizeOf382
 v72 := Tryz.zeroValue382
 t75 := Tryz.underlying329
 a75 := Tryz.isAgg329
 z75 := Tryz.sizeOf329
 v75 := Tryz.zeroValue329
 t76 := Tryz.underlying330
 a76 := Tryz.isAgg330
 z76 := Tryz.sizeOf330
 v76 := Tryz.zeroValue330
 t109 := Tryz.underlying407
 a109 := Tryz.isAgg407
 z109 := Tryz.sizeOf407
 v109 := Tryz.zeroValue407
 t127 := Tryz.underlying409
 a127 := Tryz.isAgg409
 z127 := Tryz.sizeOf409
 v127 := Tryz.zeroValue409
 t146 := Tryz.underlying421
 a146 := Tryz.isAgg421
 z146 := Tryz.sizeOf421
 v146 := Tryz.zeroValue421
 t148 := Tryz.underlying435
 a148 := Tryz.isAgg435
 z148 := Tryz.sizeOf435
 v148 := Tryz.zeroValue435
 t164 := Tryz.underlying432
 a164 := Tryz.isAgg432
 z164 := Tryz.sizeOf432
 v164 := Tryz.zeroValue432 }
theorem Tryz.Builder_Extra_105 : Builder.Extra Tryz.prog Tryz.lays105_ren := {
 sizeBuilder := by kernel_rfl
 liesBuilder := by kernel_rfl
 t5 := Tryz.underlying5
 a5 := Tryz.isAgg5
 z5 := Tryz.sizeOf5
 v5 := Tryz.zeroValue5
 infoByte := by kernel_rfl
 cellsByte := by kernel_rfl
 sizeByte := by kernel_rfl
 neB5 := by decide }
open Go.RowKit Go.Lib in
theorem Tryz.strings_Repeat (s : ByteArray) (c : Nat) (w : World) (hc : c <= 9223372036854775807) (hlen : s.size * c <= 140737488355328) :
 Calls Tryz.prog 280 #[.string s, .int .i64 c] w fun e w' => e = .returned (.string ⟨(Lib.repeatL s.data.toList c).toArray⟩) /\ Below w.heap.size w w' := Any.strings_Repeat Tryz.lays105 Tryz.Builder_Extra_105 s c w hc hlen
def Tryz.laysNm215_ren : Go.Shelf.Ren := ⟨fun | 15 => 165 | n => n, fun | 22 => 24 | 3 => 3 | 4 => 4 | n => n, fun | n => n⟩
theorem Tryz.laysNm215 : Go.Proofs.Lays2.n15 Tryz.prog Tryz.laysNm215_ren := {
 mixed := by kernel_rfl
 f15 := Tryz.func165.trans (congrArg some (by kernel_rfl))
 t3 := Tryz.underlying3
 a3 := Tryz.isAgg3
 z3 := Tryz.sizeOf3
 v3 := Tryz.zeroValue3
 t4 := Tryz.underlying4
 a4 := Tryz.isAgg4
 z4 := Tryz.sizeOf4
 v4 := Tryz.zeroValue4
 t22 := Tryz.underlying24
 a22 := Tryz.isAgg24
 z22 := Tryz.sizeOf24
 v22 := Tryz.zeroValue24
 i3 := by kernel_rfl }
open Go.RowKit Go.Lib in
theorem Tryz.slices_Clone_int (b off n c : Nat) (zs : List Int) (w : World) (hz : n <= zs.length) (hbig : n * 8 <= 140737488355328) (hc : ∀ j, j < zs.length -> w.cell? ⟨b, off + j, none⟩ = some (.int .i64 (zs.getD j 0))) :
 Calls Tryz.prog 165 #[.slice (some ⟨b, off, none⟩) n c] w fun e w' => ∃ v', e = .returned v' /\ w'.ownsRow w.heap.size 3 1 v' n ((zs.take n).map (Value.int .i64)) /\ v' ≠ .slice none 0 0 /\ Below w.heap.size w w' := Any.slices_Clone_int Tryz.laysNm215 b off n c zs w hz hbig hc
open Go.RowKit Go.Lib in
theorem Tryz.slices_Clone_int_nil (n c : Nat) (w : World) :
 Calls Tryz.prog 165 #[.slice none n c] w fun e w' => e = .returned (.slice none 0 0) /\ w' = w := Any.slices_Clone_int_nil Tryz.laysNm215 n c w
open Go.RowKit Go.Lib in
theorem Tryz.slices_Clone_int_zero (a : Addr) (c : Nat) (w : World) :
 Calls Tryz.prog 165 #[.slice (some a) 0 c] w fun e w' => ∃ v', e = .returned v' /\ w'.ownsRow w.heap.size 3 1 v' 0 [] /\ v' ≠ .slice none 0 0 /\ Below w.heap.size w w' := Any.slices_Clone_int_zero Tryz.laysNm215 a c w
end Go.Proofs

namespace Go.Proofs.YtdpjdifoonfcdaaGreatDoor
open Go.RowKit
theorem run_sliceAt_to {P : Program} {w : World} (t e : TypeId) (n : Nat) (a : Addr) (k : Nat) (h : P.underlying t = some (.array n e)) (hs : (sizeOf e).run P w = .ok 1 w) (hk : k <= n) :
 (Instr.sliceAt t (.pointer (some a)) none (some (.int .i64 k)) none).run P w = .ok (.slice (some (a.add 0)) k n) w := by
 have hb : ∀ code, (Instr.sliceBound (.int .i64 (k : Int)) n code).run P w = .ok k w := fun code => by
  rw [run_sliceBound _ _ _ _ _ (by omega) (by omega)]; simp
 simp [Instr.sliceAt, run_underlying h, Instr.sureAddr, Instr.sliceBounds, hb, hs, go_sem]
theorem run_sliceAt_mid {P : Program} {w : World} (t e : TypeId) (n : Nat) (a : Addr) (i k : Nat) (h : P.underlying t = some (.array n e)) (hs : (sizeOf e).run P w = .ok 1 w) (hi : i <= k) (hin : i < n) (hk : k <= n) :
 (Instr.sliceAt t (.pointer (some a)) (some (.int .i64 i)) (some (.int .i64 k)) none).run P w = .ok (.slice (some (a.add i)) (k - i) (n - i)) w := by
 have hb : ∀ code, (Instr.sliceBound (.int .i64 (k : Int)) n code).run P w = .ok k w := fun code => by
  rw [run_sliceBound _ _ _ _ _ (by omega) (by omega)]; simp
 have hn0 : ¬ n = i := by omega
 simp [Instr.sliceAt, run_underlying h, Instr.sureAddr, Instr.sliceBounds, hb, hs, hn0, go_sem]
 intro h'
 omega
set_option maxRecDepth 100000 in
set_option maxHeartbeats 4000000 in
theorem list_any (L : Nat) (xs : List Int) (w : World) (hx : xs.length = 64) (hL : L <= 64) :
 Calls Tryz.prog 93 #[.agg (shp L xs)] w fun e w' => (∃ b c, e = .returned (.slice b L c) /\ Cells w' b ((xs.take L).map (Value.int .i64))) /\ Below w.heap.size w w' := by
 have hcell : ∀ i x, xs[i]? = some x -> (shp L xs)[1 + i]? = some (.int .i64 x) := shp_succ L xs
 have h0 : (shp L xs)[0]? = some (.int .i64 L) := shp_zero _ _
 generalize shp L xs = V at hcell h0
 have hc0 : (w.alloc (.cells V 129)).cell? ⟨w.heap.size, 0, none⟩ = some (.int .i64 L) := by simpa using h0
 have hcl := Tryz.slices_Clone_int w.heap.size 1 L 64 xs (w.alloc (.cells V 129)) (by omega) (by omega) (fun j hj => by
  obtain ⟨x, hxx⟩ := get_of_lt hj
  rw [cell_of_row _ _ _ _ _ _ (heap_alloc_new _ _), hcell j x hxx]
  simp [List.getD_eq_getElem?_getD, hxx])
 have HCL := Lib.hid hcl; clear hcl
 have hsl := run_sliceAt_to (P := Tryz.prog) (w := w.alloc (.cells V 129)) 127 3 64 ⟨w.heap.size, 1, none⟩ L Tryz.underlying127 (Tryz.sizeOf3 _) hL
 rw [show (⟨w.heap.size, 1, none⟩ : Addr).add 0 = ⟨w.heap.size, 1, none⟩ from rfl] at hsl
 clear hcell h0
 go_enter Tryz.func93, Tryz.ntmps93
 go_wp2_with (go_at_call 165; refine HCL.out.mono ?_; rintro e w1 ⟨v, rfl, hown, _, hb⟩)
 obtain ⟨g, c, rfl, hcs⟩ := own_cells hown
 have HCS := Lib.hid hcs; clear hcs hown
 go_ret
 exact ⟨⟨g, c, rfl, HCS.out⟩, ((Below.refl _ _).alloc (Nat.le_refl _) _).trans (hb.mono (by simp))⟩
def wavE (L p q : Int) : Int := if waveOK L p q then 0 else 70
def wavR (L p q : Int) : List Int := if waveOK L p q then (wav L p q).take L.toNat else []
theorem wavR_length (L p q : Int) : (wavR L p q).length = if waveOK L p q then L.toNat else 0 := by
 unfold wavR
 split
 · rename_i h
   have := waveOK_true h
   rw [List.length_take, wav_length]; omega
 · rfl
set_option maxRecDepth 100000 in
set_option maxHeartbeats 4000000 in
theorem Wave_any (L p q : Int) (w : World) :
 Calls Tryz.prog 33 #[.int .i64 L, .agg #[.int .i64 p, .int .i64 q]] w fun e w' => (∃ b c, e = .returned (.tuple #[.slice b (wavR L p q).length c, .int .i64 (wavE L p q)]) /\ Cells w' b ((wavR L p q).map (Value.int .i64))) /\ Below w.heap.size w w' := by
 obtain ⟨Z, hZ⟩ : ∃ Z, Z = shp 0 (smp 0 0 0) := ⟨_, rfl⟩
 have z : Tryz.zeroCells129 = Z := by rw [hZ]; exact zero101
 have hZs : Z.size = 65 := by rw [hZ, shp_size, smp_length]
 have hw := fun w => wave_any L p q w
 have hVs := waveV_size L p q
 have hV1 := waveV_one L p q
 have hVe : waveOK L p q = true -> waveV L p q = shp L (wav L p q) := fun h => by simp [waveV, h]
 generalize waveV L p q = V at hw hVs hV1 hVe
 have hne : ¬ V = #[] := by intro h; rw [h] at hVs; simp at hVs
 have hst : ∀ wx : World, (storeCells ⟨wx.heap.size, 0, none⟩ V.toList 0).run Tryz.prog (wx.alloc (.cells Z 129)) = .ok () (wx.alloc (.cells V 129)) := fun wx => by
  rw [run_storeCells_row _ _ 129 Z _ (heap_alloc_new _ _) (by rw [hZs, Array.length_toList, hVs]) hV1, Array.toArray_toList]
  congr 1
  exact World.setRow_alloc_new _ _ _ _
 have hi : (Tryz.prog.info? 129).map (·.size) = some V.size := by rw [hVs]; kernel_rfl
 have HI := Lib.hid hi; clear hi
 have HW := Lib.hid hw; clear hw
 have HVE := Lib.hid hVe; clear hVe
 have HV1 := Lib.hid hV1; clear hV1
 clear hZ
 cases h1 : waveOK L p q
 · have he : wavE L p q = 70 := by simp [wavE, h1]
   have hr : wavR L p q = [] := by simp [wavR, h1]
   have HE := Lib.hid he; clear he
   have HR := Lib.hid hr; clear hr
   have H1 := Lib.hid h1; clear h1
   go_enter Tryz.func33, Tryz.ntmps33
   go_wp2_with (go_at_call 63; refine (HW.out _).mono ?_; rintro e w1 ⟨rfl, hb1⟩; rw [H1.out])
   go_ret2
   exact ⟨⟨none, 0, by rw [HE.out, HR.out]; rfl, by rw [HR.out]; exact Cells.nil _ _⟩, (((Below.refl _ _).alloc (Nat.le_refl _) _).trans (hb1.mono (by simp))).alloc (by have := hb1.size; simp at this; omega) _⟩
 · have hv := waveOK_true h1
   have hVe := HVE.out h1
   have he : wavE L p q = 0 := by simp [wavE, h1]
   have hr : wavR L p q = (wav L p q).take L.toNat := by simp [wavR, h1]
   have hrl : (wavR L p q).length = L.toNat := by rw [wavR_length, h1]; rfl
   have hou : ∀ wx : World, Calls Tryz.prog 93 #[.agg V] wx fun e w' => (∃ b c, e = .returned (.slice b (wavR L p q).length c) /\ Cells w' b ((wavR L p q).map (Value.int .i64))) /\ Below wx.heap.size wx w' := fun wx => by
    have := list_any L.toNat (wav L p q) wx (wav_length _ _ _) (by omega)
    rw [hrl, hr, hVe]
    rwa [show ((L.toNat : Nat) : Int) = L by omega] at this
   have HOU := Lib.hid hou; clear hou
   have HE := Lib.hid he; clear he
   have HR := Lib.hid hr; clear hr
   have H1 := Lib.hid h1; clear h1
   have HVE2 := Lib.hid hVe; clear hVe hrl
   go_enter Tryz.func33, Tryz.ntmps33
   go_wp2_with (first
    | (go_at_call 63; refine (HW.out _).mono ?_; rintro e w1 ⟨rfl, hb1⟩; rw [H1.out])
    | (refine wpList_load_row (by rfl) 129 _ (by rfl) w1.heap.size (by rfl) _ V _ _ (heap_alloc_new _ _) Tryz.underlying129 (by rfl) HI.out ?_)
    | (go_at_call 93; refine (HOU.out _).mono ?_; rintro e w3 ⟨⟨g, c, rfl, hcs⟩, hb4⟩; have HCS := Lib.hid hcs; clear hcs))
   go_ret2
   have hbb : Below w.heap.size w (w1.alloc (.cells V 129)) := (((Below.refl _ _).alloc (Nat.le_refl _) _).trans (hb1.mono (by simp))).alloc (by have := hb1.size; simp at this; omega) _
   exact ⟨⟨g, c, by rw [HE.out]; rfl, HCS.out⟩, hbb.trans (hb4.mono hbb.size)⟩
end Go.Proofs.YtdpjdifoonfcdaaGreatDoor

namespace Go.Proofs.YtdpjdifoonfcdaaGreatDoor
open Go.RowKit
theorem quiet_load_row {P : Program} {C : World -> Prop} {ops : Array Oper} {o : Oper} {a : Act} {K : Act -> Prop} {R : Prop} (hw : Region.wanted o (yielded ops a.tmps) = true) (ty : TypeId) (x : Operand) (ho : o.op = .load ty x) (g : Nat) (hx : a.eval x = .pointer (some ⟨g, 0, none⟩))
 (t : TypeId) (cs : Array Value) (fr : Nat × Nat) (d : TypeDesc) (hg : ∀ w', C w' -> w'.heap[g]? = some (.cells cs t fr)) (hu : P.underlying ty = some d) (hd : (match d with | .struct _ | .array _ _ => true | _ => false) = true) (hi : (P.info? ty).map (·.size) = some cs.size)
 (h : K (a.put o.dst (.agg cs))) : if Region.wanted o (yielded ops a.tmps) then o.quiet P a C K else R := by
 rw [hw, if_pos rfl]
 refine ⟨.agg cs, fun w' hw' => ?_, h⟩
 unfold Oper.quietAt execOp
 simp only [ho, hx, Instr.loadAt, Instr.sureAddr, Sem.run_bind, Sem.run_pure, Result.andThen_ok, run_loadVar_row w' g t ty cs fr d (hg w' hw') hu hd hi]
 exact ⟨rfl, rfl⟩
set_option maxRecDepth 100000 in
set_option maxHeartbeats 4000000 in
theorem matched1_any (L : Int) (xs ys : List Int) (x y : Int) (bv bw : Nat) (w : World) (hx : xs.length = 64) (hy : ys.length = 64) (hL1 : 1 <= L) (hL : L <= 64) (hx1 : -1000 <= x) (hx2 : x <= 1000) (hy1 : -1000 <= y) (hy2 : y <= 1000)
 (h1 : ∀ x ∈ xs, -127 <= x /\ x <= 127) (h2 : ∀ x ∈ ys, -127 <= x /\ x <= 127) (hv : w.heap[bv]? = some (.cells (shp L xs) 129 (0, 0))) (hv2 : w.heap[bw]? = some (.cells (shp L ys) 129 (0, 0))) :
 Calls Tryz.prog 158 #[.int .i64 x, .int .i64 y, .pointer (some ⟨bv, 0, none⟩), .pointer (some ⟨bw, 0, none⟩)] w fun e w' => e = .returned (.bool (decide (ovl xs ys L y < ovl xs ys L x))) /\ Below w.heap.size w w' := by
 have ho := fun w => overlap_any L L xs ys x w hx hy hL1 hL hx1 hx2 h1 h2
 have ho2 := fun w => overlap_any L L xs ys y w hx hy hL1 hL hy1 hy2 h1 h2
 have hi : (Tryz.prog.info? 129).map (·.size) = some (shp L xs).size := by rw [shp_size, hx]; kernel_rfl
 have hi2 : (Tryz.prog.info? 129).map (·.size) = some (shp L ys).size := by rw [shp_size, hy]; kernel_rfl
 have hlt := (Array.getElem?_eq_some_iff.1 hv).1
 have hlt2 := (Array.getElem?_eq_some_iff.1 hv2).1
 generalize shp L xs = V at ho ho2 hi hv
 generalize shp L ys = V2 at ho ho2 hi2 hv2
 generalize ovl xs ys L x = r1 at ho ⊢
 generalize ovl xs ys L y = r2 at ho2 ⊢
 have HI := Lib.hid hi; clear hi
 have HI2 := Lib.hid hi2; clear hi2
 have HO := Lib.hid ho; clear ho
 have HO2 := Lib.hid ho2; clear ho2
 have HV := Lib.hid hv; clear hv
 have HV2 := Lib.hid hv2; clear hv2
 go_enter Tryz.func158, Tryz.ntmps158
 go_wp2_with fail
 refine wp_region_quiet (C := fun w' => Below w.heap.size w w') (by kernel_rfl) (by kernel_rfl) (Below.refl _ w).drew ?_
 simp only
 refine wpQuiet_step (fun K hK => ?_)
 refine quiet_load_row (by rfl) 129 _ (by with_reducible rfl) bv (by rfl) 129 V (0, 0) _ (fun w' hw' => (hw'.block _ hlt).trans HV.out) Tryz.underlying129 (by rfl) HI.out ?_
 refine hK _ ?_
 clear hK K
 simp only [Act.put, List.setIfInBounds_toArray, List.set_cons_succ, List.set_cons_zero]
 refine wpQuiet_step (fun K hK => ?_)
 refine quiet_load_row (by rfl) 129 _ (by with_reducible rfl) bw (by rfl) 129 V2 (0, 0) _ (fun w' hw' => (hw'.block _ hlt2).trans HV2.out) Tryz.underlying129 (by rfl) HI2.out ?_
 refine hK _ ?_
 clear hK K
 simp only [Act.put, List.setIfInBounds_toArray, List.set_cons_succ, List.set_cons_zero]
 refine wpQuiet_step (fun K hK => ?_)
 go_simp
 refine ⟨_, fun _ _ => rfl, hK _ ?_⟩
 clear hK K
 refine wpQuiet_step (fun K hK => ?_)
 go_simp
 refine ⟨_, fun w' hw' => (HO.out w').mono fun e w'' h => ⟨h.1, hw'.trans (h.2.mono hw'.size)⟩, hK _ ?_⟩
 clear hK K
 refine wpQuiet_step (fun K hK => ?_)
 refine quiet_load_row (by rfl) 129 _ (by with_reducible rfl) bv (by rfl) 129 V (0, 0) _ (fun w' hw' => (hw'.block _ hlt).trans HV.out) Tryz.underlying129 (by rfl) HI.out ?_
 refine hK _ ?_
 clear hK K
 simp only [Act.put, List.setIfInBounds_toArray, List.set_cons_succ, List.set_cons_zero]
 refine wpQuiet_step (fun K hK => ?_)
 refine quiet_load_row (by rfl) 129 _ (by with_reducible rfl) bw (by rfl) 129 V2 (0, 0) _ (fun w' hw' => (hw'.block _ hlt2).trans HV2.out) Tryz.underlying129 (by rfl) HI2.out ?_
 refine hK _ ?_
 clear hK K
 simp only [Act.put, List.setIfInBounds_toArray, List.set_cons_succ, List.set_cons_zero]
 refine wpQuiet_step (fun K hK => ?_)
 go_simp
 refine ⟨_, fun _ _ => rfl, hK _ ?_⟩
 clear hK K
 refine wpQuiet_step (fun K hK => ?_)
 go_simp
 refine ⟨_, fun w' hw' => (HO2.out w').mono fun e w'' h => ⟨h.1, hw'.trans (h.2.mono hw'.size)⟩, hK _ ?_⟩
 clear hK K
 refine wpQuiet_step (fun K hK => ?_)
 go_simp
 refine ⟨_, fun _ _ => rfl, hK _ ?_⟩
 clear hK K
 refine wpQuiet_step (fun K hK => ?_)
 go_simp
 refine ⟨_, fun _ _ => rfl, hK _ ?_⟩
 clear hK K
 refine wpQuiet_nil ?_
 intro w1 hb1
 go_wp2
 go_ret
 exact ⟨rfl, hb1⟩
end Go.Proofs.YtdpjdifoonfcdaaGreatDoor

namespace Go.Proofs.YtdpjdifoonfcdaaGreatDoor
open Go.RowKit Go.Shelf
abbrev Sh : Type := { x : Int // -1000 <= x /\ x <= 1000 }
def mkS (z : Int) : Sh := ⟨max (-1000) (min z 1000), by omega, by omega⟩
theorem mkS_val {z : Int} (h1 : -1000 <= z) (h2 : z <= 1000) : (mkS z).1 = z := by show max (-1000) (min z 1000) = z; omega
def shl (L k : Nat) : List Sh := (List.range k).map fun i : Nat => mkS (1 - (L : Int) + (i : Int))
theorem shl_succ (L k : Nat) : shl L (k + 1) = shl L k ++ [mkS (1 - (L : Int) + (k : Int))] := by simp [shl, List.range_succ]
theorem shl_length (L k : Nat) : (shl L k).length = k := by simp [shl]
theorem shl_prefix (L : Nat) {j k : Nat} (h : j <= k) : shl L j <+: shl L k := by
 induction k with
 | zero => rw [show j = 0 by omega]; exact List.prefix_rfl
 | succ k ih =>
   by_cases e : j = k + 1
   · rw [e]; exact List.prefix_rfl
   · rw [shl_succ]; exact (ih (by omega)).trans (List.prefix_append _ _)
set_option maxRecDepth 1000000 in
set_option maxHeartbeats 2000000 in
theorem shifts1_in (F : Fence) (n : Nat) (hF : F.fn 209) (hro : F.round = none) (hn : 1 <= n) (l Bn n₀ L : Nat) (hL1 : 1 <= L) (hL : L <= 64) (hBl : Bn < n₀) (J Jx : List Sh -> World -> Prop)
 (hY : ∀ pre x W, J pre W -> pre.length < 2 * L - 1 -> YieldAt F (n - 1) Tryz.prog l #[.int .i64 x.1] W fun e W' =>
  (e = .returned (.bool true) /\ J (pre ++ [x]) W' /\ Below n₀ W W') ∨ (e = .returned (.bool false) /\ Jx (pre ++ [x]) W'))
 (W : World) (hc : W.cell? ⟨Bn, 0, none⟩ = some (.int .i64 L)) (h0 : J [] W) :
 CallsIn F n Tryz.prog 209 #[.func (.yield l) #[] #[], .pointer (some ⟨Bn, 0, none⟩)] W fun e W' => (∃ v, e = .returned v) /\
  ((∃ ys, ys = shl L (2 * L - 1) /\ J ys W') ∨ (∃ pre, pre <+: shl L (2 * L - 1) /\ Jx pre W')) := by
 refine callsIn_of_wp Tryz.func209 rfl hF ?_ hro
 simp only [Tryz.ntmps209, List.size_toArray, List.length_cons, List.length_nil, Nat.reduceAdd, Nat.reduceSub, Array.replicate_succ, Array.replicate_zero, List.push_toArray, List.append_toArray, List.nil_append, List.cons_append]
 gi_wp2
 gi_loopw [3] (fun i wr => ∃ k : Nat, k <= 2 * L - 1 /\ i = .int .i64 (1 - (L : Int) + (k : Int)) /\ J (shl L k) wr /\ Below n₀ W wr)
  (fun i _ => (L : Int).toNat - (intOf i).toNat + (0 - intOf i).toNat)
 case atStart => exact ⟨0, Nat.zero_le _, by simp, h0, Below.refl _ _⟩
 case round =>
  obtain ⟨k, hk, rfl, hJs, hnx⟩ := hrel
  have hcx : wr.cell? ⟨Bn, 0, none⟩ = some (.int .i64 L) := (hnx.cell (p := ⟨Bn, 0, none⟩) hBl).trans hc
  by_cases hlt : k < 2 * L - 1
  · obtain ⟨fn, tmps, assign, body, hy, hR⟩ := hY _ (mkS (1 - (L : Int) + (k : Int))) wr hJs (by rw [shl_length]; exact hlt)
    rw [mkS_val (by omega) (by omega)] at hy
    have g1 : 1 - (L : Int) + (k : Int) < L := by omega
    have g2 : -64 <= 1 - (L : Int) + (k : Int) := by omega
    have E := Lib.hid (shl_succ L k)
    have E2 := Lib.hid (show (1 - (L : Int) + ((k + 1 : Nat) : Int)) = 1 - (L : Int) + (k : Int) + 1 by push_cast; omega)
    generalize 1 - (L : Int) + (k : Int) = s at *
    gi_wp2
    refine hR.mono ?_
    rintro e W3 (⟨rfl, hJ3, hk3⟩ | ⟨rfl, hJx3⟩)
    · gi_wp2
      go_roundw
      case rel => exact ⟨k + 1, by omega, by rw [E2.out], by rw [E.out]; exact hJ3, hnx.trans hk3⟩
      case measure => simp [intOf]; omega
    · gi_wp2
      refine bodyPost_ret (results_none rfl _ _ _) rfl ?_
      exact ⟨⟨_, rfl⟩, .inr ⟨_, shl_prefix L (show k + 1 <= 2 * L - 1 by omega), by rw [E.out]; exact hJx3⟩⟩
  · obtain rfl : k = 2 * L - 1 := by omega
    have g1 : ¬ (1 - (L : Int) + ((2 * L - 1 : Nat) : Int) < L) := by omega
    have g2 : 1 - (L : Int) + ((2 * L - 1 : Nat) : Int) <= 64 := by omega
    generalize 1 - (L : Int) + ((2 * L - 1 : Nat) : Int) = s at *
    gi_wp2
    go_end0
    exact ⟨⟨_, rfl⟩, .inl hJs⟩
theorem shifts_stops (F : Fence) (n : Nat) (hF : F.fn 209) (hro : F.round = none) (hn : 1 <= n) (Bn L : Nat) (hL1 : 1 <= L) (hL : L <= 64) (n₀ : Nat) (w : World) (hBn : Bn < n₀) (hn₀ : n₀ <= w.heap.size)
 (hc : w.cell? ⟨Bn, 0, none⟩ = some (.int .i64 L)) :
 SeqStopsK F n Tryz.prog 209 #[.pointer (some ⟨Bn, 0, none⟩)] (fun x : Sh => #[Value.int .i64 x.1]) (Below n₀) (fun ys => ys = shl L (2 * L - 1)) (fun pre => pre <+: shl L (2 * L - 1)) (2 * L - 1) w := fun l J Jx W hW _ _ hY h0 =>
 shifts1_in F n hF hro hn l Bn n₀ L hL1 hL hBn J Jx hY W ((hW.cell (p := ⟨Bn, 0, none⟩) (by show Bn < _; omega)).trans hc) h0
end Go.Proofs.YtdpjdifoonfcdaaGreatDoor

namespace Go.Proofs.YtdpjdifoonfcdaaGreatDoor
open Go.RowKit Go.Shelf
def bst (f : Int -> Int) (l : List Sh) : Option Sh := l.foldl (fun o x => match o with | none => some x | some y => if f y.1 < f x.1 then some x else some y) none
theorem bst_snoc (f : Int -> Int) (l : List Sh) (x : Sh) : bst f (l ++ [x]) = match bst f l with | none => some x | some y => if f y.1 < f x.1 then some x else some y := by
 simp [bst, List.foldl_append]
def bstV (f : Int -> Int) (l : List Sh) : Int := match bst f l with | none => 0 | some y => y.1
theorem keepsOthers_below {W W' : World} (hb : Below W.heap.size W W') : KeepsOthers W W' :=
 ⟨hb.size, fun k _ hk _ => (hb.block k (Array.getElem?_eq_some_iff.1 hk).1).trans hk⟩
theorem two_set {W : World} {n : Nat} {F A B u v : Value} (h1 : W.cell? ⟨n, 0, none⟩ = some F) (h2 : W.cell? ⟨n + 1, 0, none⟩ = some A) (f2 : W.frozen? ⟨n + 1, 0, none⟩ = false) (h3 : W.cell? ⟨n + 1 + 1, 0, none⟩ = some B) (f3 : W.frozen? ⟨n + 1 + 1, 0, none⟩ = false) :
 ((W.setCell ⟨n + 1, 0, none⟩ u).setCell ⟨n + 1 + 1, 0, none⟩ v).cell? ⟨n, 0, none⟩ = some F /\ ((W.setCell ⟨n + 1, 0, none⟩ u).setCell ⟨n + 1 + 1, 0, none⟩ v).cell? ⟨n + 1, 0, none⟩ = some u /\ ((W.setCell ⟨n + 1, 0, none⟩ u).setCell ⟨n + 1 + 1, 0, none⟩ v).frozen? ⟨n + 1, 0, none⟩ = false /\ ((W.setCell ⟨n + 1, 0, none⟩ u).setCell ⟨n + 1 + 1, 0, none⟩ v).cell? ⟨n + 1 + 1, 0, none⟩ = some v /\ ((W.setCell ⟨n + 1, 0, none⟩ u).setCell ⟨n + 1 + 1, 0, none⟩ v).frozen? ⟨n + 1 + 1, 0, none⟩ = false := by
 refine ⟨?_, ?_, ?_, ?_, ?_⟩
 · rw [World.cell?_setCell_other _ _ _ _ (by simp), World.cell?_setCell_other _ _ _ _ (by simp)]; exact h1
 · rw [World.cell?_setCell_other _ _ _ _ (by simp)]; exact World.cell?_setCell_same' _ _ _ (by rw [h2]; rfl)
 · rw [World.frozen?_setCell, World.frozen?_setCell]; exact f2
 · exact World.cell?_setCell_same' _ _ _ (by rw [World.cell?_setCell_other _ _ _ _ (by simp), h3]; rfl)
 · rw [World.frozen?_setCell, World.frozen?_setCell]; exact f3
set_option maxRecDepth 1000000 in
set_option maxHeartbeats 4000000 in
theorem best_any (L : Nat) (xs ys : List Int) (bn bv bw : Nat) (w : World) (hx : xs.length = 64) (hy : ys.length = 64) (hL1 : 1 <= L) (hL : L <= 64)
 (h1 : ∀ x ∈ xs, -127 <= x /\ x <= 127) (h2 : ∀ x ∈ ys, -127 <= x /\ x <= 127) (hv : w.heap[bv]? = some (.cells (shp L xs) 129 (0, 0))) (hv2 : w.heap[bw]? = some (.cells (shp L ys) 129 (0, 0))) (hc : w.cell? ⟨bn, 0, none⟩ = some (.int .i64 L)) :
 Calls Tryz.prog 157 #[.func (.func 209) #[] #[.pointer (some ⟨bn, 0, none⟩)], .func (.func 158) #[] #[.pointer (some ⟨bv, 0, none⟩), .pointer (some ⟨bw, 0, none⟩)]] w fun e w' => e = .returned (.tuple #[.int .i64 (bstV (ovl xs ys L) (shl L (2 * L - 1))), .bool (bst (ovl xs ys L) (shl L (2 * L - 1))).isSome]) /\ Below w.heap.size w w' := by
 have hlt := (Array.getElem?_eq_some_iff.1 hv).1
 have hlt2 := (Array.getElem?_eq_some_iff.1 hv2).1
 have hltn : bn < w.heap.size := block_lt_of_cell hc
 have hm : ∀ (x y : Int) (wx : World), -1000 <= x -> x <= 1000 -> -1000 <= y -> y <= 1000 -> Below w.heap.size w wx -> Calls Tryz.prog 158 #[.int .i64 x, .int .i64 y, .pointer (some ⟨bv, 0, none⟩), .pointer (some ⟨bw, 0, none⟩)] wx fun e w' => e = .returned (.bool (decide (ovl xs ys L y < ovl xs ys L x))) /\ Below wx.heap.size wx w' := fun x y wx hx1 hx2 hy1 hy2 hb =>
  matched1_any L xs ys x y bv bw wx hx hy (by omega) (by omega) hx1 hx2 hy1 hy2 h1 h2 ((hb.block _ hlt).trans hv) ((hb.block _ hlt2).trans hv2)
 generalize ovl xs ys L = f at hm ⊢
 have HM := Lib.hid hm; clear hm hv hv2 h1 h2
 refine (callsIn_wide (n := 5)).1 ?_
 refine callsIn_of_wp_marks Tryz.func157 rfl trivial ?_ rfl
 simp only [Tryz.ntmps157, List.size_toArray, List.length_cons, List.length_nil, Nat.reduceAdd, Nat.reduceSub, Array.replicate_succ, Array.replicate_zero, List.push_toArray, List.append_toArray, List.nil_append, List.cons_append]
 gi_wp2
 obtain ⟨W0, hW0⟩ : ∃ W0, ((w.alloc (.cells #[.func (.func 158) #[] #[.pointer (some ⟨bv, 0, none⟩), .pointer (some ⟨bw, 0, none⟩)]] 261)).alloc (.cells #[.int .i64 0] 3)).alloc (.cells #[.bool false] 4) = W0 := ⟨_, rfl⟩
 have hB0 : Below w.heap.size w W0 := by rw [<- hW0]; exact (((Below.refl _ w).alloc (Nat.le_refl _) _).alloc (by simp) _).alloc (by simp; omega) _
 have hs0 : W0.heap.size = w.heap.size + 3 := by rw [<- hW0]; simp
 have r1 : W0.heap[w.heap.size]? = some (.cells #[.func (.func 158) #[] #[.pointer (some ⟨bv, 0, none⟩), .pointer (some ⟨bw, 0, none⟩)]] 261 (0, 0)) := by
  rw [<- hW0, hold_old _ _ _ (by simp; omega)]; exact heap_alloc2_old w _ _
 have r2 : W0.heap[w.heap.size + 1]? = some (.cells #[.int .i64 0] 3 (0, 0)) := by
  rw [<- hW0, hold_old _ _ _ (by simp)]; exact heap_alloc2_new w _ _
 have r3 : W0.heap[w.heap.size + 1 + 1]? = some (.cells #[.bool false] 4 (0, 0)) := by
  have hsz : ((w.alloc (.cells #[.func (.func 158) #[] #[.pointer (some ⟨bv, 0, none⟩), .pointer (some ⟨bw, 0, none⟩)]] 261)).alloc (.cells #[.int .i64 0] 3)).heap.size = w.heap.size + 1 + 1 := by simp
  rw [<- hW0, <- hsz]; exact heap_alloc_new _ _
 have hz1 := (cell_of_row W0 _ 0 _ _ _ r1).trans rfl
 have hz2 := (cell_of_row W0 _ 0 _ _ _ r2).trans rfl
 have hz3 := frozen_of_row W0 _ 0 _ _ r2
 have hz4 := (cell_of_row W0 _ 0 _ _ _ r3).trans rfl
 have hz5 := frozen_of_row W0 _ 0 _ _ r3
 rw [hW0]
 clear hW0
 refine wpIn_rangeFunc_ownF rfl (by omega) (gf := 209) (lb := #[.pointer (some ⟨bn, 0, none⟩)]) rfl trivial (enters_of Tryz.func209 (by kernel_rfl) rfl)
  (shifts_stops Fence.wide _ trivial rfl (by omega) bn L hL1 hL w.heap.size W0 hltn (by omega) (cell_keep hc hB0 (Nat.le_refl _))) belowK_t (belowK_b (by omega)) (Below.refl _ _) (fun _ => rfl)
  (fun pre W => (W.cell? ⟨w.heap.size, 0, none⟩ = some (.func (.func 158) #[] #[.pointer (some ⟨bv, 0, none⟩), .pointer (some ⟨bw, 0, none⟩)]) /\ W.cell? ⟨w.heap.size + 1, 0, none⟩ = some (.int .i64 (bstV f pre)) /\ W.frozen? ⟨w.heap.size + 1, 0, none⟩ = false /\ W.cell? ⟨w.heap.size + 1 + 1, 0, none⟩ = some (.bool (bst f pre).isSome) /\ W.frozen? ⟨w.heap.size + 1 + 1, 0, none⟩ = false) /\ Below w.heap.size w W)
  (fun _ _ _ => False)
  (OwnFrom.and (Own.from (fun s A B row hs hg hr => ⟨cell_kept hs.1 hg hr, cell_kept hs.2.1 hg hr, (frozen_kept hs.2.1 hg hr).trans hs.2.2.1, cell_kept hs.2.2.2.1 hg hr, (frozen_kept hs.2.2.2.1 hg hr).trans hs.2.2.2.2⟩) _) (ownFrom_below (Nat.le_refl _) (by omega)))
  (fun _ _ _ _ _ hs _ _ => hs)
  ⟨⟨hz1, hz2, hz3, hz4, hz5⟩, hB0⟩
  (fun x => { tmps := #[.func (.func 209) #[] #[.pointer (some ⟨bn, 0, none⟩)], .func (.func 158) #[] #[.pointer (some ⟨bv, 0, none⟩), .pointer (some ⟨bw, 0, none⟩)], undef, .pointer (some ⟨w.heap.size, 0, none⟩), .pointer (some ⟨w.heap.size + 1, 0, none⟩), .pointer (some ⟨w.heap.size + 1 + 1, 0, none⟩), .int .i64 x.1, .func (.func 209) #[] #[.pointer (some ⟨bn, 0, none⟩)], .int .i64 x.1, undef, undef, undef, undef, undef, undef, undef, undef, undef, undef, undef], defers := [] }) ?assign ?body ?done ?stop
 case assign =>
  intro l x W K hK
  gi_wp2_with (rw [Oper.semAt_eq _ _ _ (fun c h => by cases h)]; go_simp; try go_bits)
  exact hK
 case body =>
  rintro l pre x W ⟨⟨hc1, hc2, hf2, hc3, hf3⟩, hB⟩ _
  cases hb : bst f pre with
  | none =>
    have hv : bstV f pre = 0 := by simp [bstV, hb]
    rw [hb] at hc3
    simp only [Option.isSome_none] at hc3
    gi_wp2_with (rw [Oper.semAt_eq _ _ _ (fun c h => by cases h)]; go_simp; try go_bits)
    refine ⟨fun _ h => (by cases h), ?_⟩
    gi_wp2_with (rw [Oper.semAt_eq _ _ _ (fun c h => by cases h)]; go_simp; try go_bits)
    have e1 : bstV f (pre ++ [x]) = x.1 := by simp only [bstV, bst_snoc, hb]
    have e2 : (bst f (pre ++ [x])).isSome = true := by simp only [bst_snoc, hb]; rfl
    have hbb : Below w.heap.size W ((W.setCell ⟨w.heap.size + 1, 0, none⟩ (.int .i64 x.1)).setCell ⟨w.heap.size + 1 + 1, 0, none⟩ (.bool true)) := ((Below.refl _ W).setCell (p := ⟨w.heap.size + 1, 0, none⟩) (by show w.heap.size <= w.heap.size + 1; omega) _).setCell (p := ⟨w.heap.size + 1 + 1, 0, none⟩) (by show w.heap.size <= w.heap.size + 1 + 1; omega) _
    refine ⟨(KeepsOthers.setCell _ _ _).trans (KeepsOthers.setCell _ _ _), hbb, ?_, hB.trans hbb⟩
    rw [e1, e2]
    exact two_set hc1 hc2 hf2 hc3 hf3
  | some y =>
    have hv : bstV f pre = y.1 := by simp [bstV, hb]
    rw [hb] at hc3
    rw [hv] at hc2
    simp only [Option.isSome_some] at hc3
    have hmm := HM.out x.1 y.1 W x.2.1 x.2.2 y.2.1 y.2.2 hB
    have HMM := Lib.hid hmm; clear hmm
    have hp2 : w.heap.size + 1 < W.heap.size := block_lt_of_cell hc2
    have hp3 : w.heap.size + 1 + 1 < W.heap.size := block_lt_of_cell hc3
    gi_wp2_with (first | (rw [Oper.semAt_eq _ _ _ (fun c h => by cases h)]; go_simp; try go_bits) | (refine ⟨trivial, ?_⟩; gi_at_call 158; refine (CallsIn.inRound l (callsIn_wide.2 HMM.out)).mono ?_; rintro e w1 ⟨rfl, hb1⟩; have hk1 := cell_keep hc1 hb1 (Nat.le_refl _); have hk2 := cell_keep hc2 hb1 (Nat.le_refl _); have hk3 := cell_keep hc3 hb1 (Nat.le_refl _); have hg2 := (hb1.frozen (p := ⟨w.heap.size + 1, 0, none⟩) hp2).trans hf2; have hg3 := (hb1.frozen (p := ⟨w.heap.size + 1 + 1, 0, none⟩) hp3).trans hf3))
    all_goals have hb0 : Below w.heap.size W w1 := hb1.mono (by omega)
    · rename_i hgt
      have e1 : bstV f (pre ++ [x]) = x.1 := by simp only [bstV, bst_snoc, hb, if_pos hgt]
      have e2 : (bst f (pre ++ [x])).isSome = true := by simp only [bst_snoc, hb, if_pos hgt]; rfl
      have hbb : Below w.heap.size w1 ((w1.setCell ⟨w.heap.size + 1, 0, none⟩ (.int .i64 x.1)).setCell ⟨w.heap.size + 1 + 1, 0, none⟩ (.bool true)) := ((Below.refl _ w1).setCell (p := ⟨w.heap.size + 1, 0, none⟩) (by show w.heap.size <= w.heap.size + 1; omega) _).setCell (p := ⟨w.heap.size + 1 + 1, 0, none⟩) (by show w.heap.size <= w.heap.size + 1 + 1; omega) _
      refine ⟨(keepsOthers_below hb1).trans ((KeepsOthers.setCell _ _ _).trans (KeepsOthers.setCell _ _ _)), hb0.trans hbb, ?_, hB.trans (hb0.trans hbb)⟩
      rw [e1, e2]
      exact two_set hk1 hk2 hg2 hk3 hg3
    · rename_i hgt
      have hng : ¬ f y.1 < f x.1 := by omega
      have e1 : bstV f (pre ++ [x]) = y.1 := by simp only [bstV, bst_snoc, hb, if_neg hng]
      have e2 : (bst f (pre ++ [x])).isSome = true := by simp only [bst_snoc, hb, if_neg hng]; rfl
      refine ⟨keepsOthers_below hb1, hb0, ?_, hB.trans hb0⟩
      rw [e1, e2]
      exact ⟨hk1, hk2, hg2, hk3, hg3⟩
 case done =>
  rintro D ys W hD rfl ⟨⟨hc1, hc2, hf2, hc3, hf3⟩, hB⟩ hK
  generalize hv1 : bstV f (shl L (2 * L - 1)) = v1 at *
  generalize hv2 : (bst f (shl L (2 * L - 1))).isSome = v2 at *
  have HV1 := Lib.hid hv1; have HV2 := Lib.hid hv2; clear hv1 hv2
  gi_wp2
  gi_region
  all_goals
   have hk := ((((KeepsOthers.setCell W ⟨w.heap.size + 1, 0, none⟩ (.int .i64 v1)).trans (KeepsOthers.setCell _ ⟨w.heap.size + 1 + 1, 0, none⟩ (.bool v2))).trans (KeepsOthers.drew _)).same D _ hK rfl)
   obtain ⟨_, t2, _, t4, _⟩ := two_set (u := .int .i64 v1) (v := .bool v2) hc1 hc2 hf2 hc3 hf3
   have hbb : Below w.heap.size W ((W.setCell ⟨w.heap.size + 1, 0, none⟩ (.int .i64 v1)).setCell ⟨w.heap.size + 1 + 1, 0, none⟩ (.bool v2)).drew := bel_drewN (((Below.refl _ W).setCell (p := ⟨w.heap.size + 1, 0, none⟩) (by show w.heap.size <= w.heap.size + 1; omega) _).setCell (p := ⟨w.heap.size + 1 + 1, 0, none⟩) (by show w.heap.size <= w.heap.size + 1 + 1; omega) _) 1
   have t2' : ((W.setCell ⟨w.heap.size + 1, 0, none⟩ (.int .i64 v1)).setCell ⟨w.heap.size + 1 + 1, 0, none⟩ (.bool v2)).drew.cell? ⟨w.heap.size + 1, 0, none⟩ = some (.int .i64 v1) := t2
   have t4' : ((W.setCell ⟨w.heap.size + 1, 0, none⟩ (.int .i64 v1)).setCell ⟨w.heap.size + 1 + 1, 0, none⟩ (.bool v2)).drew.cell? ⟨w.heap.size + 1 + 1, 0, none⟩ = some (.bool v2) := t4
   generalize ((W.setCell ⟨w.heap.size + 1, 0, none⟩ (.int .i64 v1)).setCell ⟨w.heap.size + 1 + 1, 0, none⟩ (.bool v2)).drew = W9 at hk hbb t2' t4' ⊢
   gi_wp2
   have p2 := cell_kept t2' (grownBy_putObj' _ D (.deferred none)) (fun r e => by cases e; exact ⟨_, hk, rfl⟩)
   have p4 := cell_kept t4' (grownBy_putObj' _ D (.deferred none)) (fun r e => by cases e; exact ⟨_, hk, rfl⟩)
   refine ⟨by simp, .inl ⟨_, _, rfl, run_takeDeferred hk, ?_⟩⟩
   refine ⟨.tuple #[.int .i64 v1, .bool v2], ?_, by rw [HV1.out, HV2.out], (hB.trans hbb).trans (belowK_b (w := w) (Nat.le_refl _) W9 D _ _ (by omega) hk rfl rfl)⟩
   simp [results, Tryz.f157, go_sem, p2, p4]
 case stop =>
  rintro D c pre W _ _ h _
  exact h.elim
end Go.Proofs.YtdpjdifoonfcdaaGreatDoor

namespace Go.Proofs.YtdpjdifoonfcdaaGreatDoor
open Go.RowKit
theorem tkS {P : Program} {ops : Array Oper} {Q : Exit -> Act -> World -> Prop} {md : Region.Mode} {S : World -> Prop} (i : Nat) {oi : Oper} {fuel : Nat} {listed l' : Array Bool} {a a' : Act} {w : World} (hS : S w)
 (h : wpAnyH P md ops Q S fuel l' a' w)
 (hi : ops[i]? = some oi := by simp only [List.getElem?_toArray, List.getElem?_cons_succ, List.getElem?_cons_zero]; rfl)
 (hs : Region.noSelect ops = true := by kernel_rfl) (hf : Region.free md ops listed i = true := by kernel_rfl) (hr : (Region.ready md ops listed).contains i = true := by kernel_rfl)
 (hQ : ∀ c a w, Q (.panic c) (a.put oi.dst undef) w -> Q (.panic c) a w := by exact fun _ _ _ h => h) (hy : Region.wanted oi (yielded ops a.tmps) = false := by rfl)
 (hl : listed.setIfInBounds i true = l' := by first | (simp only [List.setIfInBounds_toArray, List.set_cons_zero, List.set_cons_succ]; rfl) | rfl)
 (ha : a.put oi.dst undef = a' := by first | (simp only [Act.put, List.setIfInBounds_toArray, List.set_cons_zero, List.set_cons_succ]; rfl) | rfl) : wpAnyH P md ops Q S (fuel + 1) listed a w :=
 wpAnyH_take hi hs hf hr hQ (.inr ⟨hy, rfl⟩) hS (by rw [hl, ha]; exact h)
theorem tkV {P : Program} {ops : Array Oper} {Q : Exit -> Act -> World -> Prop} {md : Region.Mode} {S : World -> Prop} (i : Nat) (v : Value) {oi : Oper} {fuel : Nat} {listed l' : Array Bool} {a a' : Act} {w : World} (hS : S w)
 (h : wpAnyH P md ops Q S fuel l' a' w)
 (hi : ops[i]? = some oi := by simp only [List.getElem?_toArray, List.getElem?_cons_succ, List.getElem?_cons_zero]; rfl)
 (hs : Region.noSelect ops = true := by kernel_rfl) (hf : Region.free md ops listed i = true := by kernel_rfl) (hr : (Region.ready md ops listed).contains i = true := by kernel_rfl)
 (hQ : ∀ c a w, Q (.panic c) (a.put oi.dst v) w -> Q (.panic c) a w := by exact fun _ _ _ h => h) (hw : Region.wanted oi (yielded ops a.tmps) = true := by rfl)
 (hy : ∀ w, S w -> (execOp a.eval oi).run P w = .ok (.value v) w := by intro w9 h; (repeat (obtain ⟨_, h⟩ := h)); first | (go_simp; done) | (go_simp; exact IntWalk.i64_in _ (by omega)))
 (hl : listed.setIfInBounds i true = l' := by first | (simp only [List.setIfInBounds_toArray, List.set_cons_zero, List.set_cons_succ]; rfl) | rfl)
 (ha : a.put oi.dst v = a' := by first | (simp only [Act.put, List.setIfInBounds_toArray, List.set_cons_zero, List.set_cons_succ]; rfl) | rfl) : wpAnyH P md ops Q S (fuel + 1) listed a w :=
 wpAnyH_take hi hs hf hr hQ (.inl ⟨hw, hy⟩) hS (by rw [hl, ha]; exact h)
theorem tkC {P : Program} {ops : Array Oper} {Q : Exit -> Act -> World -> Prop} {md : Region.Mode} {S : World -> Prop} (i : Nat) {o : Oper} {fuel : Nat} {listed l' : Array Bool} {a : Act} {w : World}
 (h : ∀ K' : Act -> World -> Prop, Shut (∀ a w, S w -> (S w -> wpAnyH P md ops Q S fuel l' a w) -> K' a w) -> if Region.wanted o (yielded ops a.tmps) = true then Oper.wp P o a w K' Q else K' (a.put o.dst undef) w)
 (hi : ops[i]? = some o := by simp only [List.getElem?_toArray, List.getElem?_cons_succ, List.getElem?_cons_zero]; rfl) (hr : Region.ready md ops listed = [i] := by kernel_rfl)
 (hl : listed.setIfInBounds i true = l' := by first | (simp only [List.setIfInBounds_toArray, List.set_cons_zero, List.set_cons_succ]; rfl) | rfl) : wpAnyH P md ops Q S (fuel + 1) listed a w :=
 wpAnyH_ready hr (by simp) (AllReadyH.cons hi (by rw [hl]; exact h) AllReadyH.nil)
end Go.Proofs.YtdpjdifoonfcdaaGreatDoor

namespace Go.Proofs.YtdpjdifoonfcdaaGreatDoor
open Go.RowKit
theorem exec_load_row {P : Program} {o : Oper} {a : Act} {w' : World} (ty : TypeId) (x : Operand) (ho : o.op = .load ty x) (g : Nat) (hx : a.eval x = .pointer (some ⟨g, 0, none⟩))
 (t : TypeId) (cs : Array Value) (fr : Nat × Nat) (d : TypeDesc) (hg : w'.heap[g]? = some (.cells cs t fr)) (hu : P.underlying ty = some d) (hd : (match d with | .struct _ | .array _ _ => true | _ => false) = true) (hi : (P.info? ty).map (·.size) = some cs.size) :
 (execOp a.eval o).run P w' = .ok (.value (.agg cs)) w' := by
 unfold execOp
 simp only [ho, hx, Instr.loadAt, Instr.sureAddr, Sem.run_bind, Sem.run_pure, Result.andThen_ok, run_loadVar_row w' g t ty cs fr d hg hu hd hi]
theorem shifts_any (L : Int) (w : World) :
 Calls Tryz.prog 142 #[.int .i64 L] w fun e w' => e = .returned (.func (.func 209) #[] #[.pointer (some ⟨w.heap.size, 0, none⟩)]) /\ w' = w.alloc (.cells #[.int .i64 L] 3) := by
 go_enter Tryz.func142, Tryz.ntmps142
 go_wp2
 go_ret
 exact ⟨rfl, rfl⟩
def bestN (xs ys : List Int) (L : Nat) : Int := max 0 (ovl xs ys L (bstV (ovl xs ys L) (shl L (2 * L - 1))))
theorem bstV_bd (f : Int -> Int) (l : List Sh) : -1000 <= bstV f l /\ bstV f l <= 1000 := by
 unfold bstV
 split
 · omega
 · rename_i y _; exact y.2
set_option maxRecDepth 1000000 in
set_option maxHeartbeats 4000000 in
theorem matched_any (L : Nat) (xs ys : List Int) (w : World) (hx : xs.length = 64) (hy : ys.length = 64) (hL1 : 1 <= L) (hL : L <= 64)
 (h1 : ∀ x ∈ xs, -127 <= x /\ x <= 127) (h2 : ∀ x ∈ ys, -127 <= x /\ x <= 127) :
 Calls Tryz.prog 89 #[.agg (shp L xs), .agg (shp L ys)] w fun e w' => e = .returned (.agg #[.int .i64 (bestN xs ys L * bestN xs ys L), .int .i64 (ovl xs xs L 0 * ovl ys ys L 0)]) /\ Below w.heap.size w w' := by
 have hbest := fun bn bv bw wx => best_any L xs ys bn bv bw wx hx hy hL1 hL h1 h2
 have hsb := bstV_bd (ovl xs ys L) (shl L (2 * L - 1))
 have ho := fun wx => overlap_any L L xs ys (bstV (ovl xs ys L) (shl L (2 * L - 1))) wx hx hy (by omega) (by omega) hsb.1 hsb.2 h1 h2
 have hn1 := fun wx => norm_any L xs wx hx (by omega) (by omega) h1
 have hn2 := fun wx => norm_any L ys wx hy (by omega) (by omega) h2
 have bd1 := ovl_bd h1 h2 L (bstV (ovl xs ys L) (shl L (2 * L - 1))) (by omega)
 have bd2 := ovl_bd h1 h1 L 0 (by omega)
 have bd3 := ovl_bd h2 h2 L 0 (by omega)
 have hi : (Tryz.prog.info? 129).map (·.size) = some (shp L xs).size := by rw [shp_size, hx]; kernel_rfl
 have hi2 : (Tryz.prog.info? 129).map (·.size) = some (shp L ys).size := by rw [shp_size, hy]; kernel_rfl
 have hN : bestN xs ys L = max 0 (ovl xs ys L (bstV (ovl xs ys L) (shl L (2 * L - 1)))) := rfl
 have h0 : (shp L xs)[0]? = some (.int .i64 L) := shp_zero _ _
 generalize bestN xs ys L = N at hN ⊢
 generalize bstV (ovl xs ys L) (shl L (2 * L - 1)) = s at hbest hsb ho bd1 hN
 generalize ovl xs ys L s = r at ho bd1 hN
 generalize (bst (ovl xs ys L) (shl L (2 * L - 1))).isSome = ok at hbest
 generalize ovl xs xs L 0 = n1 at hn1 bd2 ⊢
 generalize ovl ys ys L 0 = n2 at hn2 bd3 ⊢
 generalize shp L xs = V at hbest ho hn1 hi h0 ⊢
 generalize shp L ys = V2 at hbest ho hn2 hi2 ⊢
 have HN := Lib.hid hN; clear hN
 have HI := Lib.hid hi; clear hi
 have HI2 := Lib.hid hi2; clear hi2
 have HB := Lib.hid hbest; clear hbest
 have HO := Lib.hid ho; clear ho
 have HN1 := Lib.hid hn1; clear hn1
 have HN2 := Lib.hid hn2; clear hn2
 obtain ⟨W0, hW0⟩ : ∃ W0, ((w.alloc (.cells V 129)).alloc (.cells V2 129)).alloc (.cells #[.int .i64 0, .int .i64 0] 185) = W0 := ⟨_, rfl⟩
 have hB0 : Below w.heap.size w W0 := by rw [<- hW0]; exact (((Below.refl _ w).alloc (Nat.le_refl _) _).alloc (by simp) _).alloc (by simp; omega) _
 have hs0 : W0.heap.size = w.heap.size + 3 := by rw [<- hW0]; simp
 have r1 : W0.heap[w.heap.size]? = some (.cells V 129 (0, 0)) := by
  rw [<- hW0, hold_old _ _ _ (by simp; omega)]; exact heap_alloc2_old w _ _
 have r2 : W0.heap[w.heap.size + 1]? = some (.cells V2 129 (0, 0)) := by
  rw [<- hW0, hold_old _ _ _ (by simp)]; exact heap_alloc2_new w _ _
 have r3 : W0.heap[w.heap.size + 1 + 1]? = some (.cells #[.int .i64 0, .int .i64 0] 185 (0, 0)) := by
  have hsz : ((w.alloc (.cells V 129)).alloc (.cells V2 129)).heap.size = w.heap.size + 1 + 1 := by simp
  rw [<- hW0, <- hsz]; exact heap_alloc_new _ _
 have z0 : W0.cell? ⟨w.heap.size, 0, none⟩ = some (.int .i64 L) := (cell_of_row W0 _ 0 _ _ _ r1).trans h0
 have z0e : (((w.alloc (.cells V 129)).alloc (.cells V2 129)).alloc (.cells #[.int .i64 0, .int .i64 0] 185)).cell? ⟨w.heap.size, 0, none⟩ = some (.int .i64 L) := by rw [hW0]; exact z0
 have R1 := Lib.hid r1; have R2 := Lib.hid r2; have R3 := Lib.hid r3; clear r1 r2 r3
 have HW0 := Lib.hid hW0; clear hW0 h0
 have hcn : (W0.alloc (.cells #[.int .i64 (L : Int)] 3)).cell? ⟨w.heap.size + 3, 0, none⟩ = some (.int .i64 L) := by rw [<- hs0]; exact (cell_of_row _ _ 0 _ _ _ (heap_alloc_new _ _)).trans rfl
 have HCN := Lib.hid hcn; clear hcn
 go_enter Tryz.func89, Tryz.ntmps89
 go_wp2_with fail
 rw [HW0.out]
 go_wp2_with (first
  | (go_at_call 142; refine (shifts_any _ _).mono ?_; rintro e w1 ⟨rfl, rfl⟩)
  | (go_at_call 157; refine (HB.out (w.heap.size + 3) w.heap.size (w.heap.size + 1) _ ((hold_old W0 _ _ (by omega)).trans R1.out) ((hold_old W0 _ _ (by omega)).trans R2.out) HCN.out).mono ?_; rintro e w2 ⟨rfl, hb2⟩; have hbb2 : Below W0.heap.size W0 w2 := ((Below.refl _ W0).alloc (Nat.le_refl _) (.cells #[.int .i64 L] 3)).trans (hb2.mono (by simp)))
  | (refine wpList_load_row (by rfl) 129 _ (by rfl) w.heap.size (by rfl) _ V _ _ ((hbb2.block _ (by omega)).trans R1.out) Tryz.underlying129 (by rfl) HI.out ?_)
  | (refine wpList_load_row (by rfl) 129 _ (by rfl) (w.heap.size + 1) (by rfl) _ V2 _ _ ((hbb2.block _ (by omega)).trans R2.out) Tryz.underlying129 (by rfl) HI2.out ?_)
  | (go_at_call 94; refine (HO.out _).mono ?_; rintro e w3 ⟨rfl, hb3⟩; have hbb3 : Below W0.heap.size W0 w3 := hbb2.trans (hb3.mono hbb2.size)))
 have k1 : w3.drew.heap[w.heap.size]? = some (.cells V 129 (0, 0)) := (hbb3.block _ (by omega)).trans R1.out
 have k2 : w3.drew.heap[w.heap.size + 1]? = some (.cells V2 129 (0, 0)) := (hbb3.block _ (by omega)).trans R2.out
 have k3 : w3.drew.heap[w.heap.size + 1 + 1]? = some (.cells #[.int .i64 0, .int .i64 0] 185 (0, 0)) := (hbb3.block _ (by omega)).trans R3.out
 have hs3 : w.heap.size + 3 <= w3.drew.heap.size := by have := hbb3.size; show w.heap.size + 3 <= w3.heap.size; omega
 have hbw3 : Below w.heap.size w w3.drew := bel_drewN (hB0.trans (hbb3.mono (by omega))) 1
 have m1 := HN.out
 have hmul1 : IntKind.i64.wrap (max 0 r * max 0 r) = max 0 r * max 0 r := by
  refine IntWalk.i64_in _ ?_
  have h1 : 0 <= max 0 r := by omega
  have h2 : max 0 r <= 1032256 := by omega
  have := Int.mul_le_mul h2 h2 h1 (by omega)
  have := Int.mul_nonneg h1 h1
  omega
 have hmul2 : IntKind.i64.wrap (n1 * n2) = n1 * n2 := by
  refine IntWalk.i64_in _ ?_
  have ha : n1.natAbs <= 1032256 := by omega
  have hb : n2.natAbs <= 1032256 := by omega
  have h := Nat.mul_le_mul ha hb
  rw [<- Int.natAbs_mul] at h
  omega
 refine wp_region_held_drew (S := fun w' => w'.heap[w.heap.size]? = some (.cells V 129 (0, 0)) /\ w'.heap[w.heap.size + 1]? = some (.cells V2 129 (0, 0))) (by kernel_rfl) ⟨k1, k2⟩ (fun hHeld => ?_)
 refine tkV 3 (.agg V) hHeld ?_ (hy := by intro w' h; exact exec_load_row 129 _ rfl w.heap.size rfl 129 V (0, 0) _ h.1 Tryz.underlying129 (by rfl) HI.out)
 refine tkV 5 (.agg V2) hHeld ?_ (hy := by intro w' h; exact exec_load_row 129 _ rfl (w.heap.size + 1) rfl 129 V2 (0, 0) _ h.2 Tryz.underlying129 (by rfl) HI2.out)
 refine tkV 0 (.int .i64 (max 0 r)) hHeld ?_
 refine tkV 1 (.int .i64 (max 0 r)) hHeld ?_
 refine tkV 2 (.int .i64 (max 0 r * max 0 r)) hHeld ?_
 refine tkC 4 (fun K hK => ?_)
 go_simp
 refine (HN1.out _).mono ?_
 rintro e w4 ⟨rfl, hb4⟩
 have p1 := (hb4.block _ (by omega)).trans k1
 have p2 := (hb4.block _ (by omega)).trans k2
 have p3 := (hb4.block _ (by omega)).trans k3
 have hs4 : w.heap.size + 3 <= w4.heap.size := by have := hb4.size; omega
 refine hK.out _ _ ⟨p1, p2⟩ (fun hHeld4 => ?_)
 clear hK K
 try simp only [Act.put, List.setIfInBounds_toArray, List.set_cons_zero, List.set_cons_succ]
 refine tkC 6 (fun K hK => ?_)
 go_simp
 refine (HN2.out _).mono ?_
 rintro e w5 ⟨rfl, hb5⟩
 have q1 := (hb5.block _ (by omega)).trans p1
 have q2 := (hb5.block _ (by omega)).trans p2
 have q3 := (hb5.block _ (by omega)).trans p3
 have c0 := (cell_of_row w5 _ 0 _ _ _ q3).trans rfl
 have c1 := (cell_of_row w5 _ 1 _ _ _ q3).trans rfl
 have d0 := frozen_of_row w5 _ 0 _ _ q3
 have d1 := frozen_of_row w5 _ 1 _ _ q3
 refine hK.out _ _ ⟨q1, q2⟩ (fun hHeld5 => ?_)
 clear hK K
 try simp only [Act.put, List.setIfInBounds_toArray, List.set_cons_zero, List.set_cons_succ]
 refine tkV 7 (.int .i64 (n1 * n2)) hHeld5 ?_
 refine tkV 8 (.agg #[.int .i64 (max 0 r * max 0 r), .int .i64 (n1 * n2)]) hHeld5 ?_
 refine tkC 9 (fun K hK => ?_)
 have c1' : (w5.setCell ⟨w.heap.size + 1 + 1, 0, none⟩ (.int .i64 (max 0 r * max 0 r))).cell? ⟨w.heap.size + 1 + 1, 1, none⟩ = some (.int .i64 0) := by rw [World.cell?_setCell_other _ _ _ _ (by simp)]; exact c1
 go_simp
 refine hK.out _ _ ⟨(heap_setCell_other _ _ _ _ (by show w.heap.size ≠ w.heap.size + 1 + 1; omega)).trans ((heap_setCell_other _ _ _ _ (by show w.heap.size ≠ w.heap.size + 1 + 1; omega)).trans q1), (heap_setCell_other _ _ _ _ (by show w.heap.size + 1 ≠ w.heap.size + 1 + 1; omega)).trans ((heap_setCell_other _ _ _ _ (by show w.heap.size + 1 ≠ w.heap.size + 1 + 1; omega)).trans q2)⟩ (fun hHeld6 => ?_)
 clear hK K
 try simp only [Act.put, List.setIfInBounds_toArray, List.set_cons_zero, List.set_cons_succ]
 refine wpAnyH_done (by kernel_rfl) ?_ _
 have z1 : ((w5.setCell ⟨w.heap.size + 1 + 1, 0, none⟩ (.int .i64 (max 0 r * max 0 r))).setCell ⟨w.heap.size + 1 + 1, 1, none⟩ (.int .i64 (n1 * n2))).heap[w.heap.size + 1 + 1]? = _ := heap_setCell_same _ _ 1 _ _ (.int .i64 (n1 * n2)) (heap_setCell_same w5 _ 0 _ _ (.int .i64 (max 0 r * max 0 r)) q3)
 have hbw5 : Below w.heap.size w w5 := (hbw3.trans (hb4.mono (by omega))).trans (hb5.mono (by omega))
 have hbz : Below w.heap.size w ((w5.setCell ⟨w.heap.size + 1 + 1, 0, none⟩ (.int .i64 (max 0 r * max 0 r))).setCell ⟨w.heap.size + 1 + 1, 1, none⟩ (.int .i64 (n1 * n2))) := (hbw5.setCell (by show w.heap.size <= w.heap.size + 1 + 1; omega) _).setCell (by show w.heap.size <= w.heap.size + 1 + 1; omega) _
 go_wp2
 refine bodyPost_ret (v := .agg #[.int .i64 (max 0 r * max 0 r), .int .i64 (n1 * n2)]) ?_ rfl ⟨by rw [HN.out], hbz⟩
 exact results_cell_row rfl _ _ (w.heap.size + 1 + 1) _ _ _ _ (by rfl) z1 Tryz.underlying185 rfl (by kernel_rfl)
end Go.Proofs.YtdpjdifoonfcdaaGreatDoor

namespace Go.Proofs.YtdpjdifoonfcdaaGreatDoor
open Go.RowKit
theorem box_free {w w1 : World} {cs : Array Value} {T : TypeId} {B : Nat} (hb : Below B (w.alloc (.cells cs T)) w1) (hB : w.heap.size < B) (i : Nat) : w1.frozen? ⟨w.heap.size, i, none⟩ = false := by
 rw [hb.frozen (p := ⟨w.heap.size, i, none⟩) hB]; simp
theorem Cells.set {w : World} {ao : Option Addr} {cs : List Value} {p : Addr} {v0 u : Value} (h : Cells w ao cs) (hp : w.cell? p = some v0) (hn : ∀ x ∈ cs, x ≠ v0) : Cells (w.setCell p u) ao cs := by
 rcases h with h | ⟨b, off, h1, h2⟩
 · exact .inl h
 · refine .inr ⟨b, off, h1, fun j x hx => ?_⟩
   have h3 := h2 j x hx
   rw [World.cell?_setCell_other]
   · exact h3
   · rintro rfl
     rw [hp] at h3
     exact hn x (List.mem_of_getElem? hx) (Option.some.inj h3).symm
def NoNum : Value -> Prop | .int _ _ => False | _ => True
theorem NatV.set {w : World} {v : Value} {n : Nat} {p : Addr} {v0 u : Value} (h : NatV w v n) (hp : w.cell? p = some v0) (hn : NoNum v0) : NatV (w.setCell p u) v n := by
 obtain ⟨a, c, h1, h2, h3⟩ := h
 refine ⟨a, c, h1, h2.set hp ?_, h3⟩
 intro x hx e
 simp only [dgs, List.mem_map] at hx
 obtain ⟨d, _, rfl⟩ := hx
 subst e; exact hn
theorem NatV.box3 {w : World} {v : Value} {n b : Nat} {x0 x1 x2 u0 u1 u2 : Value} (h : NatV w v n) (q0 : w.cell? ⟨b, 0, none⟩ = some x0) (q1 : w.cell? ⟨b, 1, none⟩ = some x1) (q2 : w.cell? ⟨b, 2, none⟩ = some x2)
 (n0 : NoNum x0) (n1 : NoNum x1) (n2 : NoNum x2) : NatV (((w.setCell ⟨b, 0, none⟩ u0).setCell ⟨b, 1, none⟩ u1).setCell ⟨b, 2, none⟩ u2) v n := by
 refine ((h.set q0 n0).set (v0 := x1) ?_ n1).set (v0 := x2) ?_ n2
 · rw [World.cell?_setCell_other _ _ _ _ (by simp)]; exact q1
 · rw [World.cell?_setCell_other _ _ _ _ (by simp), World.cell?_setCell_other _ _ _ _ (by simp)]; exact q2
theorem natV_nil (w : World) : NatV w (.slice none 0 0) 0 := ⟨none, 0, by rw [dig_zero]; rfl, by rw [dig_zero]; exact Cells.nil _ _, by rw [dig_zero]; simp, by omega⟩
theorem dig_1 : dig 1 = [1] := dig_small (by decide) (by decide)
theorem one_any (w : World) :
 Calls Tryz.prog 149 #[] w fun e w' => (∃ v, e = .returned v /\ NatV w' v 1) /\ Below w.heap.size w w' := by
 go_enter Tryz.func149, Tryz.ntmps149
 go_wp2
 go_ret
 refine ⟨⟨_, rfl, ⟨some ⟨w.heap.size, 0, none⟩, 1, by rw [dig_1]; rfl, ?_, by rw [dig_1]; simp, by omega⟩⟩, (Below.refl _ _).alloc (Nat.le_refl _) _⟩
 rw [dig_1]
 refine .inr ⟨w.heap.size, 0, rfl, fun j u hu => ?_⟩
 match j, hu with
 | 0, hu => simp [dgs] at hu; subst hu; simp
def RatV (w : World) (v : Value) (s : Bool) (n d : Nat) : Prop := ∃ vn vd, v = .agg #[.bool s, vn, vd] /\ NatV w vn n /\ NatV w vd d
theorem RatV.below {w w' : World} {B : Nat} {v : Value} {s : Bool} {n d : Nat} (h : RatV w v s n d) (hb : Below B w w') (hB : w.heap.size <= B) : RatV w' v s n d := by
 obtain ⟨vn, vd, h1, h2, h3⟩ := h
 exact ⟨vn, vd, h1, h2.below hb hB, h3.below hb hB⟩
theorem NatV.cases {w : World} {v : Value} {n : Nat} (h : NatV w v n) : ∃ a c, v = .slice a (dig n).length c := by
 obtain ⟨a, c, h1, _⟩ := h; exact ⟨a, c, h1⟩
set_option maxRecDepth 100000 in
theorem reduced_any (K : Nat) (hov : OverOK K) (s : Bool) (va vb : Value) (m n : Nat) (w : World) (ha : NatV w va m) (hb : NatV w vb n) (hm : (dig m).length <= 17592186044415) (hn : (dig n).length <= 17592186044415) (hK : n < K) (hn0 : n ≠ 0) :
 Calls Tryz.prog 85 #[.bool s, va, vb] w fun e w' => (∃ v, e = .returned v /\ RatV w' v (s && decide (m ≠ 0)) (m / Nat.gcd m n) (n / Nat.gcd m n)) /\ Below w.heap.size w w' := by
 by_cases h0 : m = 0
 · subst h0
   have e1 : 0 / Nat.gcd 0 n = 0 := Nat.zero_div _
   have e2 : n / Nat.gcd 0 n = 1 := by rw [Nat.gcd_zero_left]; exact Nat.div_self (by omega)
   obtain ⟨a, c, rfl⟩ := ha.cases
   have hl0 : (dig 0).length = 0 := by rw [dig_zero]; rfl
   rw [hl0]
   have HE1 := Lib.hid e1; have HE2 := Lib.hid e2; clear e1 e2 ha hb hl0
   go_enter Tryz.func85, Tryz.ntmps85
   go_wp2_with fail
   refine (one_any _).mono ?_
   rintro e w1 ⟨⟨v1, rfl, h1⟩, hb1⟩
   have H1 := Lib.hid h1; clear h1
   have q0 : w1.cell? ⟨w.heap.size, 0, none⟩ = some (.bool false) := box_keep hb1 (by simp) 0
   have q1 : w1.cell? ⟨w.heap.size, 1, none⟩ = some (.slice none 0 0) := box_keep hb1 (by simp) 1
   have q2 : w1.cell? ⟨w.heap.size, 2, none⟩ = some (.slice none 0 0) := box_keep hb1 (by simp) 2
   have f0 := box_free hb1 (by simp) 0
   have f1 := box_free hb1 (by simp) 1
   have f2 := box_free hb1 (by simp) 2
   have hz : w.heap.size + 1 <= w1.heap.size := by have := hb1.size; simpa using this
   obtain ⟨a1, c1, hv1⟩ := H1.out.cases
   rw [dig_1] at hv1
   subst hv1
   go_wp2
   refine bodyPost_ret (v := .agg #[.bool false, .slice none 0 0, .slice a1 1 c1]) (by simp [results, Tryz.results85, go_sem, q0, q1, q2]) rfl ?_
   refine ⟨⟨_, rfl, ?_⟩, ((((Below.refl _ _).alloc (Nat.le_refl _) _).trans (hb1.mono (by simp))).setCell (Nat.le_refl _) _).setCell (Nat.le_refl _) _ |>.setCell (Nat.le_refl _) _⟩
   rw [HE1.out, HE2.out]
   exact ⟨.slice none 0 0, .slice a1 1 c1, by simp, (natV_nil w1).box3 q0 q1 q2 trivial trivial trivial, H1.out.box3 q0 q1 q2 trivial trivial trivial⟩
 · have hs : (s && decide (m ≠ 0)) = s := by simp [h0]
   have hgp : 0 < Nat.gcd m n := Nat.gcd_pos_of_pos_right _ (by omega)
   have hgn : Nat.gcd m n <= n := Nat.gcd_le_right _ (by omega)
   have hgl : (dig (Nat.gcd m n)).length <= 17592186044415 := Nat.le_trans (dig_len_mono hgn) hn
   have hcom := common_any K hov va vb m n
   have hov1 := hov
   obtain ⟨a, c, rfl⟩ := ha.cases
   have hml : (((dig m).length : Int) == 0) = false := by
    have : (dig m).length ≠ 0 := by rw [Ne, dig_len_pos]; exact h0
    rw [beq_eq_false_iff_ne]; omega
   have HS := Lib.hid hs; have HCOM := Lib.hid hcom; have HOV := Lib.hid hov1; have HA := Lib.hid ha; have HB := Lib.hid hb
   have HN := Lib.hid hn0; have HM := Lib.hid h0
   clear hs hcom hov hov1 ha hb hn0 h0
   generalize hg : Nat.gcd m n = g at *
   have hg1 := (show g ≠ 0 by omega)
   have hgK : g < K := by omega
   have HG := Lib.hid hg; clear hg
   by_cases hg2 : g = 1
   · subst hg2
     have e1 : m / 1 = m := Nat.div_one _
     have e2 : n / 1 = n := Nat.div_one _
     have HE1 := Lib.hid e1; have HE2 := Lib.hid e2; clear e1 e2 hg1 hgp
     go_enter Tryz.func85, Tryz.ntmps85
     go_wp2_with fail
     refine (HCOM.out _ (HA.out.below ((Below.refl _ _).alloc (Nat.le_refl _) _) (Nat.le_refl _)) (HB.out.below ((Below.refl _ _).alloc (Nat.le_refl _) _) (Nat.le_refl _)) hm hn hK).mono ?_
     rintro e w1 ⟨⟨v1, rfl, h1⟩, hb1⟩
     obtain ⟨a1, c1, hv1⟩ := h1.cases
     have hc1 : Cells w1 a1 (dgs (dig 1)) := by
      obtain ⟨a2, c2, hv2, h2, _⟩ := h1
      rw [hv1] at hv2; simp at hv2; rw [hv2.1]; exact h2
     rw [dig_1] at hv1 hc1
     subst hv1
     obtain ⟨b, off, rfl⟩ := hc1.addr (by simp [dgs])
     have c0 : w1.cell? ⟨b, off, none⟩ = some (.int .u64 1) := hc1.at (j := 0) rfl
     clear h1 hc1
     have q0 : w1.cell? ⟨w.heap.size, 0, none⟩ = some (.bool false) := box_keep hb1 (by simp) 0
     have q1 : w1.cell? ⟨w.heap.size, 1, none⟩ = some (.slice none 0 0) := box_keep hb1 (by simp) 1
     have q2 : w1.cell? ⟨w.heap.size, 2, none⟩ = some (.slice none 0 0) := box_keep hb1 (by simp) 2
     have f0 := box_free hb1 (by simp) 0
     have f1 := box_free hb1 (by simp) 1
     have f2 := box_free hb1 (by simp) 2
     obtain ⟨ab, cb, hvb⟩ := HB.out.cases
     subst hvb
     go_wp2
     refine bodyPost_ret (v := .agg #[.bool s, .slice a (dig m).length c, .slice ab (dig n).length cb]) (by simp [results, Tryz.results85, go_sem, q0, q1, q2]) rfl ?_
     have hbw : Below w.heap.size w w1 := ((Below.refl _ _).alloc (Nat.le_refl _) _).trans (hb1.mono (by simp))
     refine ⟨⟨_, rfl, ?_⟩, ((hbw.setCell (Nat.le_refl _) _).setCell (Nat.le_refl _) _).setCell (Nat.le_refl _) _⟩
     rw [HS.out, HE1.out, HE2.out]
     exact ⟨_, _, rfl, (HA.out.below hbw (Nat.le_refl _)).box3 q0 q1 q2 trivial trivial trivial, (HB.out.below hbw (Nat.le_refl _)).box3 q0 q1 q2 trivial trivial trivial⟩
   · have hg3 : 2 <= g := by omega
     go_enter Tryz.func85, Tryz.ntmps85
     go_wp2_with fail
     refine (HCOM.out _ (HA.out.below ((Below.refl _ _).alloc (Nat.le_refl _) _) (Nat.le_refl _)) (HB.out.below ((Below.refl _ _).alloc (Nat.le_refl _) _) (Nat.le_refl _)) hm hn hK).mono ?_
     rintro e w1 ⟨⟨v1, rfl, h1⟩, hb1⟩
     have H1 := Lib.hid h1
     obtain ⟨a1, c1, hv1, hc1, _⟩ := h1
     subst hv1
     have hlp : (dig g).length ≠ 0 := by rw [Ne, dig_len_pos]; exact hg1
     obtain ⟨b, off, rfl⟩ := hc1.addr (dgs_ne (by omega))
     obtain ⟨x, hx⟩ := get_of_lt (show 0 < (dig g).length by omega)
     have c0 : w1.cell? ⟨b, off, none⟩ = some (.int .u64 (x : Nat)) := hc1.dgs hx
     have hx1 : (dig g).length = 1 -> 1 < x := by
      intro hl
      have hgs := val_dig g
      obtain ⟨y, hy⟩ : ∃ y, dig g = [y] := by
       match h : dig g, hl with
       | [y], _ => exact ⟨y, rfl⟩
      rw [hy] at hx hgs; simp at hx; subst hx; simp [val] at hgs; omega
     have hbw : Below w.heap.size w w1 := ((Below.refl _ _).alloc (Nat.le_refl _) _).trans (hb1.mono (by simp))
     have hbx := hb1
     have HC1 := Lib.hid hc1; clear hc1 hx
     have HB1 := Lib.hid hb1; clear hb1
     by_cases hl1 : 1 < (dig g).length
     · have hlI : (1 : Int) < (dig g).length := by omega
       clear hx1
       go_wp2_with fail
       refine (HOV.out _ _ m g w1 (HA.out.below hbw (Nat.le_refl _)) H1.out hm hgl hg1 hgK).mono ?_
       rintro e w2 ⟨⟨vq, vr, rfl, hq, _⟩, hb2⟩
       have HQ := Lib.hid hq; clear hq
       have hbw2 : Below w.heap.size w w2 := hbw.trans (hb2.mono hbw.size)
       have hbx2 := hbx.trans (hb2.mono hbx.size)
       have H12 := Lib.hid (H1.out.below hb2 (Nat.le_refl _))
       clear hb2
       go_wp2_with fail
       refine (HOV.out _ _ n g w2 (HB.out.below hbw2 (Nat.le_refl _)) H12.out hn hgl hg1 hgK).mono ?_
       rintro e w3 ⟨⟨vq2, vr2, rfl, hq2, _⟩, hb3⟩
       have HQ1 := Lib.hid (HQ.out.below hb3 (Nat.le_refl _))
       have HQ2 := Lib.hid hq2; clear hq2
       have hbw3 : Below w.heap.size w w3 := hbw2.trans (hb3.mono hbw2.size)
       have hbx3 := hbx2.trans (hb3.mono hbx2.size)
       clear hb3
       have q0 : w3.cell? ⟨w.heap.size, 0, none⟩ = some (.bool false) := box_keep hbx3 (by simp) 0
       have q1 : w3.cell? ⟨w.heap.size, 1, none⟩ = some (.slice none 0 0) := box_keep hbx3 (by simp) 1
       have q2 : w3.cell? ⟨w.heap.size, 2, none⟩ = some (.slice none 0 0) := box_keep hbx3 (by simp) 2
       have f0 := box_free hbx3 (by simp) 0
       have f1 := box_free hbx3 (by simp) 1
       have f2 := box_free hbx3 (by simp) 2
       obtain ⟨aq, cq, hvq⟩ := HQ1.out.cases
       obtain ⟨aq2, cq2, hvq2⟩ := HQ2.out.cases
       subst hvq hvq2
       clear hbx hbx2 hbx3
       go_wp2
       refine bodyPost_ret (v := .agg #[.bool s, .slice aq (dig (m / g)).length cq, .slice aq2 (dig (n / g)).length cq2]) (by simp [results, Tryz.results85, go_sem, q0, q1, q2]) rfl ?_
       refine ⟨⟨_, rfl, ?_⟩, ((hbw3.setCell (Nat.le_refl _) _).setCell (Nat.le_refl _) _).setCell (Nat.le_refl _) _⟩
       rw [HS.out]
       exact ⟨_, _, rfl, HQ1.out.box3 q0 q1 q2 trivial trivial trivial, HQ2.out.box3 q0 q1 q2 trivial trivial trivial⟩
     · have hlI : ¬ (1 : Int) < (dig g).length := by omega
       have hx2 : 1 < x := hx1 (by omega)
       have hlp2 : (0 : Int) < (dig g).length := by omega
       clear hx1
       go_wp2_with fail
       refine (HOV.out _ _ m g w1 (HA.out.below hbw (Nat.le_refl _)) H1.out hm hgl hg1 hgK).mono ?_
       rintro e w2 ⟨⟨vq, vr, rfl, hq, _⟩, hb2⟩
       have HQ := Lib.hid hq; clear hq
       have hbw2 : Below w.heap.size w w2 := hbw.trans (hb2.mono hbw.size)
       have hbx2 := hbx.trans (hb2.mono hbx.size)
       have H12 := Lib.hid (H1.out.below hb2 (Nat.le_refl _))
       clear hb2
       go_wp2_with fail
       refine (HOV.out _ _ n g w2 (HB.out.below hbw2 (Nat.le_refl _)) H12.out hn hgl hg1 hgK).mono ?_
       rintro e w3 ⟨⟨vq2, vr2, rfl, hq2, _⟩, hb3⟩
       have HQ1 := Lib.hid (HQ.out.below hb3 (Nat.le_refl _))
       have HQ2 := Lib.hid hq2; clear hq2
       have hbw3 : Below w.heap.size w w3 := hbw2.trans (hb3.mono hbw2.size)
       have hbx3 := hbx2.trans (hb3.mono hbx2.size)
       clear hb3
       have q0 : w3.cell? ⟨w.heap.size, 0, none⟩ = some (.bool false) := box_keep hbx3 (by simp) 0
       have q1 : w3.cell? ⟨w.heap.size, 1, none⟩ = some (.slice none 0 0) := box_keep hbx3 (by simp) 1
       have q2 : w3.cell? ⟨w.heap.size, 2, none⟩ = some (.slice none 0 0) := box_keep hbx3 (by simp) 2
       have f0 := box_free hbx3 (by simp) 0
       have f1 := box_free hbx3 (by simp) 1
       have f2 := box_free hbx3 (by simp) 2
       obtain ⟨aq, cq, hvq⟩ := HQ1.out.cases
       obtain ⟨aq2, cq2, hvq2⟩ := HQ2.out.cases
       subst hvq hvq2
       clear hbx hbx2 hbx3
       go_wp2
       refine bodyPost_ret (v := .agg #[.bool s, .slice aq (dig (m / g)).length cq, .slice aq2 (dig (n / g)).length cq2]) (by simp [results, Tryz.results85, go_sem, q0, q1, q2]) rfl ?_
       refine ⟨⟨_, rfl, ?_⟩, ((hbw3.setCell (Nat.le_refl _) _).setCell (Nat.le_refl _) _).setCell (Nat.le_refl _) _⟩
       rw [HS.out]
       exact ⟨_, _, rfl, HQ1.out.box3 q0 q1 q2 trivial trivial trivial, HQ2.out.box3 q0 q1 q2 trivial trivial trivial⟩
end Go.Proofs.YtdpjdifoonfcdaaGreatDoor

namespace Go.Proofs.YtdpjdifoonfcdaaGreatDoor
open Go.RowKit
def ValV (w : World) (v : Value) (s1 : Bool) (n1 d1 : Nat) (s2 : Bool) (n2 d2 : Nat) : Prop := ∃ a b c d, v = .agg #[.bool s1, a, b, .bool s2, c, d] /\ NatV w a n1 /\ NatV w b d1 /\ NatV w c n2 /\ NatV w d d2
theorem ValV.below {w w' : World} {B : Nat} {v : Value} {s1 s2 : Bool} {n1 d1 n2 d2 : Nat} (h : ValV w v s1 n1 d1 s2 n2 d2) (hb : Below B w w') (hB : w.heap.size <= B) : ValV w' v s1 n1 d1 s2 n2 d2 := by
 obtain ⟨a, b, c, d, h1, h2, h3, h4, h5⟩ := h
 exact ⟨a, b, c, d, h1, h2.below hb hB, h3.below hb hB, h4.below hb hB, h5.below hb hB⟩
theorem box_keep2 {w w1 : World} {o : Obj} {cs : Array Value} {T : TypeId} {B : Nat} (hb : Below B ((w.alloc (.cells cs T)).alloc o) w1) (hB : w.heap.size < B) (i : Nat) : w1.cell? ⟨w.heap.size, i, none⟩ = cs[i]? := by
 rw [hb.cell (p := ⟨w.heap.size, i, none⟩) hB]; simp
theorem box_keep1 {w w1 : World} {o : Obj} {cs : Array Value} {T : TypeId} {B : Nat} (hb : Below B ((w.alloc o).alloc (.cells cs T)) w1) (hB : w.heap.size + 1 < B) (i : Nat) : w1.cell? ⟨w.heap.size + 1, i, none⟩ = cs[i]? := by
 have := box_keep (w := w.alloc o) hb (by simpa using hB) i
 simpa using this
theorem box_free1 {w w1 : World} {o : Obj} {cs : Array Value} {T : TypeId} {B : Nat} (hb : Below B ((w.alloc o).alloc (.cells cs T)) w1) (hB : w.heap.size + 1 < B) (i : Nat) : w1.frozen? ⟨w.heap.size + 1, i, none⟩ = false := by
 have := box_free (w := w.alloc o) hb (by simpa using hB) i
 simpa using this
theorem bel_undrew {B : Nat} {a w : World} (h : Below B a.drew w) : Below B a w := ⟨h.os, h.tape, h.output, h.size, h.block⟩
theorem NatV.box6 {w : World} {v : Value} {n b : Nat} {x0 x1 x2 x3 x4 x5 u0 u1 u2 u3 u4 u5 : Value} (h : NatV w v n) (q0 : w.cell? ⟨b, 0, none⟩ = some x0) (q1 : w.cell? ⟨b, 1, none⟩ = some x1) (q2 : w.cell? ⟨b, 2, none⟩ = some x2)
 (q3 : w.cell? ⟨b, 3, none⟩ = some x3) (q4 : w.cell? ⟨b, 4, none⟩ = some x4) (q5 : w.cell? ⟨b, 5, none⟩ = some x5)
 (n0 : NoNum x0) (n1 : NoNum x1) (n2 : NoNum x2) (n3 : NoNum x3) (n4 : NoNum x4) (n5 : NoNum x5) :
 NatV ((((((w.setCell ⟨b, 0, none⟩ u0).setCell ⟨b, 1, none⟩ u1).setCell ⟨b, 2, none⟩ u2).setCell ⟨b, 3, none⟩ u3).setCell ⟨b, 4, none⟩ u4).setCell ⟨b, 5, none⟩ u5) v n := by
 refine (((h.box3 q0 q1 q2 n0 n1 n2).set (v0 := x3) ?_ n3).set (v0 := x4) ?_ n4).set (v0 := x5) ?_ n5
 all_goals
  repeat (rw [World.cell?_setCell_other _ _ _ _ (by simp)])
  assumption
set_option maxRecDepth 100000 in
theorem plain_any (s : Bool) (n d : Nat) (vx : Value) (w : World) (hx : RatV w vx s n d) :
 Calls Tryz.prog 84 #[vx] w fun e w' => (∃ v, e = .returned v /\ ValV w' v s n d false 0 1) /\ Below w.heap.size w w' := by
 obtain ⟨vn, vd, rfl, hn, hd⟩ := hx
 have HN := Lib.hid hn; have HD := Lib.hid hd
 obtain ⟨an, cn, rfl⟩ := hn.cases
 obtain ⟨ad, cd, rfl⟩ := hd.cases
 clear hn hd
 go_enter Tryz.func84, Tryz.ntmps84
 go_wp2_with fail
 go_region_with (go_at_call 149; refine (one_any _).mono ?_; rintro e w1 ⟨⟨v1, rfl, h1⟩, hb1⟩; have hb2 := bel_undrew hb1; have p0 : w1.cell? ⟨w.heap.size, 0, none⟩ = some (.bool s) := box_keep2 hb2 (by simp; omega) 0; have p1 : w1.cell? ⟨w.heap.size, 1, none⟩ = some (.slice an (dig n).length cn) := box_keep2 hb2 (by simp; omega) 1; have p2 : w1.cell? ⟨w.heap.size, 2, none⟩ = some (.slice ad (dig d).length cd) := box_keep2 hb2 (by simp; omega) 2; have q0 : w1.cell? ⟨w.heap.size + 1, 0, none⟩ = some (.bool false) := box_keep1 hb2 (by simp) 0; have q1 : w1.cell? ⟨w.heap.size + 1, 1, none⟩ = some (.slice none 0 0) := box_keep1 hb2 (by simp) 1; have q2 : w1.cell? ⟨w.heap.size + 1, 2, none⟩ = some (.slice none 0 0) := box_keep1 hb2 (by simp) 2; have q3 : w1.cell? ⟨w.heap.size + 1, 3, none⟩ = some (.bool false) := box_keep1 hb2 (by simp) 3; have q4 : w1.cell? ⟨w.heap.size + 1, 4, none⟩ = some (.slice none 0 0) := box_keep1 hb2 (by simp) 4; have q5 : w1.cell? ⟨w.heap.size + 1, 5, none⟩ = some (.slice none 0 0) := box_keep1 hb2 (by simp) 5; have f0 := box_free1 hb2 (by simp) 0; have f1 := box_free1 hb2 (by simp) 1; have f2 := box_free1 hb2 (by simp) 2; have f3 := box_free1 hb2 (by simp) 3; have f4 := box_free1 hb2 (by simp) 4; have f5 := box_free1 hb2 (by simp) 5; obtain ⟨a1, c1, hv1⟩ := h1.cases; rw [dig_1] at hv1; subst hv1)
 all_goals
  have H1 := Lib.hid h1; clear h1
  have hbw : Below w.heap.size w w1 := (((Below.refl _ _).alloc (Nat.le_refl _) _).alloc (by simp) _).trans (hb2.mono (by simp; omega))
  clear hb1 hb2
  go_wp2
  refine bodyPost_ret (v := .agg #[.bool s, .slice an (dig n).length cn, .slice ad (dig d).length cd, .bool false, .slice none 0 0, .slice a1 1 c1]) (by simp [results, Tryz.results84, go_sem, q0, q1, q2, q3, q4, q5]) rfl ?_
  refine ⟨⟨_, rfl, ?_⟩, ?_⟩
  · exact ⟨_, _, _, _, rfl, (HN.out.below hbw (Nat.le_refl _)).box6 q0 q1 q2 q3 q4 q5 trivial trivial trivial trivial trivial trivial, (HD.out.below hbw (Nat.le_refl _)).box6 q0 q1 q2 q3 q4 q5 trivial trivial trivial trivial trivial trivial, (natV_nil w1).box6 q0 q1 q2 q3 q4 q5 trivial trivial trivial trivial trivial trivial, H1.out.box6 q0 q1 q2 q3 q4 q5 trivial trivial trivial trivial trivial trivial⟩
  · exact (((((hbw.setCell (p := ⟨w.heap.size + 1, 0, none⟩) (by simp) _).setCell (p := ⟨w.heap.size + 1, 1, none⟩) (by simp) _).setCell (p := ⟨w.heap.size + 1, 2, none⟩) (by simp) _).setCell (p := ⟨w.heap.size + 1, 3, none⟩) (by simp) _).setCell (p := ⟨w.heap.size + 1, 4, none⟩) (by simp) _).setCell (p := ⟨w.heap.size + 1, 5, none⟩) (by simp) _
end Go.Proofs.YtdpjdifoonfcdaaGreatDoor
