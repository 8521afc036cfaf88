/- Parts of a proof, in build order: Bs, Shelf, Bt, N4, N5, M0, M1, Sb. -/
import Derived.Test.YtdpjdifoonfcdaaGreatDoorKh2
import Derived.ChangeKeysEq
import Derived.Shelf.Strings.Builder1
import Derived.Shelf.Strings.Builder2
import Derived.Shelf.Small.Bits
import Derived.Shelf.Small.Wraps
import Derived.Shelf.Strings.BuilderF
import Derived.Shelf.Strings.BuilderK
import Derived.Shelf.Strings.Builder2Cap
import Derived.Shelf.Strconv.Itoa0
import Derived.Shelf.Strconv.Itoa1
import Derived.Shelf.LaysM
import Derived.Shelf.Strconv.Itoa2
import Derived.Shelf.Strings.Search1
import Derived.Shelf.Strings.Search2
import Derived.Shelf.Strings.Search3
import Derived.Shelf.Strings.Cut
import Derived.Shelf.Strings.Count
import Derived.Shelf.Strings.Shaped
import Derived.Shelf.Strings.Prefix
import Derived.Shelf.Bits.Mul64
import Derived.Shelf.Strings.Repeat
import Derived.Shelf.Unicode.DecodeSlow
import Derived.Shelf.Strings.BuilderCap
import Derived.Ground.Names2Prog
import Derived.Shelf.Slices.Clone
import Derived.Test.YtdpjdifoonfcdaaGreatDoorProg
import Derived.Deep.Quiet
import Derived.RangeFuncNested
import Derived.RangeFuncBound
import Derived.RangeFuncCalls
import Derived.RangeFuncLeaves
import Derived.Shelf.Abstract
import Derived.Shelf.RegionOpen
import Derived.WalkKit
import Derived.OwnWalkIn
import Derived.TacticsInMore
import Derived.LoopNIn
import Derived.LoopIn
import Derived.Deep.RegionHeld3
import Derived.Deep.RegionWith
import Derived.Lib.ItoaMem
import Derived.Lib.AppendIntMem
import Derived.Lib.ItoaNum

namespace Go.Proofs.YtdpjdifoonfcdaaGreatDoor
open Go.RowKit
theorem run_eqItems_ints {P : Program} {w : World} (d : Nat) {e : TypeId} (he : P.underlying e = some (.int .i64)) (xs ys : List Int) : ∀ (is : List Nat), (∀ i ∈ is, i < xs.length /\ i < ys.length) ->
 (Op.eqItems (d + 1) e 1 (xs.map (Value.int .i64)).toArray (ys.map (Value.int .i64)).toArray is).run P w = .ok (is.all fun i => xs.getD i 0 == ys.getD i 0) w
 | [], _ => by simp [Op.eqItems]
 | i :: is, h => by
   obtain ⟨h1, h2⟩ := h i (by simp)
   have ih := run_eqItems_ints (w := w) d he xs ys is (fun j hj => h j (by simp [hj]))
   have px : (part e (xs.map (Value.int .i64)).toArray (i * 1)).run P w = .ok (.int .i64 (xs.getD i 0)) w := by
    simp [part, isAgg, run_underlying he, List.getD, List.getElem?_eq_getElem h1]
   have py : (part e (ys.map (Value.int .i64)).toArray (i * 1)).run P w = .ok (.int .i64 (ys.getD i 0)) w := by
    simp [part, isAgg, run_underlying he, List.getD, List.getElem?_eq_getElem h2]
   have pe := run_equalIn_int (P := P) w d e .i64 .i64 (xs.getD i 0) (ys.getD i 0) he
   simp only [Op.eqItems, Sem.run_bind, px, py, pe, Result.andThen_ok, List.all_cons]
   cases hb : (xs.getD i 0 == ys.getD i 0)
   · simp
   · simpa using ih
theorem all_range_ints : ∀ (xs ys : List Int), xs.length = ys.length -> ((List.range xs.length).all fun i => xs.getD i 0 == ys.getD i 0) = (xs == ys)
 | [], [], _ => rfl
 | x :: xs, y :: ys, h => by
   have ih := all_range_ints xs ys (by simpa using h)
   rw [List.length_cons, List.range_succ_eq_map, List.all_cons, List.all_map]
   simp only [List.getD_cons_zero, Function.comp_def, List.getD_cons_succ, ih]
   simp [List.cons_beq_cons]
 | [], _ :: _, h => by simp at h
 | _ :: _, [], h => by simp at h
theorem shp_extract (L : Int) (xs : List Int) (h : xs.length = 64) : (shp L xs).extract 1 65 = (xs.map (Value.int .i64)).toArray := by
 unfold shp
 rw [List.extract_toArray]
 congr 1
 simp only [List.extract, List.drop_succ_cons, List.drop_zero]
 exact List.take_of_length_le (by simp [h])
theorem infoI : ∃ i, Tryz.prog.info? 3 = some i /\ i.size = 1 := by
 have h : (Tryz.prog.info? 3).map (·.size) = some 1 := by kernel_rfl
 cases e : Tryz.prog.info? 3 with
 | none => rw [e] at h; simp at h
 | some i => rw [e] at h; exact ⟨i, rfl, by simpa using h⟩
theorem cells3 : Tryz.prog.cellsOf 3 = 1 := by kernel_rfl
theorem flds : Tryz.prog.underlying 129 = some (.struct (Tryz.prog.fieldsOf 129)) := by kernel_rfl
theorem stood : Tryz.prog.stoodInHeld 129 = false := Tryz.stoodInHeld129
theorem flds2 : ∃ f0 f1 : Field, (Tryz.prog.fieldsOf 129).toList = [f0, f1] /\ f0.name = "length" /\ f0.type = 3 /\ f0.offset = 0 /\ f1.name = "samples" /\ f1.type = 127 /\ f1.offset = 1 := by
 have e3 := TypeDesc.struct.inj (Option.some.inj (Tryz.underlying129.symm.trans flds))
 rw [<- e3]
 exact ⟨_, _, rfl, rfl, rfl, rfl, rfl, rfl, rfl⟩
theorem part3 (K : Int) (zs : List Int) (w : World) : (part 3 (shp K zs) 0).run Tryz.prog w = .ok (.int .i64 K) w := by
 have h : (shp K zs)[0]? = some (.int .i64 K) := shp_zero _ _
 simp only [part, Sem.run_bind, Tryz.isAgg3, Result.andThen_ok, Bool.false_eq_true, if_false, h, Sem.run_pure]
theorem part99 (K : Int) (zs : List Int) (h : zs.length = 64) (w : World) : (part 127 (shp K zs) 1).run Tryz.prog w = .ok (.agg (zs.map (Value.int .i64)).toArray) w := by
 have h1 := shp_extract K zs h
 simp only [part, Sem.run_bind, Tryz.isAgg127, Result.andThen_ok, if_true, Tryz.sizeOf127, Sem.run_pure]
 rw [show 1 + 64 = 65 from rfl, h1]
theorem arr_eqd (d : Nat) (xs ys : List Int) (hx : xs.length = 64) (hy : ys.length = 64) (w : World) :
 (Op.equalIn (d + 2) 127 (.agg (xs.map (Value.int .i64)).toArray) (.agg (ys.map (Value.int .i64)).toArray)).run Tryz.prog w = .ok (xs == ys) w := by
 obtain ⟨i, hi, his⟩ := infoI
 rw [run_equalIn_array w (d + 1) _ _ Tryz.underlying127 hi, cells3, run_eqItems_ints d Tryz.underlying3 xs ys _ (by intro i hi; simp at hi; omega), <- all_range_ints xs ys (by omega), hx]
theorem shape_eqd (d : Nat) (L M : Int) (xs ys : List Int) (hx : xs.length = 64) (hy : ys.length = 64) (w : World) :
 (Op.equalIn (d + 3) 129 (.agg (shp L xs)) (.agg (shp M ys))).run Tryz.prog w = .ok (L == M && xs == ys) w := by
 obtain ⟨f0, f1, hf, n0, t0, o0, n1, t1, o1⟩ := flds2
 have pe := run_equalIn_int (P := Tryz.prog) w (d + 1) 3 .i64 .i64 L M Tryz.underlying3
 have ha := arr_eqd d xs ys hx hy w
 rw [run_equalIn_struct w (d + 2) 129 _ _ flds stood, hf]
 have m0 : f0.name ≠ "_" := by rw [n0]; decide
 have m1 : f1.name ≠ "_" := by rw [n1]; decide
 simp only [Op.eqFields, m0, m1, ne_eq, not_false_eq_true, if_true, t0, t1, o0, o1, Sem.run_bind, part3, Result.andThen_ok, pe]
 cases hL : (L == M) <;> cases hX : (xs == ys) <;> simp [part99 _ _ hx, part99 _ _ hy, ha, hX]
theorem shape_eq (L M : Int) (xs ys : List Int) (hx : xs.length = 64) (hy : ys.length = 64) (w : World) :
 (Op.equalIn 10000 129 (.agg (shp L xs)) (.agg (shp M ys))).run Tryz.prog w = .ok (L == M && xs == ys) w := shape_eqd 9997 L M xs ys hx hy w
def silentB (xs : List Int) : Bool := xs == smp 0 0 0
set_option maxRecDepth 100000 in
theorem norm_any (L : Int) (xs : List Int) (w : World) (hx : xs.length = 64) (hL1 : 1 <= L) (hL : L <= 64) (h1 : ∀ x ∈ xs, -127 <= x /\ x <= 127) :
 Calls Tryz.prog 81 #[.agg (shp L xs)] w fun e w' => e = .returned (.int .i64 (ovl xs xs L 0)) /\ Below w.heap.size w w' := by
 have ho := fun w => overlap_any L L xs xs 0 w hx hx hL1 hL (by omega) (by omega) h1 h1
 have hi : (Tryz.prog.info? 129).map (·.size) = some (shp L xs).size := by rw [shp_size, hx]; kernel_rfl
 generalize shp L xs = V at ho hi
 have HI := Lib.hid hi; clear hi
 have HO := Lib.hid ho; clear ho
 go_enter Tryz.func81, Tryz.ntmps81
 go_wp2_with (first
  | (refine wpList_load_row (by rfl) 129 _ (by rfl) w.heap.size (by rfl) _ V _ _ (heap_alloc_new _ _) Tryz.underlying129 (by rfl) HI.out ?_)
  | (go_at_call 94; refine (HO.out _).mono ?_; rintro e w1 ⟨rfl, hb1⟩))
 go_ret
 exact ⟨rfl, ((Below.refl _ _).alloc (Nat.le_refl _) _).trans (hb1.mono (by simp))⟩
set_option maxRecDepth 100000 in
set_option maxHeartbeats 4000000 in
theorem silent_any (L : Int) (xs : List Int) (w : World) (hx : xs.length = 64) :
 Calls Tryz.prog 64 #[.agg (shp L xs)] w fun e w' => e = .returned (.bool (silentB xs)) /\ Below w.heap.size w w' := by
 have hq := fun w => shape_eq L L xs (smp 0 0 0) hx (smp_length _ _ _) w
 obtain ⟨Z, hZ⟩ : ∃ Z, Z = shp 0 (smp 0 0 0) := ⟨_, rfl⟩
 have z : Tryz.zeroCells129 = Z := by rw [hZ]; exact zero101
 have hZs : Z.size = 65 := by rw [hZ, shp_size, smp_length]
 have hZn : ¬ Z = #[] := by intro h; rw [h] at hZs; simp at hZs
 have hset : Z.setIfInBounds 0 (.int .i64 L) = shp L (smp 0 0 0) := by rw [hZ]; simp [shp]
 have h0 : (shp L xs)[0]? = some (.int .i64 L) := shp_zero _ _
 have hi : (Tryz.prog.info? 129).map (·.size) = some (shp L xs).size := by rw [shp_size, hx]; kernel_rfl
 rw [<- hset] at hq
 generalize shp L xs = V at hq hi h0
 have HI := Lib.hid hi; clear hi
 have HQ := Lib.hid hq
 have H0 := Lib.hid h0
 clear hZ hset
 have hc0 : (w.alloc (.cells V 129)).cell? ⟨w.heap.size, 0, none⟩ = some (.int .i64 L) := by simpa using h0
 clear h0
 go_enter Tryz.func64, Tryz.ntmps64
 go_wp2_with (first
  | (refine wpList_load_row (by rfl) 129 _ (by rfl) w.heap.size (by rfl) _ V _ _ (heap_alloc_new _ _) Tryz.underlying129 (by rfl) HI.out ?_))
 go_ret
 exact ⟨by simp [silentB], (Below.refl _ _).alloc (Nat.le_refl _) _⟩
end Go.Proofs.YtdpjdifoonfcdaaGreatDoor

namespace Go.Proofs
open Go.Shelf
def Tryz.lays169_ren : Go.Shelf.Ren := ⟨fun | 169 => 281 | n => n, fun | 70 => 380 | 9 => 9 | 0 => 0 | 72 => 382 | 37 => 109 | 127 => 409 | 3 => 3 | 5 => 5 | n => n, fun | n => n⟩
theorem Tryz.lays169 : Go.Proofs.Lays.n169 Tryz.prog Tryz.lays169_ren := {
 mixed := by kernel_rfl
 f169 := Tryz.func281.trans (congrArg some (by kernel_rfl))
 t0 := Tryz.underlying0
 a0 := Tryz.isAgg0
 z0 := Tryz.sizeOf0
 v0 := Tryz.zeroValue0
 t3 := Tryz.underlying3
 a3 := Tryz.isAgg3
 z3 := Tryz.sizeOf3
 v3 := Tryz.zeroValue3
 t9 := Tryz.underlying9
 a9 := Tryz.isAgg9
 z9 := Tryz.sizeOf9
 v9 := Tryz.zeroValue9
 t37 := Tryz.underlying109
 a37 := Tryz.isAgg109
 z37 := Tryz.sizeOf109
 v37 := Tryz.zeroValue109
 t70 := Tryz.underlying380
 a70 := Tryz.isAgg380
 z70 := Tryz.sizeOf380
 v70 := Tryz.zeroValue380
 t72 := Tryz.underlying382
 a72 := Tryz.isAgg382
 z72 := Tryz.sizeOf382
 v72 := Tryz.zeroValue382
 t127 := Tryz.underlying409
 a127 := Tryz.isAgg409
 z127 := Tryz.sizeOf409
 v127 := Tryz.zeroValue409 }
theorem Tryz.Builder_Extra_169 : Builder.Extra Tryz.prog Tryz.lays169_ren := {
 sizeBuilder := by kernel_rfl
 liesBuilder := by kernel_rfl
 t5 := Tryz.underlying5
 a5 := Tryz.isAgg5
 z5 := Tryz.sizeOf5
 v5 := Tryz.zeroValue5
 infoByte := by kernel_rfl
 cellsByte := by kernel_rfl
 sizeByte := by kernel_rfl
 neB5 := by decide }
open Go.RowKit in
theorem Tryz.Builder_String (B b : Nat) (l : List UInt8) (w : World) (h : Lib.IsBuilder 382 5 B b (Lib.byteCells l) w) (h0 : l ≠ []) :
 Calls Tryz.prog 281 #[.pointer (some ⟨b, 0, none⟩)] w fun e w' => e = .returned (.string ⟨l.toArray⟩) /\ Below B w w' := Any.Builder_String Tryz.lays169 Tryz.Builder_Extra_169 B b l w h h0
def Tryz.lays103_ren : Go.Shelf.Ren := ⟨fun | 103 => 243 | 210 => 271 | 206 => 270 | n => n, fun | 9 => 9 | 4 => 4 | 24 => 301 | 3 => 3 | n => n, fun | n => n⟩
theorem Tryz.lays103 : Go.Proofs.Lays.n103 Tryz.prog Tryz.lays103_ren := {
 mixed := by kernel_rfl
 f103 := Tryz.func243.trans (congrArg some (by kernel_rfl))
 f206 := Tryz.func270.trans (congrArg some (by kernel_rfl))
 f210 := Tryz.func271.trans (congrArg some (by kernel_rfl))
 t3 := Tryz.underlying3
 a3 := Tryz.isAgg3
 z3 := Tryz.sizeOf3
 v3 := Tryz.zeroValue3
 t4 := Tryz.underlying4
 a4 := Tryz.isAgg4
 z4 := Tryz.sizeOf4
 v4 := Tryz.zeroValue4
 t9 := Tryz.underlying9
 a9 := Tryz.isAgg9
 z9 := Tryz.sizeOf9
 v9 := Tryz.zeroValue9
 t24 := Tryz.underlying301
 a24 := Tryz.isAgg301
 z24 := Tryz.sizeOf301
 v24 := Tryz.zeroValue301 }
open Go.RowKit in
theorem Tryz.strings_CutPrefix (s p : ByteArray) (w : World) :
 Calls Tryz.prog 243 #[.string s, .string p] w fun e w' => e = .returned (.tuple #[.string ⟨(Lib.trimPrefix s.data.toList p.data.toList).toArray⟩, .bool (Lib.hasPrefix s.data.toList p.data.toList)]) /\ w' = w := Any.strings_CutPrefix Tryz.lays103 s p w
def Tryz.lays104_ren : Go.Shelf.Ren := ⟨fun | 104 => 197 | 211 => 241 | 207 => 269 | n => n, fun | 9 => 9 | 4 => 4 | 24 => 301 | 3 => 3 | n => n, fun | n => n⟩
theorem Tryz.lays104 : Go.Proofs.Lays.n104 Tryz.prog Tryz.lays104_ren := {
 mixed := by kernel_rfl
 f104 := Tryz.func197.trans (congrArg some (by kernel_rfl))
 f207 := Tryz.func269.trans (congrArg some (by kernel_rfl))
 f211 := Tryz.func241.trans (congrArg some (by kernel_rfl))
 t3 := Tryz.underlying3
 a3 := Tryz.isAgg3
 z3 := Tryz.sizeOf3
 v3 := Tryz.zeroValue3
 t4 := Tryz.underlying4
 a4 := Tryz.isAgg4
 z4 := Tryz.sizeOf4
 v4 := Tryz.zeroValue4
 t9 := Tryz.underlying9
 a9 := Tryz.isAgg9
 z9 := Tryz.sizeOf9
 v9 := Tryz.zeroValue9
 t24 := Tryz.underlying301
 a24 := Tryz.isAgg301
 z24 := Tryz.sizeOf301
 v24 := Tryz.zeroValue301 }
open Go.RowKit in
theorem Tryz.strings_CutSuffix (s p : ByteArray) (w : World) (hs : s.size <= 9223372036854775807) :
 Calls Tryz.prog 197 #[.string s, .string p] w fun e w' => e = .returned (.tuple #[.string ⟨(Lib.trimSuffix s.data.toList p.data.toList).toArray⟩, .bool (Lib.hasSuffix s.data.toList p.data.toList)]) /\ w' = w := Any.strings_CutSuffix Tryz.lays104 s p w hs
def Tryz.lays283_ren : Go.Shelf.Ren := ⟨fun | 283 => 305 | n => n, fun | 3 => 3 | 9 => 9 | 4 => 4 | n => n, fun | n => n⟩
theorem Tryz.lays283 : Go.Proofs.Lays.n283 Tryz.prog Tryz.lays283_ren := {
 mixed := by kernel_rfl
 f283 := Tryz.func305.trans (congrArg some (by kernel_rfl))
 t3 := Tryz.underlying3
 a3 := Tryz.isAgg3
 z3 := Tryz.sizeOf3
 v3 := Tryz.zeroValue3
 t4 := Tryz.underlying4
 a4 := Tryz.isAgg4
 z4 := Tryz.sizeOf4
 v4 := Tryz.zeroValue4
 t9 := Tryz.underlying9
 a9 := Tryz.isAgg9
 z9 := Tryz.sizeOf9
 v9 := Tryz.zeroValue9 }
open Go.Lib in
theorem Tryz.internal_strconv_small (i : Nat) (h : i < 100) (w : World) :
 Calls Tryz.prog 305 #[.int .i64 i] w fun e w' => e = .returned (.string ⟨(Lib.decDigits i).toArray⟩) /\ w' = w := Any.internal_strconv_small Tryz.lays283 i h w
def Tryz.laysM284_ren : Go.Shelf.Ren := ⟨fun | 284 => 306 | 129 => 268 | 317 => 330 | 318 => 331 | n => n, fun | 53 => 208 | 3 => 3 | 212 => 430 | 0 => 0 | 4 => 4 | 46 => 289 | 5 => 5 | 9 => 9 | n => n, fun | 17 => 3 | n => n⟩
theorem Tryz.laysM284 : Go.Proofs.LaysM.n284 Tryz.prog Tryz.laysM284_ren := {
 mixed := by kernel_rfl
 f129 := Tryz.func268.trans (congrArg some (by kernel_rfl))
 f284 := Tryz.func306.trans (congrArg some (by kernel_rfl))
 f317 := Tryz.func330.trans (congrArg some (by kernel_rfl))
 f318 := Tryz.func331.trans (congrArg some (by kernel_rfl))
 t0 := Tryz.underlying0
 a0 := Tryz.isAgg0
 z0 := Tryz.sizeOf0
 v0 := Tryz.zeroValue0
 t3 := Tryz.underlying3
 a3 := Tryz.isAgg3
 z3 := Tryz.sizeOf3
 v3 := Tryz.zeroValue3
 t4 := Tryz.underlying4
 a4 := Tryz.isAgg4
 z4 := Tryz.sizeOf4
 v4 := Tryz.zeroValue4
 t5 := Tryz.underlying5
 a5 := Tryz.isAgg5
 z5 := Tryz.sizeOf5
 v5 := Tryz.zeroValue5
 t9 := Tryz.underlying9
 a9 := Tryz.isAgg9
 z9 := Tryz.sizeOf9
 v9 := Tryz.zeroValue9
 t46 := Tryz.underlying289
 a46 := Tryz.isAgg289
 z46 := Tryz.sizeOf289
 v46 := Tryz.zeroValue289
 t53 := Tryz.underlying208
 a53 := Tryz.isAgg208
 z53 := Tryz.sizeOf208
 v53 := Tryz.zeroValue208
 t212 := Tryz.underlying430
 a212 := Tryz.isAgg430
 z212 := Tryz.sizeOf430
 v212 := Tryz.zeroValue430
 g17 := by kernel_rfl
 i0 := by kernel_rfl
 i3 := by kernel_rfl
 i4 := by kernel_rfl
 i5 := by kernel_rfl
 i9 := by kernel_rfl
 i46 := by kernel_rfl
 i53 := by kernel_rfl
 i212 := by kernel_rfl
 m17 := by kernel_rfl }
open Go.Lib in
theorem Tryz.internal_strconv_numDigits (u : Nat) (h1 : 1 <= u) (h2 : u < 18446744073709551616) (w : World) (htab : Lib.TabIs Tryz.prog w "internal/strconv.uint64pow10" .u64 Lib.pow10Tab) :
 Calls Tryz.prog 306 #[.int .u64 u] w fun e w' => e = .returned (.int .i64 (Lib.nDigits u)) /\ w' = w := Any.internal_strconv_numDigits Tryz.laysM284 u h1 h2 w htab
def Tryz.lays285_ren : Go.Shelf.Ren := ⟨fun | 285 => 307 | n => n, fun | 37 => 109 | 53 => 208 | 3 => 3 | 4 => 4 | 51 => 370 | 9 => 9 | 5 => 5 | 0 => 0 | n => n, fun | n => n⟩
theorem Tryz.lays285 : Go.Proofs.Lays.n285 Tryz.prog Tryz.lays285_ren := {
 mixed := by kernel_rfl
 f285 := Tryz.func307.trans (congrArg some (by kernel_rfl))
 t0 := Tryz.underlying0
 a0 := Tryz.isAgg0
 z0 := Tryz.sizeOf0
 v0 := Tryz.zeroValue0
 t3 := Tryz.underlying3
 a3 := Tryz.isAgg3
 z3 := Tryz.sizeOf3
 v3 := Tryz.zeroValue3
 t4 := Tryz.underlying4
 a4 := Tryz.isAgg4
 z4 := Tryz.sizeOf4
 v4 := Tryz.zeroValue4
 t5 := Tryz.underlying5
 a5 := Tryz.isAgg5
 z5 := Tryz.sizeOf5
 v5 := Tryz.zeroValue5
 t9 := Tryz.underlying9
 a9 := Tryz.isAgg9
 z9 := Tryz.sizeOf9
 v9 := Tryz.zeroValue9
 t37 := Tryz.underlying109
 a37 := Tryz.isAgg109
 z37 := Tryz.sizeOf109
 v37 := Tryz.zeroValue109
 t51 := Tryz.underlying370
 a51 := Tryz.isAgg370
 z51 := Tryz.sizeOf370
 v51 := Tryz.zeroValue370
 t53 := Tryz.underlying208
 a53 := Tryz.isAgg208
 z53 := Tryz.sizeOf208
 v53 := Tryz.zeroValue208 }
open Go.RowKit Go.Sort Go.Lib in
theorem Tryz.internal_strconv_formatBase10 (blk off cap : Nat) (u : Nat) (d : Array UInt8) (w : World) (hH : Holds (fun (b : UInt8) => Value.int .u8 (b.toNat : Int)) w blk off d) (hu : u < 10 ^ d.size) (hu64 : u < 18446744073709551616) (hsz : d.size < 4611686018427387904) :
 Calls Tryz.prog 307 #[.slice (some ⟨blk, off, none⟩) d.size cap, .int .u64 u] w fun e w' =>
  e = .returned (.tuple #[]) /\ ∃ (n v' : Nat) (dk : Array UInt8), w' = (putRow (fun (b : UInt8) => Value.int .u8 (b.toNat : Int)) w blk off dk).drewN n /\ FmtInv d.size u 0 v' dk := Any.internal_strconv_formatBase10 Tryz.lays285 blk off cap u d w hH hu hu64 hsz
def Tryz.lays219_ren : Go.Shelf.Ren := ⟨fun | 219 => 272 | 217 => 295 | 225 => 296 | 224 => 297 | 267 => 298 | 266 => 322 | 314 => 323 | n => n, fun | 9 => 9 | 3 => 3 | 4 => 4 | 5 => 5 | 46 => 289 | 146 => 421 | 51 => 370 | n => n, fun | 1 => 0 | n => n⟩
theorem Tryz.lays219 : Go.Proofs.Lays.n219 Tryz.prog Tryz.lays219_ren := {
 mixed := by kernel_rfl
 f217 := Tryz.func295.trans (congrArg some (by kernel_rfl))
 f219 := Tryz.func272.trans (congrArg some (by kernel_rfl))
 f224 := Tryz.func297.trans (congrArg some (by kernel_rfl))
 f225 := Tryz.func296.trans (congrArg some (by kernel_rfl))
 f266 := Tryz.func322.trans (congrArg some (by kernel_rfl))
 f267 := Tryz.func298.trans (congrArg some (by kernel_rfl))
 f314 := Tryz.func323.trans (congrArg some (by kernel_rfl))
 t3 := Tryz.underlying3
 a3 := Tryz.isAgg3
 z3 := Tryz.sizeOf3
 v3 := Tryz.zeroValue3
 t4 := Tryz.underlying4
 a4 := Tryz.isAgg4
 z4 := Tryz.sizeOf4
 v4 := Tryz.zeroValue4
 t5 := Tryz.underlying5
 a5 := Tryz.isAgg5
 z5 := Tryz.sizeOf5
 v5 := Tryz.zeroValue5
 t9 := Tryz.underlying9
 a9 := Tryz.isAgg9
 z9 := Tryz.sizeOf9
 v9 := Tryz.zeroValue9
 t46 := Tryz.underlying289
 a46 := Tryz.isAgg289
 z46 := Tryz.sizeOf289
 v46 := Tryz.zeroValue289
 t51 := Tryz.underlying370
 a51 := Tryz.isAgg370
 z51 := Tryz.sizeOf370
 v51 := Tryz.zeroValue370
 t146 := Tryz.underlying421
 a146 := Tryz.isAgg421
 z146 := Tryz.sizeOf421
 v146 := Tryz.zeroValue421
 g1 := by kernel_rfl }
open Go.RowKit Go.Lib in
theorem Tryz.stringslite_Index_one (s : ByteArray) (c : UInt8) (w : World) :
 Calls Tryz.prog 272 #[.string s, .string ⟨#[c]⟩] w fun e w' => e = .returned (.int .i64 (Lib.indexByte s.data.toList c)) /\ w' = w := Any.stringslite_Index_one Tryz.lays219 s c w
def Tryz.lays105_ren : Go.Shelf.Ren := ⟨fun | 105 => 280 | 212 => 310 | 99 => 311 | 165 => 312 | 166 => 279 | 170 => 313 | 169 => 281 | 263 => 335 | 264 => 336 | 206 => 270 | 240 => 309 | 241 => 337 | 276 => 334 | 277 => 350 | n => n, fun | 9 => 9 | 3 => 3 | 4 => 4 | 20 => 20 | 0 => 0 | 46 => 289 | 109 => 407 | 5 => 5 | 72 => 382 | 76 => 330 | 51 => 370 | 146 => 421 | 53 => 208 | 148 => 435 | 70 => 380 | 37 => 109 | 75 => 329 | 127 => 409 | 164 => 432 | 80 => 251 | n => n, fun | n => n⟩
theorem Tryz.lays105 : Go.Proofs.Lays.n105 Tryz.prog Tryz.lays105_ren := {
 mixed := by kernel_rfl
 f99 := Tryz.func311.trans (congrArg some (by kernel_rfl))
 f105 := Tryz.func280.trans (congrArg some (by kernel_rfl))
 f165 := Tryz.func312.trans (congrArg some (by kernel_rfl))
 f166 := Tryz.func279.trans (congrArg some (by kernel_rfl))
 f169 := Tryz.func281.trans (congrArg some (by kernel_rfl))
 f170 := Tryz.func313.trans (congrArg some (by kernel_rfl))
 f206 := Tryz.func270.trans (congrArg some (by kernel_rfl))
 f212 := Tryz.func310.trans (congrArg some (by kernel_rfl))
 f240 := Tryz.func309.trans (congrArg some (by kernel_rfl))
 f241 := Tryz.func337.trans (congrArg some (by kernel_rfl))
 f263 := Tryz.func335.trans (congrArg some (by kernel_rfl))
 f264 := Tryz.func336.trans (congrArg some (by kernel_rfl))
 f276 := Tryz.func334.trans (congrArg some (by kernel_rfl))
 f277 := Tryz.func350.trans (congrArg some (by kernel_rfl))
 t0 := Tryz.underlying0
 a0 := Tryz.isAgg0
 z0 := Tryz.sizeOf0
 v0 := Tryz.zeroValue0
 t3 := Tryz.underlying3
 a3 := Tryz.isAgg3
 z3 := Tryz.sizeOf3
 v3 := Tryz.zeroValue3
 t4 := Tryz.underlying4
 a4 := Tryz.isAgg4
 z4 := Tryz.sizeOf4
 v4 := Tryz.zeroValue4
 t5 := Tryz.underlying5
 a5 := Tryz.isAgg5
 z5 := Tryz.sizeOf5
 v5 := Tryz.zeroValue5
 t9 := Tryz.underlying9
 a9 := Tryz.isAgg9
 z9 := Tryz.sizeOf9
 v9 := Tryz.zeroValue9
 t20 := Tryz.underlying20
 a20 := Tryz.isAgg20
 z20 := Tryz.sizeOf20
 v20 := Tryz.zeroValue20
 t37 := Tryz.underlying109
 a37 := Tryz.isAgg109
 z37 := Tryz.sizeOf109
 v37 := Tryz.zeroValue109
 t46 := Tryz.underlying289
 a46 := Tryz.isAgg289
 z46 := Tryz.sizeOf289
 v46 := Tryz.zeroValue289
 t51 := Tryz.underlying370
 a51 := Tryz.isAgg370
 z51 := Tryz.sizeOf370
 v51 := Tryz.zeroValue370
 t53 := Tryz.underlying208
 a53 := Tryz.isAgg208
 z53 := Tryz.sizeOf208
 v53 := Tryz.zeroValue208
 t70 := Tryz.underlying380
 a70 := Tryz.isAgg380
 z70 := Tryz.sizeOf380
 v70 := Tryz.zeroValue380
 t72 := Tryz.underlying382
 a72 := Tryz.isAgg382
 z72 := Tryz.sizeOf382
 v72 := Tryz.zeroValue382
 t75 := Tryz.underlying329
 a75 := Tryz.isAgg329
 z75 := Tryz.sizeOf329
 v75 := Tryz.zeroValue329
 t76 := Tryz.underlying330
 a76 := Tryz.isAgg330
 z76 := Tryz.sizeOf330
 v76 := Tryz.zeroValue330
 t109 := Tryz.underlying407
 a109 := Tryz.isAgg407
 z109 := Tryz.sizeOf407
 v109 := Tryz.zeroValue407
 t127 := Tryz.underlying409
 a127 := Tryz.isAgg409
 z127 := Tryz.sizeOf409
 v127 := Tryz.zeroValue409
 t146 := Tryz.underlying421
 a146 := Tryz.isAgg421
 z146 := Tryz.sizeOf421
 v146 := Tryz.zeroValue421
 t148 := Tryz.underlying435
 a148 := Tryz.isAgg435
 z148 := Tryz.sizeOf435
 v148 := Tryz.zeroValue435
 t164 := Tryz.underlying432
 a164 := Tryz.isAgg432
 z164 := Tryz.sizeOf432
 v164 := Tryz.zeroValue432 }
theorem Tryz.Builder_Extra_105 : Builder.Extra Tryz.prog Tryz.lays105_ren := {
 sizeBuilder := by kernel_rfl
 liesBuilder := by kernel_rfl
 t5 := Tryz.underlying5
 a5 := Tryz.isAgg5
 z5 := Tryz.sizeOf5
 v5 := Tryz.zeroValue5
 infoByte := by kernel_rfl
 cellsByte := by kernel_rfl
 sizeByte := by kernel_rfl
 neB5 := by decide }
open Go.RowKit Go.Lib in
theorem Tryz.strings_Repeat (s : ByteArray) (c : Nat) (w : World) (hc : c <= 9223372036854775807) (hlen : s.size * c <= 140737488355328) :
 Calls Tryz.prog 280 #[.string s, .int .i64 c] w fun e w' => e = .returned (.string ⟨(Lib.repeatL s.data.toList c).toArray⟩) /\ Below w.heap.size w w' := Any.strings_Repeat Tryz.lays105 Tryz.Builder_Extra_105 s c w hc hlen
def Tryz.laysNm215_ren : Go.Shelf.Ren := ⟨fun | 15 => 165 | n => n, fun | 22 => 24 | 3 => 3 | 4 => 4 | n => n, fun | n => n⟩
theorem Tryz.laysNm215 : Go.Proofs.Lays2.n15 Tryz.prog Tryz.laysNm215_ren := {
 mixed := by kernel_rfl
 f15 := Tryz.func165.trans (congrArg some (by kernel_rfl))
 t3 := Tryz.underlying3
 a3 := Tryz.isAgg3
 z3 := Tryz.sizeOf3
 v3 := Tryz.zeroValue3
 t4 := Tryz.underlying4
 a4 := Tryz.isAgg4
 z4 := Tryz.sizeOf4
 v4 := Tryz.zeroValue4
 t22 := Tryz.underlying24
 a22 := Tryz.isAgg24
 z22 := Tryz.sizeOf24
 v22 := Tryz.zeroValue24
 i3 := by kernel_rfl }
open Go.RowKit Go.Lib in
theorem Tryz.slices_Clone_int (b off n c : Nat) (zs : List Int) (w : World) (hz : n <= zs.length) (hbig : n * 8 <= 140737488355328) (hc : ∀ j, j < zs.length -> w.cell? ⟨b, off + j, none⟩ = some (.int .i64 (zs.getD j 0))) :
 Calls Tryz.prog 165 #[.slice (some ⟨b, off, none⟩) n c] w fun e w' => ∃ v', e = .returned v' /\ w'.ownsRow w.heap.size 3 1 v' n ((zs.take n).map (Value.int .i64)) /\ v' ≠ .slice none 0 0 /\ Below w.heap.size w w' := Any.slices_Clone_int Tryz.laysNm215 b off n c zs w hz hbig hc
end Go.Proofs

namespace Go.Proofs.YtdpjdifoonfcdaaGreatDoor
open Go.RowKit
theorem run_sliceAt_to {P : Program} {w : World} (t e : TypeId) (n : Nat) (a : Addr) (k : Nat) (h : P.underlying t = some (.array n e)) (hs : (sizeOf e).run P w = .ok 1 w) (hk : k <= n) :
 (Instr.sliceAt t (.pointer (some a)) none (some (.int .i64 k)) none).run P w = .ok (.slice (some (a.add 0)) k n) w := by
 have hb : ∀ code, (Instr.sliceBound (.int .i64 (k : Int)) n code).run P w = .ok k w := fun code => by
  rw [run_sliceBound _ _ _ _ _ (by omega) (by omega)]; simp
 simp [Instr.sliceAt, run_underlying h, Instr.sureAddr, Instr.sliceBounds, hb, hs, go_sem]
theorem run_sliceAt_mid {P : Program} {w : World} (t e : TypeId) (n : Nat) (a : Addr) (i k : Nat) (h : P.underlying t = some (.array n e)) (hs : (sizeOf e).run P w = .ok 1 w) (hi : i <= k) (hin : i < n) (hk : k <= n) :
 (Instr.sliceAt t (.pointer (some a)) (some (.int .i64 i)) (some (.int .i64 k)) none).run P w = .ok (.slice (some (a.add i)) (k - i) (n - i)) w := by
 have hb : ∀ code, (Instr.sliceBound (.int .i64 (k : Int)) n code).run P w = .ok k w := fun code => by
  rw [run_sliceBound _ _ _ _ _ (by omega) (by omega)]; simp
 have hn0 : ¬ n = i := by omega
 simp [Instr.sliceAt, run_underlying h, Instr.sureAddr, Instr.sliceBounds, hb, hs, hn0, go_sem]
 intro h'
 omega
set_option maxRecDepth 100000 in
set_option maxHeartbeats 4000000 in
theorem list_any (L : Nat) (xs : List Int) (w : World) (hx : xs.length = 64) (hL : L <= 64) :
 Calls Tryz.prog 93 #[.agg (shp L xs)] w fun e w' => (∃ b c, e = .returned (.slice b L c) /\ Cells w' b ((xs.take L).map (Value.int .i64))) /\ Below w.heap.size w w' := by
 have hcell : ∀ i x, xs[i]? = some x -> (shp L xs)[1 + i]? = some (.int .i64 x) := shp_succ L xs
 have h0 : (shp L xs)[0]? = some (.int .i64 L) := shp_zero _ _
 generalize shp L xs = V at hcell h0
 have hc0 : (w.alloc (.cells V 129)).cell? ⟨w.heap.size, 0, none⟩ = some (.int .i64 L) := by simpa using h0
 have hcl := Tryz.slices_Clone_int w.heap.size 1 L 64 xs (w.alloc (.cells V 129)) (by omega) (by omega) (fun j hj => by
  obtain ⟨x, hxx⟩ := get_of_lt hj
  rw [cell_of_row _ _ _ _ _ _ (heap_alloc_new _ _), hcell j x hxx]
  simp [List.getD_eq_getElem?_getD, hxx])
 have HCL := Lib.hid hcl; clear hcl
 have hsl := run_sliceAt_to (P := Tryz.prog) (w := w.alloc (.cells V 129)) 127 3 64 ⟨w.heap.size, 1, none⟩ L Tryz.underlying127 (Tryz.sizeOf3 _) hL
 rw [show (⟨w.heap.size, 1, none⟩ : Addr).add 0 = ⟨w.heap.size, 1, none⟩ from rfl] at hsl
 clear hcell h0
 go_enter Tryz.func93, Tryz.ntmps93
 go_wp2_with (go_at_call 165; refine HCL.out.mono ?_; rintro e w1 ⟨v, rfl, hown, _, hb⟩)
 obtain ⟨g, c, rfl, hcs⟩ := own_cells hown
 have HCS := Lib.hid hcs; clear hcs hown
 go_ret
 exact ⟨⟨g, c, rfl, HCS.out⟩, ((Below.refl _ _).alloc (Nat.le_refl _) _).trans (hb.mono (by simp))⟩
def wavE (L p q : Int) : Int := if waveOK L p q then 0 else 70
def wavR (L p q : Int) : List Int := if waveOK L p q then (wav L p q).take L.toNat else []
theorem wavR_length (L p q : Int) : (wavR L p q).length = if waveOK L p q then L.toNat else 0 := by
 unfold wavR
 split
 · rename_i h
   have := waveOK_true h
   rw [List.length_take, wav_length]; omega
 · rfl
set_option maxRecDepth 100000 in
set_option maxHeartbeats 4000000 in
theorem Wave_any (L p q : Int) (w : World) :
 Calls Tryz.prog 33 #[.int .i64 L, .agg #[.int .i64 p, .int .i64 q]] w fun e w' => (∃ b c, e = .returned (.tuple #[.slice b (wavR L p q).length c, .int .i64 (wavE L p q)]) /\ Cells w' b ((wavR L p q).map (Value.int .i64))) /\ Below w.heap.size w w' := by
 obtain ⟨Z, hZ⟩ : ∃ Z, Z = shp 0 (smp 0 0 0) := ⟨_, rfl⟩
 have z : Tryz.zeroCells129 = Z := by rw [hZ]; exact zero101
 have hZs : Z.size = 65 := by rw [hZ, shp_size, smp_length]
 have hw := fun w => wave_any L p q w
 have hVs := waveV_size L p q
 have hV1 := waveV_one L p q
 have hVe : waveOK L p q = true -> waveV L p q = shp L (wav L p q) := fun h => by simp [waveV, h]
 generalize waveV L p q = V at hw hVs hV1 hVe
 have hne : ¬ V = #[] := by intro h; rw [h] at hVs; simp at hVs
 have hst : ∀ wx : World, (storeCells ⟨wx.heap.size, 0, none⟩ V.toList 0).run Tryz.prog (wx.alloc (.cells Z 129)) = .ok () (wx.alloc (.cells V 129)) := fun wx => by
  rw [run_storeCells_row _ _ 129 Z _ (heap_alloc_new _ _) (by rw [hZs, Array.length_toList, hVs]) hV1, Array.toArray_toList]
  congr 1
  exact World.setRow_alloc_new _ _ _ _
 have hi : (Tryz.prog.info? 129).map (·.size) = some V.size := by rw [hVs]; kernel_rfl
 have HI := Lib.hid hi; clear hi
 have HW := Lib.hid hw; clear hw
 have HVE := Lib.hid hVe; clear hVe
 have HV1 := Lib.hid hV1; clear hV1
 clear hZ
 cases h1 : waveOK L p q
 · have he : wavE L p q = 70 := by simp [wavE, h1]
   have hr : wavR L p q = [] := by simp [wavR, h1]
   have HE := Lib.hid he; clear he
   have HR := Lib.hid hr; clear hr
   have H1 := Lib.hid h1; clear h1
   go_enter Tryz.func33, Tryz.ntmps33
   go_wp2_with (go_at_call 63; refine (HW.out _).mono ?_; rintro e w1 ⟨rfl, hb1⟩; rw [H1.out])
   go_ret2
   exact ⟨⟨none, 0, by rw [HE.out, HR.out]; rfl, by rw [HR.out]; exact Cells.nil _ _⟩, (((Below.refl _ _).alloc (Nat.le_refl _) _).trans (hb1.mono (by simp))).alloc (by have := hb1.size; simp at this; omega) _⟩
 · have hv := waveOK_true h1
   have hVe := HVE.out h1
   have he : wavE L p q = 0 := by simp [wavE, h1]
   have hr : wavR L p q = (wav L p q).take L.toNat := by simp [wavR, h1]
   have hrl : (wavR L p q).length = L.toNat := by rw [wavR_length, h1]; rfl
   have hou : ∀ wx : World, Calls Tryz.prog 93 #[.agg V] wx fun e w' => (∃ b c, e = .returned (.slice b (wavR L p q).length c) /\ Cells w' b ((wavR L p q).map (Value.int .i64))) /\ Below wx.heap.size wx w' := fun wx => by
    have := list_any L.toNat (wav L p q) wx (wav_length _ _ _) (by omega)
    rw [hrl, hr, hVe]
    rwa [show ((L.toNat : Nat) : Int) = L by omega] at this
   have HOU := Lib.hid hou; clear hou
   have HE := Lib.hid he; clear he
   have HR := Lib.hid hr; clear hr
   have H1 := Lib.hid h1; clear h1
   have HVE2 := Lib.hid hVe; clear hVe hrl
   go_enter Tryz.func33, Tryz.ntmps33
   go_wp2_with (first
    | (go_at_call 63; refine (HW.out _).mono ?_; rintro e w1 ⟨rfl, hb1⟩; rw [H1.out])
    | (refine wpList_load_row (by rfl) 129 _ (by rfl) w1.heap.size (by rfl) _ V _ _ (heap_alloc_new _ _) Tryz.underlying129 (by rfl) HI.out ?_)
    | (go_at_call 93; refine (HOU.out _).mono ?_; rintro e w3 ⟨⟨g, c, rfl, hcs⟩, hb4⟩; have HCS := Lib.hid hcs; clear hcs))
   go_ret2
   have hbb : Below w.heap.size w (w1.alloc (.cells V 129)) := (((Below.refl _ _).alloc (Nat.le_refl _) _).trans (hb1.mono (by simp))).alloc (by have := hb1.size; simp at this; omega) _
   exact ⟨⟨g, c, by rw [HE.out]; rfl, HCS.out⟩, hbb.trans (hb4.mono hbb.size)⟩
end Go.Proofs.YtdpjdifoonfcdaaGreatDoor

namespace Go.Proofs.YtdpjdifoonfcdaaGreatDoor
open Go.RowKit
theorem box_free {w w1 : World} {cs : Array Value} {T : TypeId} {B : Nat} (hb : Below B (w.alloc (.cells cs T)) w1) (hB : w.heap.size < B) (i : Nat) : w1.frozen? ⟨w.heap.size, i, none⟩ = false := by
 rw [hb.frozen (p := ⟨w.heap.size, i, none⟩) hB]; simp
theorem Cells.set {w : World} {ao : Option Addr} {cs : List Value} {p : Addr} {v0 u : Value} (h : Cells w ao cs) (hp : w.cell? p = some v0) (hn : ∀ x ∈ cs, x ≠ v0) : Cells (w.setCell p u) ao cs := by
 rcases h with h | ⟨b, off, h1, h2⟩
 · exact .inl h
 · refine .inr ⟨b, off, h1, fun j x hx => ?_⟩
   have h3 := h2 j x hx
   rw [World.cell?_setCell_other]
   · exact h3
   · rintro rfl
     rw [hp] at h3
     exact hn x (List.mem_of_getElem? hx) (Option.some.inj h3).symm
def NoNum : Value -> Prop | .int _ _ => False | _ => True
theorem NatV.set {w : World} {v : Value} {n : Nat} {p : Addr} {v0 u : Value} (h : NatV w v n) (hp : w.cell? p = some v0) (hn : NoNum v0) : NatV (w.setCell p u) v n := by
 obtain ⟨a, c, h1, h2, h3⟩ := h
 refine ⟨a, c, h1, h2.set hp ?_, h3⟩
 intro x hx e
 simp only [dgs, List.mem_map] at hx
 obtain ⟨d, _, rfl⟩ := hx
 subst e; exact hn
theorem NatV.box3 {w : World} {v : Value} {n b : Nat} {x0 x1 x2 u0 u1 u2 : Value} (h : NatV w v n) (q0 : w.cell? ⟨b, 0, none⟩ = some x0) (q1 : w.cell? ⟨b, 1, none⟩ = some x1) (q2 : w.cell? ⟨b, 2, none⟩ = some x2)
 (n0 : NoNum x0) (n1 : NoNum x1) (n2 : NoNum x2) : NatV (((w.setCell ⟨b, 0, none⟩ u0).setCell ⟨b, 1, none⟩ u1).setCell ⟨b, 2, none⟩ u2) v n := by
 refine ((h.set q0 n0).set (v0 := x1) ?_ n1).set (v0 := x2) ?_ n2
 · rw [World.cell?_setCell_other _ _ _ _ (by simp)]; exact q1
 · rw [World.cell?_setCell_other _ _ _ _ (by simp), World.cell?_setCell_other _ _ _ _ (by simp)]; exact q2
theorem natV_nil (w : World) : NatV w (.slice none 0 0) 0 := ⟨none, 0, by rw [dig_zero]; rfl, by rw [dig_zero]; exact Cells.nil _ _, by rw [dig_zero]; simp, by omega⟩
theorem dig_1 : dig 1 = [1] := dig_small (by decide) (by decide)
theorem one_any (w : World) :
 Calls Tryz.prog 149 #[] w fun e w' => (∃ v, e = .returned v /\ NatV w' v 1) /\ Below w.heap.size w w' := by
 go_enter Tryz.func149, Tryz.ntmps149
 go_wp2
 go_ret
 refine ⟨⟨_, rfl, ⟨some ⟨w.heap.size, 0, none⟩, 1, by rw [dig_1]; rfl, ?_, by rw [dig_1]; simp, by omega⟩⟩, (Below.refl _ _).alloc (Nat.le_refl _) _⟩
 rw [dig_1]
 refine .inr ⟨w.heap.size, 0, rfl, fun j u hu => ?_⟩
 match j, hu with
 | 0, hu => simp [dgs] at hu; subst hu; simp
def RatV (w : World) (v : Value) (s : Bool) (n d : Nat) : Prop := ∃ vn vd, v = .agg #[.bool s, vn, vd] /\ NatV w vn n /\ NatV w vd d
theorem RatV.below {w w' : World} {B : Nat} {v : Value} {s : Bool} {n d : Nat} (h : RatV w v s n d) (hb : Below B w w') (hB : w.heap.size <= B) : RatV w' v s n d := by
 obtain ⟨vn, vd, h1, h2, h3⟩ := h
 exact ⟨vn, vd, h1, h2.below hb hB, h3.below hb hB⟩
theorem NatV.cases {w : World} {v : Value} {n : Nat} (h : NatV w v n) : ∃ a c, v = .slice a (dig n).length c := by
 obtain ⟨a, c, h1, _⟩ := h; exact ⟨a, c, h1⟩
set_option maxRecDepth 100000 in
theorem reduced_any (K : Nat) (hov : OverOK K) (s : Bool) (va vb : Value) (m n : Nat) (w : World) (ha : NatV w va m) (hb : NatV w vb n) (hm : (dig m).length <= 17592186044415) (hn : (dig n).length <= 17592186044415) (hK : n < K) (hn0 : n ≠ 0) :
 Calls Tryz.prog 85 #[.bool s, va, vb] w fun e w' => (∃ v, e = .returned v /\ RatV w' v (s && decide (m ≠ 0)) (m / Nat.gcd m n) (n / Nat.gcd m n)) /\ Below w.heap.size w w' := by
 by_cases h0 : m = 0
 · subst h0
   have e1 : 0 / Nat.gcd 0 n = 0 := Nat.zero_div _
   have e2 : n / Nat.gcd 0 n = 1 := by rw [Nat.gcd_zero_left]; exact Nat.div_self (by omega)
   obtain ⟨a, c, rfl⟩ := ha.cases
   have hl0 : (dig 0).length = 0 := by rw [dig_zero]; rfl
   rw [hl0]
   have HE1 := Lib.hid e1; have HE2 := Lib.hid e2; clear e1 e2 ha hb hl0
   go_enter Tryz.func85, Tryz.ntmps85
   go_wp2_with fail
   refine (one_any _).mono ?_
   rintro e w1 ⟨⟨v1, rfl, h1⟩, hb1⟩
   have H1 := Lib.hid h1; clear h1
   have q0 : w1.cell? ⟨w.heap.size, 0, none⟩ = some (.bool false) := box_keep hb1 (by simp) 0
   have q1 : w1.cell? ⟨w.heap.size, 1, none⟩ = some (.slice none 0 0) := box_keep hb1 (by simp) 1
   have q2 : w1.cell? ⟨w.heap.size, 2, none⟩ = some (.slice none 0 0) := box_keep hb1 (by simp) 2
   have f0 := box_free hb1 (by simp) 0
   have f1 := box_free hb1 (by simp) 1
   have f2 := box_free hb1 (by simp) 2
   have hz : w.heap.size + 1 <= w1.heap.size := by have := hb1.size; simpa using this
   obtain ⟨a1, c1, hv1⟩ := H1.out.cases
   rw [dig_1] at hv1
   subst hv1
   go_wp2
   refine bodyPost_ret (v := .agg #[.bool false, .slice none 0 0, .slice a1 1 c1]) (by simp [results, Tryz.results85, go_sem, q0, q1, q2]) rfl ?_
   refine ⟨⟨_, rfl, ?_⟩, ((((Below.refl _ _).alloc (Nat.le_refl _) _).trans (hb1.mono (by simp))).setCell (Nat.le_refl _) _).setCell (Nat.le_refl _) _ |>.setCell (Nat.le_refl _) _⟩
   rw [HE1.out, HE2.out]
   exact ⟨.slice none 0 0, .slice a1 1 c1, by simp, (natV_nil w1).box3 q0 q1 q2 trivial trivial trivial, H1.out.box3 q0 q1 q2 trivial trivial trivial⟩
 · have hs : (s && decide (m ≠ 0)) = s := by simp [h0]
   have hgp : 0 < Nat.gcd m n := Nat.gcd_pos_of_pos_right _ (by omega)
   have hgn : Nat.gcd m n <= n := Nat.gcd_le_right _ (by omega)
   have hgl : (dig (Nat.gcd m n)).length <= 17592186044415 := Nat.le_trans (dig_len_mono hgn) hn
   have hcom := common_any K hov va vb m n
   have hov1 := hov
   obtain ⟨a, c, rfl⟩ := ha.cases
   have hml : (((dig m).length : Int) == 0) = false := by
    have : (dig m).length ≠ 0 := by rw [Ne, dig_len_pos]; exact h0
    rw [beq_eq_false_iff_ne]; omega
   have HS := Lib.hid hs; have HCOM := Lib.hid hcom; have HOV := Lib.hid hov1; have HA := Lib.hid ha; have HB := Lib.hid hb
   have HN := Lib.hid hn0; have HM := Lib.hid h0
   clear hs hcom hov hov1 ha hb hn0 h0
   generalize hg : Nat.gcd m n = g at *
   have hg1 := (show g ≠ 0 by omega)
   have hgK : g < K := by omega
   have HG := Lib.hid hg; clear hg
   by_cases hg2 : g = 1
   · subst hg2
     have e1 : m / 1 = m := Nat.div_one _
     have e2 : n / 1 = n := Nat.div_one _
     have HE1 := Lib.hid e1; have HE2 := Lib.hid e2; clear e1 e2 hg1 hgp
     go_enter Tryz.func85, Tryz.ntmps85
     go_wp2_with fail
     refine (HCOM.out _ (HA.out.below ((Below.refl _ _).alloc (Nat.le_refl _) _) (Nat.le_refl _)) (HB.out.below ((Below.refl _ _).alloc (Nat.le_refl _) _) (Nat.le_refl _)) hm hn hK).mono ?_
     rintro e w1 ⟨⟨v1, rfl, h1⟩, hb1⟩
     obtain ⟨a1, c1, hv1⟩ := h1.cases
     have hc1 : Cells w1 a1 (dgs (dig 1)) := by
      obtain ⟨a2, c2, hv2, h2, _⟩ := h1
      rw [hv1] at hv2; simp at hv2; rw [hv2.1]; exact h2
     rw [dig_1] at hv1 hc1
     subst hv1
     obtain ⟨b, off, rfl⟩ := hc1.addr (by simp [dgs])
     have c0 : w1.cell? ⟨b, off, none⟩ = some (.int .u64 1) := hc1.at (j := 0) rfl
     clear h1 hc1
     have q0 : w1.cell? ⟨w.heap.size, 0, none⟩ = some (.bool false) := box_keep hb1 (by simp) 0
     have q1 : w1.cell? ⟨w.heap.size, 1, none⟩ = some (.slice none 0 0) := box_keep hb1 (by simp) 1
     have q2 : w1.cell? ⟨w.heap.size, 2, none⟩ = some (.slice none 0 0) := box_keep hb1 (by simp) 2
     have f0 := box_free hb1 (by simp) 0
     have f1 := box_free hb1 (by simp) 1
     have f2 := box_free hb1 (by simp) 2
     obtain ⟨ab, cb, hvb⟩ := HB.out.cases
     subst hvb
     go_wp2
     refine bodyPost_ret (v := .agg #[.bool s, .slice a (dig m).length c, .slice ab (dig n).length cb]) (by simp [results, Tryz.results85, go_sem, q0, q1, q2]) rfl ?_
     have hbw : Below w.heap.size w w1 := ((Below.refl _ _).alloc (Nat.le_refl _) _).trans (hb1.mono (by simp))
     refine ⟨⟨_, rfl, ?_⟩, ((hbw.setCell (Nat.le_refl _) _).setCell (Nat.le_refl _) _).setCell (Nat.le_refl _) _⟩
     rw [HS.out, HE1.out, HE2.out]
     exact ⟨_, _, rfl, (HA.out.below hbw (Nat.le_refl _)).box3 q0 q1 q2 trivial trivial trivial, (HB.out.below hbw (Nat.le_refl _)).box3 q0 q1 q2 trivial trivial trivial⟩
   · have hg3 : 2 <= g := by omega
     go_enter Tryz.func85, Tryz.ntmps85
     go_wp2_with fail
     refine (HCOM.out _ (HA.out.below ((Below.refl _ _).alloc (Nat.le_refl _) _) (Nat.le_refl _)) (HB.out.below ((Below.refl _ _).alloc (Nat.le_refl _) _) (Nat.le_refl _)) hm hn hK).mono ?_
     rintro e w1 ⟨⟨v1, rfl, h1⟩, hb1⟩
     have H1 := Lib.hid h1
     obtain ⟨a1, c1, hv1, hc1, _⟩ := h1
     subst hv1
     have hlp : (dig g).length ≠ 0 := by rw [Ne, dig_len_pos]; exact hg1
     obtain ⟨b, off, rfl⟩ := hc1.addr (dgs_ne (by omega))
     obtain ⟨x, hx⟩ := get_of_lt (show 0 < (dig g).length by omega)
     have c0 : w1.cell? ⟨b, off, none⟩ = some (.int .u64 (x : Nat)) := hc1.dgs hx
     have hx1 : (dig g).length = 1 -> 1 < x := by
      intro hl
      have hgs := val_dig g
      obtain ⟨y, hy⟩ : ∃ y, dig g = [y] := by
       match h : dig g, hl with
       | [y], _ => exact ⟨y, rfl⟩
      rw [hy] at hx hgs; simp at hx; subst hx; simp [val] at hgs; omega
     have hbw : Below w.heap.size w w1 := ((Below.refl _ _).alloc (Nat.le_refl _) _).trans (hb1.mono (by simp))
     have hbx := hb1
     have HC1 := Lib.hid hc1; clear hc1 hx
     have HB1 := Lib.hid hb1; clear hb1
     by_cases hl1 : 1 < (dig g).length
     · have hlI : (1 : Int) < (dig g).length := by omega
       clear hx1
       go_wp2_with fail
       refine (HOV.out _ _ m g w1 (HA.out.below hbw (Nat.le_refl _)) H1.out hm hgl hg1 hgK).mono ?_
       rintro e w2 ⟨⟨vq, vr, rfl, hq, _⟩, hb2⟩
       have HQ := Lib.hid hq; clear hq
       have hbw2 : Below w.heap.size w w2 := hbw.trans (hb2.mono hbw.size)
       have hbx2 := hbx.trans (hb2.mono hbx.size)
       have H12 := Lib.hid (H1.out.below hb2 (Nat.le_refl _))
       clear hb2
       go_wp2_with fail
       refine (HOV.out _ _ n g w2 (HB.out.below hbw2 (Nat.le_refl _)) H12.out hn hgl hg1 hgK).mono ?_
       rintro e w3 ⟨⟨vq2, vr2, rfl, hq2, _⟩, hb3⟩
       have HQ1 := Lib.hid (HQ.out.below hb3 (Nat.le_refl _))
       have HQ2 := Lib.hid hq2; clear hq2
       have hbw3 : Below w.heap.size w w3 := hbw2.trans (hb3.mono hbw2.size)
       have hbx3 := hbx2.trans (hb3.mono hbx2.size)
       clear hb3
       have q0 : w3.cell? ⟨w.heap.size, 0, none⟩ = some (.bool false) := box_keep hbx3 (by simp) 0
       have q1 : w3.cell? ⟨w.heap.size, 1, none⟩ = some (.slice none 0 0) := box_keep hbx3 (by simp) 1
       have q2 : w3.cell? ⟨w.heap.size, 2, none⟩ = some (.slice none 0 0) := box_keep hbx3 (by simp) 2
       have f0 := box_free hbx3 (by simp) 0
       have f1 := box_free hbx3 (by simp) 1
       have f2 := box_free hbx3 (by simp) 2
       obtain ⟨aq, cq, hvq⟩ := HQ1.out.cases
       obtain ⟨aq2, cq2, hvq2⟩ := HQ2.out.cases
       subst hvq hvq2
       clear hbx hbx2 hbx3
       go_wp2
       refine bodyPost_ret (v := .agg #[.bool s, .slice aq (dig (m / g)).length cq, .slice aq2 (dig (n / g)).length cq2]) (by simp [results, Tryz.results85, go_sem, q0, q1, q2]) rfl ?_
       refine ⟨⟨_, rfl, ?_⟩, ((hbw3.setCell (Nat.le_refl _) _).setCell (Nat.le_refl _) _).setCell (Nat.le_refl _) _⟩
       rw [HS.out]
       exact ⟨_, _, rfl, HQ1.out.box3 q0 q1 q2 trivial trivial trivial, HQ2.out.box3 q0 q1 q2 trivial trivial trivial⟩
     · have hlI : ¬ (1 : Int) < (dig g).length := by omega
       have hx2 : 1 < x := hx1 (by omega)
       have hlp2 : (0 : Int) < (dig g).length := by omega
       clear hx1
       go_wp2_with fail
       refine (HOV.out _ _ m g w1 (HA.out.below hbw (Nat.le_refl _)) H1.out hm hgl hg1 hgK).mono ?_
       rintro e w2 ⟨⟨vq, vr, rfl, hq, _⟩, hb2⟩
       have HQ := Lib.hid hq; clear hq
       have hbw2 : Below w.heap.size w w2 := hbw.trans (hb2.mono hbw.size)
       have hbx2 := hbx.trans (hb2.mono hbx.size)
       have H12 := Lib.hid (H1.out.below hb2 (Nat.le_refl _))
       clear hb2
       go_wp2_with fail
       refine (HOV.out _ _ n g w2 (HB.out.below hbw2 (Nat.le_refl _)) H12.out hn hgl hg1 hgK).mono ?_
       rintro e w3 ⟨⟨vq2, vr2, rfl, hq2, _⟩, hb3⟩
       have HQ1 := Lib.hid (HQ.out.below hb3 (Nat.le_refl _))
       have HQ2 := Lib.hid hq2; clear hq2
       have hbw3 : Below w.heap.size w w3 := hbw2.trans (hb3.mono hbw2.size)
       have hbx3 := hbx2.trans (hb3.mono hbx2.size)
       clear hb3
       have q0 : w3.cell? ⟨w.heap.size, 0, none⟩ = some (.bool false) := box_keep hbx3 (by simp) 0
       have q1 : w3.cell? ⟨w.heap.size, 1, none⟩ = some (.slice none 0 0) := box_keep hbx3 (by simp) 1
       have q2 : w3.cell? ⟨w.heap.size, 2, none⟩ = some (.slice none 0 0) := box_keep hbx3 (by simp) 2
       have f0 := box_free hbx3 (by simp) 0
       have f1 := box_free hbx3 (by simp) 1
       have f2 := box_free hbx3 (by simp) 2
       obtain ⟨aq, cq, hvq⟩ := HQ1.out.cases
       obtain ⟨aq2, cq2, hvq2⟩ := HQ2.out.cases
       subst hvq hvq2
       clear hbx hbx2 hbx3
       go_wp2
       refine bodyPost_ret (v := .agg #[.bool s, .slice aq (dig (m / g)).length cq, .slice aq2 (dig (n / g)).length cq2]) (by simp [results, Tryz.results85, go_sem, q0, q1, q2]) rfl ?_
       refine ⟨⟨_, rfl, ?_⟩, ((hbw3.setCell (Nat.le_refl _) _).setCell (Nat.le_refl _) _).setCell (Nat.le_refl _) _⟩
       rw [HS.out]
       exact ⟨_, _, rfl, HQ1.out.box3 q0 q1 q2 trivial trivial trivial, HQ2.out.box3 q0 q1 q2 trivial trivial trivial⟩
end Go.Proofs.YtdpjdifoonfcdaaGreatDoor

namespace Go.Proofs.YtdpjdifoonfcdaaGreatDoor
open Go.RowKit
def ValV (w : World) (v : Value) (s1 : Bool) (n1 d1 : Nat) (s2 : Bool) (n2 d2 : Nat) : Prop := ∃ a b c d, v = .agg #[.bool s1, a, b, .bool s2, c, d] /\ NatV w a n1 /\ NatV w b d1 /\ NatV w c n2 /\ NatV w d d2
theorem ValV.below {w w' : World} {B : Nat} {v : Value} {s1 s2 : Bool} {n1 d1 n2 d2 : Nat} (h : ValV w v s1 n1 d1 s2 n2 d2) (hb : Below B w w') (hB : w.heap.size <= B) : ValV w' v s1 n1 d1 s2 n2 d2 := by
 obtain ⟨a, b, c, d, h1, h2, h3, h4, h5⟩ := h
 exact ⟨a, b, c, d, h1, h2.below hb hB, h3.below hb hB, h4.below hb hB, h5.below hb hB⟩
theorem box_keep2 {w w1 : World} {o : Obj} {cs : Array Value} {T : TypeId} {B : Nat} (hb : Below B ((w.alloc (.cells cs T)).alloc o) w1) (hB : w.heap.size < B) (i : Nat) : w1.cell? ⟨w.heap.size, i, none⟩ = cs[i]? := by
 rw [hb.cell (p := ⟨w.heap.size, i, none⟩) hB]; simp
theorem box_keep1 {w w1 : World} {o : Obj} {cs : Array Value} {T : TypeId} {B : Nat} (hb : Below B ((w.alloc o).alloc (.cells cs T)) w1) (hB : w.heap.size + 1 < B) (i : Nat) : w1.cell? ⟨w.heap.size + 1, i, none⟩ = cs[i]? := by
 have := box_keep (w := w.alloc o) hb (by simpa using hB) i
 simpa using this
theorem box_free1 {w w1 : World} {o : Obj} {cs : Array Value} {T : TypeId} {B : Nat} (hb : Below B ((w.alloc o).alloc (.cells cs T)) w1) (hB : w.heap.size + 1 < B) (i : Nat) : w1.frozen? ⟨w.heap.size + 1, i, none⟩ = false := by
 have := box_free (w := w.alloc o) hb (by simpa using hB) i
 simpa using this
theorem bel_undrew {B : Nat} {a w : World} (h : Below B a.drew w) : Below B a w := ⟨h.os, h.tape, h.output, h.size, h.block⟩
theorem NatV.box6 {w : World} {v : Value} {n b : Nat} {x0 x1 x2 x3 x4 x5 u0 u1 u2 u3 u4 u5 : Value} (h : NatV w v n) (q0 : w.cell? ⟨b, 0, none⟩ = some x0) (q1 : w.cell? ⟨b, 1, none⟩ = some x1) (q2 : w.cell? ⟨b, 2, none⟩ = some x2)
 (q3 : w.cell? ⟨b, 3, none⟩ = some x3) (q4 : w.cell? ⟨b, 4, none⟩ = some x4) (q5 : w.cell? ⟨b, 5, none⟩ = some x5)
 (n0 : NoNum x0) (n1 : NoNum x1) (n2 : NoNum x2) (n3 : NoNum x3) (n4 : NoNum x4) (n5 : NoNum x5) :
 NatV ((((((w.setCell ⟨b, 0, none⟩ u0).setCell ⟨b, 1, none⟩ u1).setCell ⟨b, 2, none⟩ u2).setCell ⟨b, 3, none⟩ u3).setCell ⟨b, 4, none⟩ u4).setCell ⟨b, 5, none⟩ u5) v n := by
 refine (((h.box3 q0 q1 q2 n0 n1 n2).set (v0 := x3) ?_ n3).set (v0 := x4) ?_ n4).set (v0 := x5) ?_ n5
 all_goals
  repeat (rw [World.cell?_setCell_other _ _ _ _ (by simp)])
  assumption
set_option maxRecDepth 100000 in
theorem plain_any (s : Bool) (n d : Nat) (vx : Value) (w : World) (hx : RatV w vx s n d) :
 Calls Tryz.prog 84 #[vx] w fun e w' => (∃ v, e = .returned v /\ ValV w' v s n d false 0 1) /\ Below w.heap.size w w' := by
 obtain ⟨vn, vd, rfl, hn, hd⟩ := hx
 have HN := Lib.hid hn; have HD := Lib.hid hd
 obtain ⟨an, cn, rfl⟩ := hn.cases
 obtain ⟨ad, cd, rfl⟩ := hd.cases
 clear hn hd
 go_enter Tryz.func84, Tryz.ntmps84
 go_wp2_with fail
 go_region_with (go_at_call 149; refine (one_any _).mono ?_; rintro e w1 ⟨⟨v1, rfl, h1⟩, hb1⟩; have hb2 := bel_undrew hb1; have p0 : w1.cell? ⟨w.heap.size, 0, none⟩ = some (.bool s) := box_keep2 hb2 (by simp; omega) 0; have p1 : w1.cell? ⟨w.heap.size, 1, none⟩ = some (.slice an (dig n).length cn) := box_keep2 hb2 (by simp; omega) 1; have p2 : w1.cell? ⟨w.heap.size, 2, none⟩ = some (.slice ad (dig d).length cd) := box_keep2 hb2 (by simp; omega) 2; have q0 : w1.cell? ⟨w.heap.size + 1, 0, none⟩ = some (.bool false) := box_keep1 hb2 (by simp) 0; have q1 : w1.cell? ⟨w.heap.size + 1, 1, none⟩ = some (.slice none 0 0) := box_keep1 hb2 (by simp) 1; have q2 : w1.cell? ⟨w.heap.size + 1, 2, none⟩ = some (.slice none 0 0) := box_keep1 hb2 (by simp) 2; have q3 : w1.cell? ⟨w.heap.size + 1, 3, none⟩ = some (.bool false) := box_keep1 hb2 (by simp) 3; have q4 : w1.cell? ⟨w.heap.size + 1, 4, none⟩ = some (.slice none 0 0) := box_keep1 hb2 (by simp) 4; have q5 : w1.cell? ⟨w.heap.size + 1, 5, none⟩ = some (.slice none 0 0) := box_keep1 hb2 (by simp) 5; have f0 := box_free1 hb2 (by simp) 0; have f1 := box_free1 hb2 (by simp) 1; have f2 := box_free1 hb2 (by simp) 2; have f3 := box_free1 hb2 (by simp) 3; have f4 := box_free1 hb2 (by simp) 4; have f5 := box_free1 hb2 (by simp) 5; obtain ⟨a1, c1, hv1⟩ := h1.cases; rw [dig_1] at hv1; subst hv1)
 all_goals
  have H1 := Lib.hid h1; clear h1
  have hbw : Below w.heap.size w w1 := (((Below.refl _ _).alloc (Nat.le_refl _) _).alloc (by simp) _).trans (hb2.mono (by simp; omega))
  clear hb1 hb2
  go_wp2
  refine bodyPost_ret (v := .agg #[.bool s, .slice an (dig n).length cn, .slice ad (dig d).length cd, .bool false, .slice none 0 0, .slice a1 1 c1]) (by simp [results, Tryz.results84, go_sem, q0, q1, q2, q3, q4, q5]) rfl ?_
  refine ⟨⟨_, rfl, ?_⟩, ?_⟩
  · exact ⟨_, _, _, _, rfl, (HN.out.below hbw (Nat.le_refl _)).box6 q0 q1 q2 q3 q4 q5 trivial trivial trivial trivial trivial trivial, (HD.out.below hbw (Nat.le_refl _)).box6 q0 q1 q2 q3 q4 q5 trivial trivial trivial trivial trivial trivial, (natV_nil w1).box6 q0 q1 q2 q3 q4 q5 trivial trivial trivial trivial trivial trivial, H1.out.box6 q0 q1 q2 q3 q4 q5 trivial trivial trivial trivial trivial trivial⟩
  · exact (((((hbw.setCell (p := ⟨w.heap.size + 1, 0, none⟩) (by simp) _).setCell (p := ⟨w.heap.size + 1, 1, none⟩) (by simp) _).setCell (p := ⟨w.heap.size + 1, 2, none⟩) (by simp) _).setCell (p := ⟨w.heap.size + 1, 3, none⟩) (by simp) _).setCell (p := ⟨w.heap.size + 1, 4, none⟩) (by simp) _).setCell (p := ⟨w.heap.size + 1, 5, none⟩) (by simp) _
end Go.Proofs.YtdpjdifoonfcdaaGreatDoor

namespace Go.Proofs.YtdpjdifoonfcdaaGreatDoor
open Go.RowKit Go.Lib
def Tab (w : World) : Prop := Lib.TabIs Tryz.prog w "internal/strconv.uint64pow10" .u64 Lib.pow10Tab
theorem Tab.below {w w' : World} {B : Nat} (h : Tab w) (hb : Below B w w') (hB : w.heap.size <= B) : Tab w' := by
 unfold Tab Lib.TabIs World.var? at h ⊢
 obtain ⟨g, hg⟩ : ∃ g, Tryz.prog.globalNamed "internal/strconv.uint64pow10" = some g := by
  cases hc : Tryz.prog.globalNamed "internal/strconv.uint64pow10" with
  | none => rw [hc] at h; cases h
  | some g => exact ⟨g, rfl⟩
 rw [hg] at h ⊢
 simp only [Option.bind_some] at h ⊢
 have hlt : g < w.heap.size := by
  rcases Nat.lt_or_ge g w.heap.size with h' | h'
  · exact h'
  · rw [Array.getElem?_eq_none h'] at h; cases h
 rw [hb.block g (by omega)]
 exact h
set_option maxRecDepth 100000 in
set_option maxHeartbeats 4000000 in
theorem fmtU_any (u : Nat) (w : World) (hu64 : u < 18446744073709551616) (htab : Tab w) :
 Calls Tryz.prog 253 #[.int .u64 (u : Nat), .int .i64 10] w fun e w' => e = .returned (.string ⟨(Lib.decDigits u).toArray⟩) /\ Below w.heap.size w w' := by
 have hi : Calls Tryz.prog 278 #[.int .u64 (u : Nat), .int .i64 10] w fun e w' => e = .returned (.string ⟨(Lib.decDigits u).toArray⟩) /\ Below w.heap.size w w' := by
  by_cases hs : u < 100
  · have hs2 : (u : Int) < 100 := by omega
    go_enter Tryz.func278, Tryz.ntmps278
    go_wp2_with (go_at_call 305; refine (Tryz.internal_strconv_small u hs _).mono ?_; rintro e w' ⟨rfl, rfl⟩)
    go_ret
    exact ⟨rfl, Below.refl _ _⟩
  · have hu1 : 1 <= u := by omega
    have hnd20 : Lib.nDigits u <= 20 := by have := Lib.numDigits_eq u hu1 hu64; split at this <;> omega
    have hal : Tryz.prog.arrayLen 403 = 24 := by simp [Program.arrayLen, Tryz.underlying403]
    have hsl : ∀ W, (Instr.sliceAt 403 (.pointer (some ⟨w.heap.size, 0, none⟩)) none (some (.int .i64 (Lib.nDigits u : Int))) none).run Tryz.prog W = .ok (.slice (some ⟨w.heap.size, 0, none⟩) (Lib.nDigits u) 24) W := fun W => by
     rw [run_sliceAt_array_h W 403 ⟨w.heap.size, 0, none⟩ (by simp [Program.arrayLen, Program.elem, Tryz.underlying403]) .i64 (Lib.nDigits u : Int) (by omega) (by rw [hal]; omega)]
     go_simp
    have hH0 := Lib.holds_zero0 w 403 (Lib.nDigits u) (by omega)
    have hfmt := Tryz.internal_strconv_formatBase10 w.heap.size 0 24 u (Array.replicate (Lib.nDigits u) 0) (w.alloc (.cells Lib.zeros24 403)) hH0 (by rw [Array.size_replicate]; exact Lib.lt_pow_nDigits u) hu64 (by rw [Array.size_replicate]; omega)
    rw [Array.size_replicate] at hfmt
    have HH0 := Lib.hid hH0
    have iu : ¬ (u : Int) < 100 := by omega
    clear hH0 hal
    go_enter Tryz.func278, Tryz.ntmps278
    go_wp2_with (first
     | (go_at_call 306; refine (Tryz.internal_strconv_numDigits u hu1 hu64 _ (Lib.tabIs_alloc htab _)).mono ?_; rintro e w' ⟨rfl, rfl⟩))
    go_at_call 307
    refine hfmt.mono ?_
    rintro e w' ⟨rfl, k, v', dk, rfl, hF⟩
    have hcv : (convert 109 9 (.slice (some ⟨w.heap.size, 0, none⟩) (Lib.nDigits u) 24)).run Tryz.prog ((Go.Sort.putRow (fun (b : UInt8) => Value.int .u8 (b.toNat : Int)) (w.alloc (.cells Lib.zeros24 403)) w.heap.size 0 dk).drewN k) = .ok (.string ⟨(Lib.decDigits u).toArray⟩) ((Go.Sort.putRow (fun (b : UInt8) => Value.int .u8 (b.toNat : Int)) (w.alloc (.cells Lib.zeros24 403)) w.heap.size 0 dk).drewN k) := by
     have h := run_convert_bytes_back (P := Tryz.prog) ((Go.Sort.putRow (fun (b : UInt8) => Value.int .u8 (b.toNat : Int)) (w.alloc (.cells Lib.zeros24 403)) w.heap.size 0 dk).drewN k) 109 9 5 ⟨w.heap.size, 0, none⟩ 24 (Lib.decDigits u) Tryz.underlying109 Tryz.underlying5 Tryz.underlying9 (fun j hj => by
      rw [Lib.row_is_numeral hF j hj, Lib.add_plain, World.cell?_drewN]
      exact Go.Sort.cell?_putRow (fun (b : UInt8) => Value.int .u8 (b.toNat : Int)) _ w.heap.size 0 _ dk HH0.out (by rw [hF.size, Array.size_replicate]) j (by rw [hF.size]; rw [Lib.decDigits_length] at hj; exact hj))
     rw [Lib.decDigits_length] at h
     exact h
    go_wp2
    go_ret
    obtain ⟨os, eo⟩ := Lib.fin_at w (.cells Lib.zeros24 403) dk k 0
    rw [eo]
    exact ⟨rfl, Lib.below_grow w.heap.size w (Nat.le_refl _) k os⟩
 have HI := Lib.hid hi; clear hi
 go_enter Tryz.func253, Tryz.ntmps253
 go_wp2_with (go_at_call 278; refine HI.out.mono ?_; rintro e w' ⟨rfl, hb⟩)
 go_ret
 exact ⟨rfl, hb⟩
end Go.Proofs.YtdpjdifoonfcdaaGreatDoor

namespace Go.Proofs.YtdpjdifoonfcdaaGreatDoor
open Go.Lib
def padD : Nat -> Nat -> List UInt8
 | 0, _ => []
 | k + 1, l => padD k (l / 10) ++ [UInt8.ofNat (48 + l % 10)]
theorem padD_length (k l : Nat) : (padD k l).length = k := by
 induction k generalizing l with
 | zero => rfl
 | succ k ih => simp [padD, ih]
theorem decDigits_step {u : Nat} (h : ¬ u < 10) : decDigits u = decDigits (u / 10) ++ [UInt8.ofNat (48 + u % 10)] := by rw [decDigits, dif_neg h]
theorem dec_shift (k : Nat) : ∀ h l : Nat, 0 < h -> l < 10 ^ k -> decDigits (h * 10 ^ k + l) = decDigits h ++ padD k l := by
 induction k with
 | zero => intro h l hh hl; have : l = 0 := by simpa using hl
           subst this; simp [padD]
 | succ k ih =>
   intro h l hh hl
   have hp : 1 <= 10 ^ k := Nat.one_le_pow _ _ (by decide)
   have e1 : h * 10 ^ (k + 1) = h * 10 ^ k * 10 := by rw [Nat.pow_succ, Nat.mul_assoc]
   have h1 : 1 * 1 <= h * 10 ^ k := Nat.mul_le_mul hh hp
   rw [Nat.pow_succ] at hl
   rw [e1, decDigits_step (by omega)]
   have e2 : (h * 10 ^ k * 10 + l) / 10 = h * 10 ^ k + l / 10 := by omega
   have e3 : (h * 10 ^ k * 10 + l) % 10 = l % 10 := by omega
   rw [e2, e3, ih h (l / 10) hh (by omega), List.append_assoc]
   rfl
theorem nDigits_shift (k h l : Nat) (hh : 0 < h) (hl : l < 10 ^ k) : nDigits (h * 10 ^ k + l) = nDigits h + k := by
 have := congrArg List.length (dec_shift k h l hh hl)
 simpa [decDigits_length, padD_length] using this
theorem rep_snoc48 (k : Nat) : List.replicate k (48 : UInt8) ++ [48] = List.replicate (k + 1) 48 := by
 rw [List.replicate_succ']
theorem padD_small (k : Nat) : ∀ l : Nat, l < 10 -> padD (k + 1) l = List.replicate k 48 ++ [UInt8.ofNat (48 + l)] := by
 induction k with
 | zero => intro l hl; rw [padD, padD, Nat.mod_eq_of_lt hl]; rfl
 | succ k ih =>
   intro l hl
   rw [padD, ih (l / 10) (by omega), Nat.mod_eq_of_lt hl, Nat.div_eq_of_lt hl, show UInt8.ofNat (48 + 0) = 48 from rfl, rep_snoc48]
theorem padD_eq (k : Nat) : ∀ l : Nat, l < 10 ^ (k + 1) -> padD (k + 1) l = List.replicate (k + 1 - nDigits l) 48 ++ decDigits l := by
 induction k with
 | zero =>
   intro l hl
   have hl : l < 10 := by simpa using hl
   rw [padD_small 0 l hl, nDigits_small hl, decDigits_one hl]
 | succ k ih =>
   intro l hl
   by_cases h : l < 10
   · rw [padD_small (k + 1) l h, nDigits_small h, decDigits_one h]; rfl
   · rw [padD, ih (l / 10) (by rw [Nat.pow_succ] at hl; omega), decDigits_step h, nDigits_big h, List.append_assoc, show k + 1 + 1 - (nDigits (l / 10) + 1) = k + 1 - nDigits (l / 10) from by omega]
theorem nDigits_le (k : Nat) : ∀ l : Nat, l < 10 ^ (k + 1) -> nDigits l <= k + 1 := by
 induction k with
 | zero => intro l hl; rw [nDigits_small (by simpa using hl)]; exact Nat.le_refl _
 | succ k ih =>
   intro l hl
   by_cases h : l < 10
   · rw [nDigits_small h]; omega
   · rw [nDigits_big h]
     have := ih (l / 10) (by rw [Nat.pow_succ] at hl; omega)
     omega
theorem B_pow (k : Nat) : B ^ k = 10 ^ (9 * k) := by
 rw [Nat.pow_mul]; rfl
theorem dec_digit {h x : Nat} (hh : 0 < h) (hx : x < B) : decDigits (x + B * h) = decDigits h ++ (List.replicate (9 - nDigits x) 48 ++ decDigits x) /\ nDigits x <= 9 := by
 have hx' : x < 10 ^ (8 + 1) := hx
 refine ⟨?_, nDigits_le 8 x hx'⟩
 rw [<- padD_eq 8 x hx', <- dec_shift 9 h x hh hx, show x + B * h = h * 10 ^ 9 + x from by simp only [B]; omega]
theorem val_drop {l : List Nat} {i x : Nat} (hx : l[i]? = some x) : val (l.drop i) = x + B * val (l.drop (i + 1)) := by
 have hi : i < l.length := (List.getElem?_eq_some_iff.1 hx).1
 rw [List.drop_eq_getElem_cons hi, val_cons]
 rw [List.getElem?_eq_getElem hi] at hx
 cases hx
 rfl
theorem top_pos {n t : Nat} (h : (dig n)[(dig n).length - 1]? = some t) : 0 < t := by
 have h1 := last_dig n
 rw [List.getLast?_eq_getElem?, h] at h1
 rcases Nat.eq_zero_or_pos t with h2 | h2
 · subst h2; exact absurd rfl h1
 · exact h2
theorem drop_pos {l : List Nat} {t : Nat} (h : l[l.length - 1]? = some t) (ht : 0 < t) (i : Nat) (hi : i < l.length) : 0 < val (l.drop i) := by
 rcases Nat.eq_zero_or_pos (val (l.drop i)) with h0 | h0
 · exfalso
   have h1 := val_eq_zero.1 h0 t (List.mem_iff_getElem?.2 ⟨l.length - 1 - i, by rw [List.getElem?_drop, show i + (l.length - 1 - i) = l.length - 1 from by omega]; exact h⟩)
   omega
 · exact h0
theorem val_top {l : List Nat} {t : Nat} (h : l[l.length - 1]? = some t) : val (l.drop (l.length - 1)) = t := by
 have hi := (List.getElem?_eq_some_iff.1 h).1
 rw [val_drop h, List.drop_of_length_le (by omega)]
 simp [val]
theorem size_dig_eq {n t : Nat} (h : (dig n)[(dig n).length - 1]? = some t) : nDigits n = 9 * ((dig n).length - 1) + nDigits t := by
 have ht := top_pos h
 have h1 := val_split h
 have hi := (List.getElem?_eq_some_iff.1 h).1
 rw [val_dig, List.drop_of_length_le (by omega)] at h1
 simp only [val, Nat.mul_zero, Nat.add_zero] at h1
 have h2 : val ((dig n).take ((dig n).length - 1)) < B ^ ((dig n).length - 1) := by
  have h3 := val_lt (xs := (dig n).take ((dig n).length - 1)) (fun d hd => sm_dig n d (List.mem_of_mem_take hd))
  rwa [List.length_take, Nat.min_eq_left (by omega)] at h3
 rw [B_pow] at h1 h2
 generalize 9 * ((dig n).length - 1) = k at *
 generalize val ((dig n).take ((dig n).length - 1)) = lo at *
 rw [h1, Nat.add_comm lo, Nat.mul_comm, nDigits_shift k t lo ht h2]
 omega
theorem nDigits_val {l : List Nat} (h : Sm l) (h0 : 0 < l.length) : nDigits (val l) <= 9 * l.length := by
 have h1 := val_lt h
 rw [B_pow] at h1
 have := nDigits_le (9 * l.length - 1) (val l) (by rw [show 9 * l.length - 1 + 1 = 9 * l.length from by omega]; exact h1)
 omega
theorem sm_dropM {l : List Nat} (h : Sm l) (k : Nat) : Sm (l.drop k) := fun d hd => h d (List.mem_of_mem_drop hd)
end Go.Proofs.YtdpjdifoonfcdaaGreatDoor

namespace Go.Proofs.YtdpjdifoonfcdaaGreatDoor
open Go.RowKit
theorem Tryz.sizeBuilder : (Tryz.prog.info? 382).map (·.size) = some 2 := by kernel_rfl
theorem Tryz.liesBuilder : liesAt Tryz.prog Tryz.prog.depth 382 (2 / Tryz.prog.cellsOf 382) 0 382 1 = true := by kernel_rfl
theorem Tryz.infoByte : (Tryz.prog.info? 5).map (fun i => (i.zero, i.size, i.bytes)) = some (some (.int .u8 0), 1, 1) := by kernel_rfl
set_option maxHeartbeats 1000000 in
set_option maxRecDepth 100000 in
theorem copyCheck_used (b : Nat) (w : World) (h0 : w.cell? ⟨b, 0, none⟩ = some (.pointer (some ⟨b, 0, none⟩))) :
 Calls Tryz.prog 309 #[.pointer (some ⟨b, 0, none⟩)] w fun e w' => e = .returned (.tuple #[]) /\ w' = w := by
 obtain ⟨j, hj, _⟩ := Option.map_eq_some_iff.1 Tryz.sizeBuilder
 go_enter Tryz.func309, Tryz.ntmps309
 go_wp2
 rw [Lib.run_neq_ptr_same w _ Tryz.underlying380 hj]
 go_wp2
 go_end0
 exact ⟨rfl, rfl⟩
set_option maxHeartbeats 1000000 in
set_option maxRecDepth 100000 in
theorem copyCheck_fresh (b : Nat) (w : World) (h0 : w.cell? ⟨b, 0, none⟩ = some (.pointer none)) (hsh : w.shape? b = some (382, 2)) (hfz : w.frozen? ⟨b, 0, none⟩ = false) :
 Calls Tryz.prog 309 #[.pointer (some ⟨b, 0, none⟩)] w fun e w' => e = .returned (.tuple #[]) /\ w' = w.setCell ⟨b, 0, none⟩ (.pointer (some ⟨b, 0, none⟩)) := by
 obtain ⟨j, hj, hjs⟩ := Option.map_eq_some_iff.1 Tryz.sizeBuilder
 go_enter Tryz.func309, Tryz.ntmps309
 go_wp2
 rw [Lib.run_to_unsafe w ⟨b, 0, none⟩ Tryz.underlying380 Tryz.underlying432 hj (by rw [hjs]; decide) hsh (Nat.zero_lt_succ 1)]
 simp only [Result.andThen]
 rw [Oper.upon_value]
 go_wp2
 rw [run_callFunc_extern Tryz.func334 (by kernel_rfl) (by kernel_rfl) (by kernel_rfl) (e := Extern.AbiNoEscape.same) (by kernel_rfl)]
 rw [Lib.run_noEscape]
 simp only [Result.andThen]
 rw [Oper.upon_value]
 go_wp2
 rw [Lib.run_from_unsafe w ⟨b, 0, none⟩ Tryz.underlying432 Tryz.underlying380 hj hsh Tryz.liesBuilder]
 simp only [Result.andThen]
 rw [Oper.upon_value]
 go_wp2
 go_end0
 exact ⟨rfl, rfl⟩
theorem copyCheck_any (B b : Nat) (bs : List Value) (w : World) (h : Lib.IsBuilder 382 5 B b bs w) :
 Calls Tryz.prog 309 #[.pointer (some ⟨b, 0, none⟩)] w fun e w' => e = .returned (.tuple #[]) /\ (Lib.BuilderAt 382 5 B b (.pointer (some ⟨b, 0, none⟩)) bs w' /\ Below B w w') := by
 rcases h with h | h
 · refine (copyCheck_fresh b w h.cell0 h.shape h.frozen0).mono ?_
   rintro e w' ⟨rfl, rfl⟩
   exact ⟨rfl, h.used _, (Below.refl B w).setCell (p := ⟨b, 0, none⟩) h.1 _⟩
 · refine (copyCheck_used b w h.cell0).mono ?_
   rintro e w' ⟨rfl, rfl⟩
   exact ⟨rfl, h, Below.refl B _⟩
set_option maxHeartbeats 2000000 in
set_option maxRecDepth 100000 in
theorem writeString_any (B b : Nat) (bs : List Value) (s : ByteArray) (w : World) (h : Lib.IsBuilder 382 5 B b bs w) (hlen : bs.length + s.size <= 140737488355328) (hBw : B <= w.heap.size) :
 Calls Tryz.prog 279 #[.pointer (some ⟨b, 0, none⟩), .string s] w fun e w' => e = .returned (.tuple #[.int .i64 s.size, .nilIface]) /\ (Lib.BuilderAt 382 5 B b (.pointer (some ⟨b, 0, none⟩)) (bs ++ Lib.strCells s) w' /\ Below B w w') := by
 obtain ⟨i0, hi, hz0, hz1, hz2⟩ := info_parts Tryz.infoByte
 go_enter Tryz.func279, Tryz.ntmps279
 go_wp2_with (go_at_call 309; refine (copyCheck_any B b bs _ h).mono ?_)
 rintro e w1 ⟨rfl, h1, hb1⟩
 obtain ⟨hB, v, hbk, hown, hne⟩ := h1
 have c0 : w1.cell? ⟨b, 0, none⟩ = some (.pointer (some ⟨b, 0, none⟩)) := by rw [Lib.cell_of_heap hbk]; rfl
 have c1 : w1.cell? ⟨b, 1, none⟩ = some v := by rw [Lib.cell_of_heap hbk]; rfl
 go_wp2_with (at_builtin; refine Lib.wpList_append_own_string _ rfl _ _ 109 9 rfl B 5 i0 Tryz.underlying109 Tryz.underlying9 hi hz0 hz1 hz2 _ _ _ rfl hown s rfl ?c3 ?c4 ?c5 ?_)
 case c3 => unfold maxLen; omega
 case c4 => omega
 case c5 => have := hb1.size; omega
 intro v' w2 hown' hgrow _
 have hlt : b < w1.heap.size := by
  rcases Nat.lt_or_ge b w1.heap.size with h' | h'
  · exact h'
  · simp [Array.getElem?_eq_none h'] at hbk
 have hb2 : w2.heap[b]? = some (.cells #[.pointer (some ⟨b, 0, none⟩), v] 382 (0, 0)) := by
  rw [hgrow.block b hlt (fun e => hne e.symm)]
  exact hbk
 have d0 : w2.cell? ⟨b, 0, none⟩ = some (.pointer (some ⟨b, 0, none⟩)) := by rw [Lib.cell_of_heap hb2]; rfl
 have d1 : w2.cell? ⟨b, 1, none⟩ = some v := by rw [Lib.cell_of_heap hb2]; rfl
 have f1 : w2.frozen? ⟨b, 1, none⟩ = false := Lib.frozen_of_heap hb2 1
 obtain ⟨ao, n', cap, rfl⟩ : ∃ ao n' cap, v' = .slice ao n' cap := by
  rcases hown'.2 with ⟨hv, _⟩ | ⟨g, cap, cur, hv, _⟩
  · exact ⟨_, _, _, hv⟩
  · exact ⟨_, _, _, hv⟩
 go_wp2
 go_ret2
 refine ⟨rfl, ?_, ?_⟩
 · exact Lib.BuilderAt.put (T := 382) (e := 5) hB hb2 (bs' := bs ++ Lib.strCells s) (by simpa [Lib.strCells_length] using hown') (by decide)
 · exact (hb1.grown hgrow (by have := hb1.size; omega) (fun k hk => (hown.lt k hk).1)).setCell (p := ⟨b, 1, none⟩) hB _
end Go.Proofs.YtdpjdifoonfcdaaGreatDoor
