/- Parts of a proof, in build order: JI, JL, JM, VB. -/
import Derived.Test.YtahnadhlagabgaaGreatDoorKs12
import Derived.Deep.Slices
import Derived.Lib.SmallJoins

namespace Go.Proofs.YtahnadhlagabgaaGreatDoor
open Go.RowKit
theorem sig_box (L wh mo ti B va fl : Int) (al : Option Addr) (cs : List (Int × Int)) (cap : Nat) (na : Option Addr) (ns : List Int) (nc : Nat) (w : World) (ht : Tab w) (hcs : Cells w al (prs cs)) (hn : Cells w na (ns.map (Value.int .i64))) :
 ∃ W0, w.alloc (.cells #[.int .i64 L, .slice al cs.length cap, .int .i64 wh, .int .i64 mo, .int .i64 ti, .slice na ns.length nc, .int .i64 B, .int .i64 va, .int .i64 fl] 62) = W0 /\ ∀ wx, Below W0.heap.size W0 wx ->
   (wx.cell? ⟨w.heap.size, 0, none⟩ = some (.int .i64 L) /\ wx.cell? ⟨w.heap.size, 1, none⟩ = some (.slice al cs.length cap) /\ wx.cell? ⟨w.heap.size, 2, none⟩ = some (.int .i64 wh) /\ wx.cell? ⟨w.heap.size, 3, none⟩ = some (.int .i64 mo) /\ wx.cell? ⟨w.heap.size, 4, none⟩ = some (.int .i64 ti) /\ wx.cell? ⟨w.heap.size, 5, none⟩ = some (.slice na ns.length nc) /\ wx.cell? ⟨w.heap.size, 6, none⟩ = some (.int .i64 B) /\ wx.cell? ⟨w.heap.size, 7, none⟩ = some (.int .i64 va) /\ wx.cell? ⟨w.heap.size, 8, none⟩ = some (.int .i64 fl)) /\
   Blk wx w.heap.size 62 (sigV L al cs.length cap wh mo ti na ns.length nc B va fl) /\ Tab wx /\ Cells wx al (prs cs) /\ Cells wx na (ns.map (Value.int .i64)) /\ Below w.heap.size w wx := by
 refine ⟨_, rfl, fun wx hb => ?_⟩
 have hB0 : Below w.heap.size w (w.alloc (.cells (sigV L al cs.length cap wh mo ti na ns.length nc B va fl) 62)) := (Below.refl _ w).alloc (Nat.le_refl _) _
 have h2 := hB0.trans (hb.mono hB0.size)
 have hq := (Blk.new w 62 (sigV L al cs.length cap wh mo ti na ns.length nc B va fl)).below hb (by simp)
 exact ⟨⟨hq.cell 0, hq.cell 1, hq.cell 2, hq.cell 3, hq.cell 4, hq.cell 5, hq.cell 6, hq.cell 7, hq.cell 8⟩, hq, ht.below h2 (Nat.le_refl _), hcs.below h2 (Nat.le_refl _), hn.below h2 (Nat.le_refl _), h2⟩
set_option maxRecDepth 1000000 in
set_option maxHeartbeats 4000000 in
theorem sureL_bad (L wh mo ti B va fl : Int) (al : Option Addr) (cs : List (Int × Int)) (cap : Nat) (na : Option Addr) (ns : List Int) (nc : Nat) (w : World) (ht : Tab w) (hcs : Cells w al (prs cs)) (hl : cs.length <= cap) (hcap : cap <= 9223372036854775807) (hn : Cells w na (ns.map (Value.int .i64))) (hnl : ns.length <= 17592186044415)
 (h : cs.length = 0 ∨ (¬ cs.length = 0 /\ chkB L cs ≠ 0) ∨ ((¬ cs.length = 0 /\ chkB L cs = 0) /\ (ns.length : Int) < L) ∨ ((¬ cs.length = 0 /\ chkB L cs = 0) /\ ¬ (ns.length : Int) < L /\ 512 < ns.length) ∨ ((¬ cs.length = 0 /\ chkB L cs = 0) /\ (¬ (ns.length : Int) < L /\ ¬ 512 < ns.length) /\ B < 0) ∨ ((¬ cs.length = 0 /\ chkB L cs = 0) /\ (¬ (ns.length : Int) < L /\ ¬ 512 < ns.length) /\ ¬ B < 0 /\ 32768 < B)) :
 Calls Tryz.prog 8 #[.agg #[.int .i64 L, .slice al cs.length cap, .int .i64 wh, .int .i64 mo, .int .i64 ti, .slice na ns.length nc, .int .i64 B, .int .i64 va, .int .i64 fl]] w fun e w' => e = .returned (.bool true) /\ Below w.heap.size w w' := by
 obtain ⟨W0, hW0, hFK⟩ := sig_box L wh mo ti B va fl al cs cap na ns nc w ht hcs hn
 have hck := fun (W : World) (h : Cells W al (prs cs)) => checkBank_any L cs al cap W h (by omega) hl hcap
 obtain ⟨⟨y0, y1, y2, y3, y4, y5, y6, y7, y8⟩, -, -, -, -, -⟩ := hFK W0 (Below.refl _ _)
 have hwk := fun (W : World) (h : Below W0.heap.size W0 W) => bworks_any W (hFK W h).2.2.1
 have HFK := Lib.hid hFK; have HCK := Lib.hid hck; have HWK := Lib.hid hwk; have HW0 := Lib.hid hW0
 clear hFK hck hwk hW0 ht hcs hn
 obtain ⟨E, hE⟩ : ∃ E, E = chkB L cs := ⟨_, rfl⟩
 rw [<- hE] at h HCK
 clear hE
 rcases h with h1 | ⟨h1, h2⟩ | ⟨⟨h1, rfl⟩, h3⟩ | ⟨⟨h1, rfl⟩, h3, h4⟩ | ⟨⟨h1, rfl⟩, ⟨h3, h4⟩, h5⟩ | ⟨⟨h1, rfl⟩, ⟨h3, h4⟩, h5, h6⟩
 · have e1 : (cs.length : Int) = 0 := by omega
   rw [h1] at HW0
   go_enter Tryz.func8, Tryz.ntmps8
   go_wp2_with fail
   rw [HW0.out]
   refine (HWK.out _ (Below.refl _ _)).mono ?_
   rintro e w1 ⟨rfl, hb1⟩
   go_wp2_with fail
   go_ret
   exact ⟨rfl, (HFK.out w1 hb1).2.2.2.2.2⟩
 all_goals
  have e1 : ¬ (cs.length : Int) = 0 := by omega
 · go_enter Tryz.func8, Tryz.ntmps8
   go_wp2_with fail
   rw [HW0.out]
   refine (HCK.out _ (HFK.out _ (Below.refl _ _)).2.2.2.1).mono ?_
   rintro e w1 ⟨rfl, hb1⟩
   go_wp2_with fail
   refine (HWK.out _ hb1).mono ?_
   rintro e w2 ⟨rfl, hb2⟩
   go_wp2_with fail
   go_ret
   exact ⟨rfl, (HFK.out w2 (hb1.trans (hb2.mono hb1.size))).2.2.2.2.2⟩
 all_goals
  try have e4 : ¬ (512 : Int) < ns.length := by omega
  try have e4 : (512 : Int) < ns.length := by omega
  go_enter Tryz.func8, Tryz.ntmps8
  go_wp2_with fail
  rw [HW0.out]
  refine (HCK.out _ (HFK.out _ (Below.refl _ _)).2.2.2.1).mono ?_
  rintro e w1 ⟨rfl, hb1⟩
  obtain ⟨⟨z0, z1, z2, z3, z4, z5, z6, z7, z8⟩, -, -, -, -, -⟩ := HFK.out w1 hb1
  clear y0 y1 y2 y3 y4 y5 y6 y7 y8
  go_wp2_with fail
  refine (HWK.out _ hb1).mono ?_
  rintro e w2 ⟨rfl, hb2⟩
  go_wp2_with fail
  go_ret
  exact ⟨rfl, (HFK.out w2 (hb1.trans (hb2.mono hb1.size))).2.2.2.2.2⟩
end Go.Proofs.YtahnadhlagabgaaGreatDoor

namespace Go.Proofs.YtahnadhlagabgaaGreatDoor
open Go.RowKit
theorem two_at {w : World} {b off : Nat} {u v : Value} (h1 : w.cell? ⟨b, off, none⟩ = some u) (h2 : w.cell? ⟨b, off + 1, none⟩ = some v) : ∀ j x, (#[u, v] : Array Value)[j]? = some x -> w.cell? ((⟨b, off, none⟩ : Addr).add j) = some x := by
 intro j x hj
 rw [Addr.add_lit]
 match j, hj with
 | 0, hj => simp at hj; subst hj; exact h1
 | 1, hj => simp at hj; subst hj; exact h2
theorem bankOK_wave {L : Int} {cs : List (Int × Int)} {i : Nat} {p q : Int} (h : bankOK L cs = true) (hi : cs[i]? = some (p, q)) : waveOK L p q = true := by
 simp only [bankOK, Bool.and_eq_true, decide_eq_true_eq, List.all_eq_true] at h
 have h3 := h.1.2 _ (List.mem_of_getElem? hi)
 simp only [chOK, Bool.and_eq_true] at h3
 exact h3.1
set_option maxRecDepth 1000000 in
set_option maxHeartbeats 8000000 in
theorem sureL_good (L wh mo ti B va fl : Int) (al : Option Addr) (cs : List (Int × Int)) (cap : Nat) (na : Option Addr) (ns : List Int) (nc : Nat) (w : World) (ht : Tab w) (hcs : Cells w al (prs cs)) (hl : cs.length <= cap) (hcap : cap <= 9223372036854775807) (hn : Cells w na (ns.map (Value.int .i64)))
 (h0 : ¬ cs.length = 0) (hk : chkB L cs = 0) (h1 : ¬ (ns.length : Int) < L) (h2 : ¬ 512 < ns.length) (h3 : ¬ B < 0) (h4 : ¬ 32768 < B) :
 Calls Tryz.prog 8 #[.agg #[.int .i64 L, .slice al cs.length cap, .int .i64 wh, .int .i64 mo, .int .i64 ti, .slice na ns.length nc, .int .i64 B, .int .i64 va, .int .i64 fl]] w fun e w' => e = .returned (.bool true) /\ Below w.heap.size w w' := by
 obtain ⟨hL, hbk⟩ := chkB_0 hk
 simp only [inB, decide_eq_true_eq] at hL
 have hl64 := bankOK_len hbk
 obtain ⟨wn, hwn⟩ : ∃ wn : Nat, wh % (cs.length : Int) = wn := Int.eq_ofNat_of_zero_le (Int.emod_nonneg _ (by omega))
 have hwn2 : (wn : Int) < cs.length := by rw [<- hwn]; exact Int.emod_lt_of_pos _ (by omega)
 obtain ⟨tn, htn⟩ : ∃ tn : Nat, ti % ((ns.length : Int) - L + 1) = tn := Int.eq_ofNat_of_zero_le (Int.emod_nonneg _ (by omega))
 have htn2 : (tn : Int) < (ns.length : Int) - L + 1 := by rw [<- htn]; exact Int.emod_lt_of_pos _ (by omega)
 obtain ⟨m2, hm2⟩ : ∃ m2, m2 = mo % 20 := ⟨_, rfl⟩
 have hm3 : 0 <= m2 /\ m2 < 20 := by rw [hm2]; exact ⟨Int.emod_nonneg _ (by decide), Int.emod_lt_of_pos _ (by decide)⟩
 obtain ⟨⟨p, q⟩, hpq⟩ := get_of_lt (show wn < cs.length by omega)
 have hwv := bankOK_wave hbk hpq
 obtain ⟨ab, ao, rfl⟩ := hcs.addr (prs_ne (by omega))
 have hck := fun (W : World) (h : Cells W (some ⟨ab, ao, none⟩) (prs cs)) => checkBank_any L cs (some ⟨ab, ao, none⟩) cap W h (by omega) hl hcap
 rw [hk] at hck
 have hmA := fun W => modz_any wh cs.length W (by omega) (by omega)
 have hmB := fun W => modz_any ti ((ns.length : Int) - L + 1) W (by omega) (by omega)
 have hmC := fun W => modz_any mo 20 W (by omega) (by omega)
 rw [hwn] at hmA
 rw [htn] at hmB
 rw [<- hm2] at hmC
 have hsu := fun W => sure_any L p q B va fl W
 have hwa := fun W => Wave_any L p q W
 have hwE : wavE L p q = 0 := by simp [wavE, hwv]
 have hwR : wavR L p q = (wav L p q).take L.toNat := by simp [wavR, hwv]
 have hwl : (wavR L p q).length = L.toNat := by rw [wavR_length, if_pos hwv]
 have hwb : ∀ x ∈ wavR L p q, -127 <= x /\ x <= 127 := fun x hx => wav_bd L p q x (List.mem_of_mem_take (by rw [<- hwR]; exact hx))
 have hmem := fun (v : Int) h1 h2 => sure_mem (L := L) (cs := cs) (ns := ns) (va := va) (fl := fl) (B := B) (v := v) (mo := m2) (wn := wn) (tn := tn) hpq h1 h2 hm3.1 (by omega) (by omega)
 rw [<- hwR] at hmem
 rw [hwE] at hwa
 have hST : ∀ v x, SurT L p q B va fl v x -> x = 0 -> (0 <= v /\ v <= 1048576) /\ inB 1 va 1048576 = true /\ inB 0 fl 65536 = true := fun v x h hx => by
  unfold SurT at h
  split at h
  · omega
  · split at h
    · omega
    · split at h
      · omega
      · rename_i h5
        simp only [Bool.not_eq_false, Bool.and_eq_true] at h5
        rcases h with ⟨_, h6, h7, _⟩ | ⟨_, h6, _⟩ <;> exact ⟨by omega, h5.1.2, h5.2⟩
 obtain ⟨W0, hW0, hFK⟩ := sig_box L wh mo ti B va fl (some ⟨ab, ao, none⟩) cs cap na ns nc w ht hcs hn
 have hwk := fun (W : World) (h : Below W0.heap.size W0 W) => bworks_any W (hFK W h).2.2.1
 have hbu := fun (A : Int) (ha : Option Addr) (hc : Nat) (W : World) (h : Below W0.heap.size W0 W) (hh : Cells W ha ((wavR L p q).map (Value.int .i64))) (a1 : 0 <= A) (a2 : A <= 2097152) => buried_any L wh mo ti B va fl A (some ⟨ab, ao, none⟩) cs.length cap na ns nc ha (wavR L p q) hc tn W (hFK W h).2.2.2.2.1 (by omega) hh (by omega) (by omega) (by omega) a1 a2 hwb (by omega)
 have hbl := fun A => burN_len ns (wavR L p q) B A tn ns.length
 have hhi := fun (A : Int) (da : Option Addr) (dc : Nat) (W : World) (h : Below W0.heap.size W0 W) (hd : Cells W da ((burN ns (wavR L p q) B A tn ns.length).map (Value.int .i64))) => Hits_any L cs (some ⟨ab, ao, none⟩) cap (burN ns (wavR L p q) B A tn ns.length) da dc va fl W (hFK W h).2.2.2.1 (by omega) hl hcap hd (by rw [burN_len]; omega)
 simp only [hbl] at hhi
 have hEs := fun A => (show hitE L cs (burN ns (wavR L p q) B A tn ns.length) va fl = if chkB L cs ≠ 0 then chkB L cs else if dataOK (burN ns (wavR L p q) B A tn ns.length) = false then 73 else if (inB 1 va 1048576 && inB 0 fl 65536) = false then 8 else 0 from rfl)
 simp only [hk] at hEs
 obtain ⟨c1, c2⟩ : W0.cell? ⟨ab, ao + wn * 2, none⟩ = some (.int .i64 p) /\ W0.cell? ⟨ab, ao + wn * 2 + 1, none⟩ = some (.int .i64 q) := by
  have hcx := (hFK W0 (Below.refl _ _)).2.2.2.1
  exact ⟨hcx.at (prs_fst hpq), by rw [Nat.add_assoc]; exact hcx.at (prs_snd hpq)⟩
 have hCC : ∀ wx, Below W0.heap.size W0 wx -> wx.cell? ⟨ab, ao + wn * 2, none⟩ = some (.int .i64 p) /\ wx.cell? ⟨ab, ao + wn * 2 + 1, none⟩ = some (.int .i64 q) := fun wx h => ⟨cell_keep c1 h (Nat.le_refl _), cell_keep c2 h (Nat.le_refl _)⟩
 generalize wavR L p q = hs at *
 obtain ⟨⟨y0, y1, y2, y3, y4, y5, y6, y7, y8⟩, -, -, -, -, -⟩ := hFK W0 (Below.refl _ _)
 have e0 : ((cs.length : Int) == 0) = false := by rw [beq_eq_false_iff_ne]; omega
 have e2 : ¬ (512 : Int) < ns.length := by omega
 have HFK := Lib.hid hFK; have HCK := Lib.hid hck; have HWK := Lib.hid hwk; have HW0 := Lib.hid hW0; have HMA := Lib.hid hmA; have HMB := Lib.hid hmB; have HMC := Lib.hid hmC; have HSU := Lib.hid hsu; have HWA := Lib.hid hwa; have HMEM := Lib.hid hmem; have HST := Lib.hid hST; have HBU := Lib.hid hbu; have HHI := Lib.hid hhi; have HES := Lib.hid hEs; have HCC := Lib.hid hCC; have HWL := Lib.hid hwl; have HBL := Lib.hid hbl
 clear hFK hck hwk hW0 hmA hmB hmC hsu hwa hmem hST hbu hhi hEs hCC hwl hbl ht hcs hn c1 c2 hwn htn hm2 hwv hwE hwR hwb hpq hbk hk
 go_enter Tryz.func8, Tryz.ntmps8
 go_wp2_with fail
 rw [HW0.out]
 refine (HCK.out _ (HFK.out _ (Below.refl _ _)).2.2.2.1).mono ?_
 rintro e w1 ⟨rfl, hb1⟩
 obtain ⟨⟨z0, z1, z2, z3, z4, z5, z6, z7, z8⟩, -, -, -, -, -⟩ := HFK.out w1 hb1
 obtain ⟨x0, x1⟩ := HCC.out w1 hb1
 clear y0 y1 y2 y3 y4 y5 y6 y7 y8
 have wi1 : (0 : Int) <= wn := by omega
 go_wp2_with (first
  | (go_at_call 37; with_reducible refine Calls.mono (HMA.out _) ?_; rintro e w9 ⟨rfl, rfl⟩)
  | (go_at_call 37; with_reducible refine Calls.mono (HMB.out _) ?_; rintro e w9 ⟨rfl, rfl⟩))
 refine wp_region_held_drew (S := (fun w' => w'.cell? ⟨w.heap.size, 0, none⟩ = some (.int .i64 L) /\ w'.cell? ⟨w.heap.size, 1, none⟩ = some (.slice (some ⟨ab, ao, none⟩) cs.length cap) /\ w'.cell? ⟨w.heap.size, 6, none⟩ = some (.int .i64 B) /\ w'.cell? ⟨w.heap.size, 7, none⟩ = some (.int .i64 va) /\ w'.cell? ⟨w.heap.size, 8, none⟩ = some (.int .i64 fl) /\ w'.cell? ⟨ab, ao + wn * 2, none⟩ = some (.int .i64 p) /\ w'.cell? ⟨ab, ao + wn * 2 + 1, none⟩ = some (.int .i64 q))) (by kernel_rfl) ⟨z0, z1, z6, z7, z8, x0, x1⟩ (fun h9 => ?_)
 refine tkV 0 (.pointer (some ⟨w.heap.size, 0, none⟩)) h9 ?_
 refine tkV 1 (.int .i64 L) h9 ?_
 refine tkV 2 (.pointer (some ⟨w.heap.size, 1, none⟩)) h9 ?_
 refine tkV 3 (.slice (some ⟨ab, ao, none⟩) cs.length cap) h9 ?_
 refine tkV 4 (.int .i64 wn) h9 ?_
 refine tkV 5 (.pointer (some ⟨ab, ao + wn * 2, none⟩)) h9 ?_
 refine tkV 6 (.agg #[.int .i64 p, .int .i64 q]) h9 ?_ (hy := by intro w9 h; exact exec_load_arr 54 _ rfl ⟨ab, ao + wn * 2, none⟩ rfl #[.int .i64 p, .int .i64 q] _ (two_at h.2.2.2.2.2.1 h.2.2.2.2.2.2) Tryz.underlying54 (by rfl) (by kernel_rfl))
 refine tkV 7 (.pointer (some ⟨w.heap.size, 6, none⟩)) h9 ?_
 refine tkV 8 (.int .i64 B) h9 ?_
 refine tkV 9 (.pointer (some ⟨w.heap.size, 7, none⟩)) h9 ?_
 refine tkV 10 (.int .i64 va) h9 ?_
 refine tkV 11 (.pointer (some ⟨w.heap.size, 8, none⟩)) h9 ?_
 refine tkV 12 (.int .i64 fl) h9 ?_
 refine tkC 13 (fun K hK => ?_)
 go_simp
 refine (HSU.out _).mono ?_
 rintro e w2 ⟨⟨v, x, rfl, hst⟩, hb2⟩
 have hb02 := hb1.drew.trans (hb2.mono hb1.drew.size)
 obtain ⟨⟨u0, u1, u2, u3, u4, u5, u6, u7, u8⟩, -, -, -, -, -⟩ := HFK.out w2 hb02
 obtain ⟨r0, r1⟩ := HCC.out w2 hb02
 have HSTT := Lib.hid hst; have HB02 := Lib.hid hb02
 clear hst hb02 hb2
 refine hK.out _ _ ⟨u0, u1, u6, u7, u8, r0, r1⟩ (fun hA => ?_)
 clear hK K
 try simp only [Act.put, List.setIfInBounds_toArray, List.set_cons_zero, List.set_cons_succ]
 refine tkV 14 (.tuple #[.int .i64 v, .int .i64 x]) hA ?_
 refine tkV 15 (.int .i64 v) hA ?_
 refine tkV 16 (.int .i64 x) hA ?_
 refine tkV 17 (.int .i64 v) hA ?_
 refine tkV 18 (.int .i64 x) hA ?_
 refine wpAnyH_done (by kernel_rfl) ?_ _
 clear hA h9 z0 z1 z2 z3 z4 z5 z6 z7 z8 x0 x1
 go_wp2_with fail
 refine wp_region_held_drew (S := (fun w' => w'.cell? ⟨w.heap.size, 0, none⟩ = some (.int .i64 L) /\ w'.cell? ⟨w.heap.size, 1, none⟩ = some (.slice (some ⟨ab, ao, none⟩) cs.length cap) /\ w'.cell? ⟨ab, ao + wn * 2, none⟩ = some (.int .i64 p) /\ w'.cell? ⟨ab, ao + wn * 2 + 1, none⟩ = some (.int .i64 q))) (by kernel_rfl) ⟨u0, u1, r0, r1⟩ (fun h9 => ?_)
 refine tkV 0 (.pointer (some ⟨w.heap.size, 0, none⟩)) h9 ?_
 refine tkV 1 (.int .i64 L) h9 ?_
 refine tkV 2 (.pointer (some ⟨w.heap.size, 1, none⟩)) h9 ?_
 refine tkV 3 (.slice (some ⟨ab, ao, none⟩) cs.length cap) h9 ?_
 refine tkV 4 (.int .i64 wn) h9 ?_
 refine tkV 5 (.pointer (some ⟨ab, ao + wn * 2, none⟩)) h9 ?_
 refine tkV 6 (.agg #[.int .i64 p, .int .i64 q]) h9 ?_ (hy := by intro w9 h; exact exec_load_arr 54 _ rfl ⟨ab, ao + wn * 2, none⟩ rfl #[.int .i64 p, .int .i64 q] _ (two_at h.2.2.1 h.2.2.2) Tryz.underlying54 (by rfl) (by kernel_rfl))
 refine tkC 7 (fun K hK => ?_)
 go_simp
 refine (HWA.out _).mono ?_
 rintro e w3 ⟨⟨hb, hc, rfl, hcs3⟩, hb3⟩
 have hb03 := HB02.out.drew.trans (hb3.mono HB02.out.drew.size)
 obtain ⟨⟨z0, z1, z2, z3, z4, z5, z6, z7, z8⟩, hrow3, -, -, -, -⟩ := HFK.out w3 hb03
 obtain ⟨x0, x1⟩ := HCC.out w3 hb03
 have HCS3 := Lib.hid hcs3; have HB03 := Lib.hid hb03; have HROW3 := Lib.hid hrow3
 clear hcs3 hb03 hb3 hrow3
 refine hK.out _ _ ⟨z0, z1, x0, x1⟩ (fun hA => ?_)
 clear hK K
 try simp only [Act.put, List.setIfInBounds_toArray, List.set_cons_zero, List.set_cons_succ]
 refine tkV 8 (.tuple #[.slice hb hs.length hc, .int .i64 0]) hA ?_
 refine tkV 9 (.slice hb hs.length hc) hA ?_
 refine tkV 10 (.int .i64 0) hA ?_
 refine tkV 11 (.slice hb hs.length hc) hA ?_
 refine tkV 12 (.int .i64 0) hA ?_
 refine wpAnyH_done (by kernel_rfl) ?_ _
 clear hA h9 u0 u1 u2 u3 u4 u5 u6 u7 u8 r0 r1
 by_cases hx : x = 0
 · subst hx
   obtain ⟨⟨v1, v2⟩, v3, v4⟩ := HST.out v 0 HSTT.out rfl
   go_wp2_with fail
   refine wp_region_held_drew (S := fun w' => w'.heap[w.heap.size]? = some (.cells (sigV L (some ⟨ab, ao, none⟩) cs.length cap wh mo ti na ns.length nc B va fl) 62 (0, 0)) /\ w'.cell? ⟨w.heap.size, 3, none⟩ = some (.int .i64 mo)) (by kernel_rfl) ⟨HROW3.out, z3⟩ (fun h9 => ?_)
   refine tkV 0 (.agg (sigV L (some ⟨ab, ao, none⟩) cs.length cap wh mo ti na ns.length nc B va fl)) h9 ?_ (hy := by intro w9 h; exact exec_load_row 62 _ rfl w.heap.size rfl 62 (sigV L (some ⟨ab, ao, none⟩) cs.length cap wh mo ti na ns.length nc B va fl) (0, 0) _ h.1 Tryz.underlying62 (by rfl) (by kernel_rfl))
   refine tkV 1 (.slice hb hs.length hc) h9 ?_
   refine tkV 2 (.int .i64 v) h9 ?_
   refine tkV 3 (.pointer (some ⟨w.heap.size, 3, none⟩)) h9 ?_
   refine tkV 4 (.int .i64 mo) h9 ?_
   refine tkV 7 (.int .i64 tn) h9 ?_
   refine tkC 5 (fun K hK => ?_)
   go_simp
   refine (HMC.out _).mono ?_
   rintro e w9 ⟨rfl, rfl⟩
   refine hK.out _ _ h9 (fun hA => ?_)
   clear hK K
   try simp only [Act.put, List.setIfInBounds_toArray, List.set_cons_zero, List.set_cons_succ]
   refine tkV 6 (.int .i64 (v + m2)) hA ?_
   refine tkC 8 (fun K hK => ?_)
   go_simp
   refine (HBU.out (v + m2) hb hc w3.drew HB03.out.drew (HCS3.out.below (Below.refl _ _).drew (Nat.le_refl _)) (by omega) (by omega)).mono ?_
   rintro e w4 ⟨⟨db, dc, rfl, hcs4⟩, hb4⟩
   have hb04 := HB03.out.drew.trans (hb4.mono HB03.out.drew.size)
   obtain ⟨⟨u0, u1, u2, u3, u4, u5, u6, u7, u8⟩, hrow4, -, -, -, -⟩ := HFK.out w4 hb04
   have HCS4 := Lib.hid hcs4; have HB04 := Lib.hid hb04
   clear hcs4 hb04 hb4
   refine hK.out _ _ ⟨hrow4, u3⟩ (fun hB => ?_)
   clear hK K
   try simp only [Act.put, List.setIfInBounds_toArray, List.set_cons_zero, List.set_cons_succ]
   refine tkV 9 (.slice db ns.length dc) hB ?_
   refine wpAnyH_done (by kernel_rfl) ?_ _
   clear hA hB h9 hrow4 z0 z1 z2 z3 z4 z5 z6 z7 z8 x0 x1
   have hhi := HHI.out (v + m2) db dc w4 HB04.out HCS4.out
   have hES := HES.out (v + m2)
   have hME := HMEM.out v
   rw [if_neg (by decide)] at hES
   cases hdo : dataOK (burN ns hs B (v + m2) tn ns.length) with
   | false =>
     rw [hdo, if_pos rfl] at hES
     rw [hES] at hhi
     have HH := Lib.hid hhi
     clear hhi hES hdo hME
     go_wp2_with fail
     refine HH.out.mono ?_
     rintro e w5 ⟨⟨hv, rfl, -⟩, hb5⟩
     have hb05 := HB04.out.trans (hb5.mono HB04.out.size)
     go_wp2_with fail
     refine (HWK.out _ hb05).mono ?_
     rintro e w6 ⟨rfl, hb6⟩
     go_wp2_with fail
     go_ret
     exact ⟨rfl, (HFK.out w6 (hb05.trans (hb6.mono hb05.size))).2.2.2.2.2⟩
   | true =>
     rw [hdo, if_neg (by decide), v3, v4, if_neg (by decide)] at hES
     have hme := hME hES HSTT.out
     rw [hES] at hhi
     have hln := hitR_len L cs (burN ns hs B (v + m2) tn ns.length) va fl
     generalize hitR L cs (burN ns hs B (v + m2) tn ns.length) va fl = l at *
     have HH := Lib.hid hhi; have HME := Lib.hid hme
     clear hhi hES hdo hME hme
     go_wp2_with fail
     refine HH.out.mono ?_
     rintro e w5 ⟨⟨hv, rfl, hrow5⟩, hb5⟩
     have hb05 := HB04.out.trans (hb5.mono HB04.out.size)
     obtain ⟨la, lc, rfl, hlc⟩ := hrow5.cells
     have HLC := Lib.hid hlc; have HB05 := Lib.hid hb05
     clear hrow5 hlc hb05 hb5 u0 u1 u2 u3 u4 u5 u6 u7 u8
     go_wp2_with fail
     go_loopw [11, 12] (fun b i wr => ∃ k : Nat, k <= l.length /\ i = .int .i64 k /\ b = .bool ((l.take k).any (atB tn wn)) /\ wr = w5) (fun _ i _ => l.length - (intOf i).toNat)
     case atStart => exact ⟨0, Nat.zero_le _, rfl, rfl, rfl⟩
     case round =>
      obtain ⟨k, hk, rfl, rfl, rfl⟩ := hrel
      by_cases hlt : k < l.length
      · obtain ⟨y, hy⟩ := get_of_lt hlt
        obtain ⟨q0, q1, -⟩ := hts_at hy
        have hst : (l.take (k + 1)).any (atB tn wn) = ((l.take k).any (atB tn wn) || (decide (y.1.1 = tn) && decide (y.1.2.1 = wn))) := by
         rw [List.take_succ_eq_append_getElem hlt, List.any_append, show l[k] = y from (List.getElem?_eq_some_iff.1 hy).2]
         simp [atB]
        obtain ⟨lb, lo, rfl⟩ := HLC.out.addr (by intro h; rw [h] at q0; simp at q0)
        have d0 := HLC.out.at q0
        have d1 := HLC.out.at q1
        rw [<- Nat.add_assoc] at d1
        generalize y.1.1 = a0 at *
        generalize y.1.2.1 = a1 at *
        have k1 : (k : Int) < l.length := by omega
        have k2 : (0 : Int) <= k := by omega
        have HS := Lib.hid hst
        clear hst q0 q1 hy
        cases hb1 : (l.take k).any (atB tn wn) with
        | true =>
          rw [hb1] at HS
          go_wp2
          go_roundw
          case rel => exact ⟨k + 1, by omega, by go_num, by rw [HS.out]; rfl, by first | rfl | trivial⟩
          case measure => simp [intOf]; omega
        | false =>
          rw [hb1] at HS
          by_cases hq0 : a0 = tn
          · have t0 : (a0 == (tn : Int)) = true := by rw [beq_iff_eq]; exact hq0
            by_cases hq1 : a1 = wn
            · have t1 : (a1 == (wn : Int)) = true := by rw [beq_iff_eq]; exact hq1
              rw [decide_eq_true hq0, decide_eq_true hq1] at HS
              clear hq0 hq1
              go_wp2
              go_roundw
              case rel => exact ⟨k + 1, by omega, by go_num, by rw [HS.out]; rfl, by first | rfl | trivial⟩
              case measure => simp [intOf]; omega
            · have t1 : (a1 == (wn : Int)) = false := by rw [beq_eq_false_iff_ne]; exact hq1
              rw [decide_eq_true hq0, decide_eq_false hq1] at HS
              clear hq0 hq1
              go_wp2
              go_roundw
              case rel => exact ⟨k + 1, by omega, by go_num, by rw [HS.out]; rfl, by first | rfl | trivial⟩
              case measure => simp [intOf]; omega
          · have t0 : (a0 == (tn : Int)) = false := by rw [beq_eq_false_iff_ne]; exact hq0
            rw [decide_eq_false hq0, Bool.false_and] at HS
            clear hq0
            go_wp2
            go_roundw
            case rel => exact ⟨k + 1, by omega, by go_num, by rw [HS.out]; rfl, by first | rfl | trivial⟩
            case measure => simp [intOf]; omega
      · obtain rfl : k = l.length := by omega
        rw [List.take_length, HME.out]
        go_wp2_with fail
        refine (HWK.out _ HB05.out).mono ?_
        rintro e w6 ⟨rfl, hb6⟩
        go_wp2_with fail
        go_ret
        exact ⟨rfl, (HFK.out w6 (HB05.out.trans (hb6.mono HB05.out.size))).2.2.2.2.2⟩
 · go_wp2_with fail
   refine (HWK.out _ HB03.out).mono ?_
   rintro e w4 ⟨rfl, hb4⟩
   go_wp2_with fail
   go_ret
   exact ⟨rfl, (HFK.out w4 (HB03.out.trans (hb4.mono HB03.out.size))).2.2.2.2.2⟩
end Go.Proofs.YtahnadhlagabgaaGreatDoor

namespace Go.Proofs.YtahnadhlagabgaaGreatDoor
open Go.RowKit
theorem sure_law (L wh mo ti B va fl : Int) (al : Option Addr) (cs : List (Int × Int)) (cap : Nat) (na : Option Addr) (ns : List Int) (nc : Nat) (w : World) (ht : Tab w) (hcs : Cells w al (prs cs)) (hl : cs.length <= cap) (hcap : cap <= 9223372036854775807) (hn : Cells w na (ns.map (Value.int .i64))) (hnl : ns.length <= 17592186044415) :
 Calls Tryz.prog 8 #[.agg #[.int .i64 L, .slice al cs.length cap, .int .i64 wh, .int .i64 mo, .int .i64 ti, .slice na ns.length nc, .int .i64 B, .int .i64 va, .int .i64 fl]] w fun e w' => e = .returned (.bool true) /\ Below w.heap.size w w' := by
 have hbad := sureL_bad L wh mo ti B va fl al cs cap na ns nc w ht hcs hl hcap hn hnl
 by_cases h0 : cs.length = 0
 · exact hbad (.inl h0)
 by_cases hk : chkB L cs = 0
 · by_cases h1 : (ns.length : Int) < L
   · exact hbad (.inr (.inr (.inl ⟨⟨h0, hk⟩, h1⟩)))
   by_cases h2 : 512 < ns.length
   · exact hbad (.inr (.inr (.inr (.inl ⟨⟨h0, hk⟩, h1, h2⟩))))
   by_cases h3 : B < 0
   · exact hbad (.inr (.inr (.inr (.inr (.inl ⟨⟨h0, hk⟩, ⟨h1, h2⟩, h3⟩)))))
   by_cases h4 : 32768 < B
   · exact hbad (.inr (.inr (.inr (.inr (.inr ⟨⟨h0, hk⟩, ⟨h1, h2⟩, h3, h4⟩)))))
   exact sureL_good L wh mo ti B va fl al cs cap na ns nc w ht hcs hl hcap hn h0 hk h1 h2 h3 h4
 · exact hbad (.inr (.inl ⟨h0, hk⟩))
end Go.Proofs.YtahnadhlagabgaaGreatDoor

namespace Go.Proofs.YtahnadhlagabgaaGreatDoor
open Go.RowKit Go.WideShapes Go.ChangeShapes Go.Deep Go.Joins
section
variable {H : Type} {enc : TypeId × Value -> H} {P : Program} {w : World} {base : Nat} {spare : Nat -> Bool} {held : Bool}
theorem array9 {α : Type} {cs : Array α} (h : cs.size = 9) : ∃ c0 c1 c2 c3 c4 c5 c6 c7 c8, cs = #[c0, c1, c2, c3, c4, c5, c6, c7, c8] := by
 obtain ⟨l⟩ := cs
 match l, h with
 | [c0, c1, c2, c3, c4, c5, c6, c7, c8], _ => exact ⟨c0, c1, c2, c3, c4, c5, c6, c7, c8, rfl⟩
theorem open_sig {r : Reach} {b0 : Nat} {t i sc ch si : TypeId} {f0 f1 f2 f3 f4 f5 f6 f7 f8 h0 h1 : Field} {v : Value} {d : DataW H} {p : List MemPlace} (hs : P.underlying t = some (.struct #[f0, f1, f2, f3, f4, f5, f6, f7, f8])) (j0 : f0.type = i /\ f0.offset = 0) (j1 : f1.type = sc /\ f1.offset = 1) (j2 : f2.type = i /\ f2.offset = 2) (j3 : f3.type = i /\ f3.offset = 3) (j4 : f4.type = i /\ f4.offset = 4) (j5 : f5.type = si /\ f5.offset = 5) (j6 : f6.type = i /\ f6.offset = 6) (j7 : f7.type = i /\ f7.offset = 7) (j8 : f8.type = i /\ f8.offset = 8)
 (hi : P.underlying i = some (.int .i64)) (hsc : P.underlying sc = some (.slice ch)) (hch : P.underlying ch = some (.struct #[h0, h1])) (l0 : h0.type = i /\ h0.offset = 0) (l1 : h1.type = i /\ h1.offset = 1) (hsi : P.underlying si = some (.slice i)) (ci : P.cellsOf i = 1) (csc : P.cellsOf sc = 1) (cch : P.cellsOf ch = 2) (csi : P.cellsOf si = 1) (ct : P.cellsOf t = 9)
 (hv : Value.okWide P w r b0 t v) (h : DataW.Trod enc P w base spare held t v d p) :
 ∃ (n0 n2 n3 n4 n6 n7 n8 : Int) (ao : Option Addr) (cs : List (Int × Int)) (cap : Nat) (na : Option Addr) (ns : List Int) (nc : Nat) (dd : DataW H), v = .agg #[.int .i64 n0, .slice ao cs.length cap, .int .i64 n2, .int .i64 n3, .int .i64 n4, .slice na ns.length nc, .int .i64 n6, .int .i64 n7, .int .i64 n8] /\ (Cells w ao (prs cs) /\ cs.length <= cap /\ cap <= 9223372036854775807) /\ (Cells w na (ns.map (Value.int .i64)) /\ ns.length <= nc /\ ns.length <= dlen dd /\ (na = none -> nc = 0)) /\ (∀ n ∈ dd.weights P si, n ∈ d.weights P t) := by
 obtain ⟨vs, rfl, hsz⟩ := okWide_struct hs hv
 obtain ⟨c0, c1, c2, c3, c4, c5, c6, c7, c8, rfl⟩ := array9 (hsz.trans ct)
 obtain ⟨fuel, hf⟩ := h
 obtain ⟨xs, n, _, hx, _, hlen, hfs⟩ := DataW.trod_struct hs hf
 match xs, hlen with
 | [y0, y1, y2, y3, y4, y5, y6, y7, y8], _ =>
   have t0 := hfs 0 f0 rfl
   have t1 := hfs 1 f1 rfl
   have t2 := hfs 2 f2 rfl
   have t3 := hfs 3 f3 rfl
   have t4 := hfs 4 f4 rfl
   have t5 := hfs 5 f5 rfl
   have t6 := hfs 6 f6 rfl
   have t7 := hfs 7 f7 rfl
   have t8 := hfs 8 f8 rfl
   rw [j0.1, j0.2, ci] at t0
   rw [j1.1, j1.2, csc] at t1
   rw [j2.1, j2.2, ci] at t2
   rw [j3.1, j3.2, ci] at t3
   rw [j4.1, j4.2, ci] at t4
   rw [j5.1, j5.2, csi] at t5
   rw [j6.1, j6.2, ci] at t6
   rw [j7.1, j7.2, ci] at t7
   rw [j8.1, j8.2, ci] at t8
   obtain ⟨n0, e0, _, _⟩ := DataW.trod_int hi (show DataW.trod enc P w base spare held n i [c0] = some y0 from t0)
   obtain ⟨ao, zs, cap, e1, hc, hl, hl2, _⟩ := rd_pairs hsc hch cch l0.2 l1.2 (by rw [l0.1]; exact ci) (by rw [l1.1]; exact ci) (by rw [l0.1]; exact hi) (by rw [l1.1]; exact hi) (show DataW.trod enc P w base spare held n sc [c1] = some y1 from t1)
   obtain ⟨n2, e2, _, _⟩ := DataW.trod_int hi (show DataW.trod enc P w base spare held n i [c2] = some y2 from t2)
   obtain ⟨n3, e3, _, _⟩ := DataW.trod_int hi (show DataW.trod enc P w base spare held n i [c3] = some y3 from t3)
   obtain ⟨n4, e4, _, _⟩ := DataW.trod_int hi (show DataW.trod enc P w base spare held n i [c4] = some y4 from t4)
   obtain ⟨na, us, nc, e5, hn, hnl, _, _, hdl, hnn⟩ := rd_ints2 hsi hi ci (show DataW.trod enc P w base spare held n si [c5] = some y5 from t5)
   obtain ⟨n6, e6, _, _⟩ := DataW.trod_int hi (show DataW.trod enc P w base spare held n i [c6] = some y6 from t6)
   obtain ⟨n7, e7, _, _⟩ := DataW.trod_int hi (show DataW.trod enc P w base spare held n i [c7] = some y7 from t7)
   obtain ⟨n8, e8, _, _⟩ := DataW.trod_int hi (show DataW.trod enc P w base spare held n i [c8] = some y8 from t8)
   simp only [List.cons.injEq, and_true] at e0 e1 e2 e3 e4 e5 e6 e7 e8
   simp only [Prod.mk.injEq] at hx
   refine ⟨n0, n2, n3, n4, n6, n7, n8, ao, zs, cap, na, us, nc, y5.1, by rw [e0, e1, e2, e3, e4, e5, e6, e7, e8], ⟨hc, hl, hl2⟩, ⟨hn, hnl, hdl, hnn⟩, fun m hm => ?_⟩
   rw [hx.1]
   have e' : (DataW.agg ([y0, y1, y2, y3, y4, y5, y6, y7, y8].map (·.1))).weights P t = DataW.weightsEach P ((#[f0, f1, f2, f3, f4, f5, f6, f7, f8] : Array Field).toList.map (·.type)) ([y0, y1, y2, y3, y4, y5, y6, y7, y8].map (·.1)) := by simp [DataW.weights, hs]
   rw [e']
   exact DataW.weights_mem_each (j := 5) (t := si) (d := y5.1) (by show some f5.type = some si; rw [j5.1]) rfl m hm
end
end Go.Proofs.YtahnadhlagabgaaGreatDoor
