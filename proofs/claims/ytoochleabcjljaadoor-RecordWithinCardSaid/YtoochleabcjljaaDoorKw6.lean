/- RecordWithin holds: for every input the law answers true and leaves its arguments as they were. Conditions: those of the given row (the listed tables hold what the program's text lays in them). -/
import Derived.Test.YtoochleabcjljaaDoorKw5
import Derived.Deep.DeepCutAuto
import Derived.ProofKit
import Derived.OpenShut
import Derived.ReadAgain
import Derived.Deep.Slices
import Derived.Deep.SlicePairs
import Derived.Lib.SmallJoins
import Derived.Below
import Derived.ChangeSame
import Derived.Test.YtoochleabcjljaaDoorCards
import Derived.Test.YtoochleabcjljaaDoorTie
import Derived.WalkKit
import Derived.Deep.DeepHandedRow
import Derived.Lib.LaidTab
import Derived.LaidMore
import Derived.Stop.Joined

/- RecordWithin: the loop over the times, a declaration of its own. -/
namespace Go.Proofs.YtoochleabcjljaaDoor
open Go.RowKit

set_option maxRecDepth 1000000 in
def WithinX (ax : Option Addr) (xs : List Int) (cx : Nat) (bm : Nat) (a7 : Option Addr) (c7 b9 : Nat) (a13 : Option Addr) (c13 : Nat) (a14 : Option Addr) (c14 : Nat) (s0 s2 s4 s5 s8 s10 s11 s12 s15 s21 s22 s23 s24 s25 s26 s27 s28 s29 s30 s31 s32 s33 s34 s35 s36 s37 s38 s39 s40 s41 s42 s43 s44 s45 s46 s47 s48 s49 s50 s51 s52 s53 s54 s55 s56 s57 s58 s59 s60 s61 s62 s63 s64 s65 s66 s67 s68 s69 s70 s71 s72 s73 s74 s75 s76 s77 s78 s79 s80 s81 s82 s83 s84 s85 s86 s87 s88 s89 s90 s91 s92 s93 s94 s95 s96 s97 s98 s99 s100 s101 s102 s103 s104 s105 s106 s107 s108 s109 s110 s111 s112 s113 s114 s115 s116 s117 s118 s119 s120 s121 s122 s123 s124 s125 s253 : Value) (B : Nat) (w : World) (a : Act) (w' : World) : Prop :=
  Below B w w' ∧ ∃ v6 v16 v17 v18 v19 v20 v126 v127 v128 v129 v130 v131 v132 v133 v134 v135 v136 v137 v138 v139 v140 v141 v142 v143 v144 v145 v146 v147 v148 v149 v150 v151 v152 v153 v154 v155 v156 v157 v158 v159 v160 v161 v162 v163 v164 v165 v166 v167 v168 v169 v170 v171 v172 v173 v174 v175 v176 v177 v178 v179 v180 v181 v182 v183 v184 v185 v186 v187 v188 v189 v190 v191 v192 v193 v194 v195 v196 v197 v198 v199 v200 v201 v202 v203 v204 v205 v206 v207 v208 v209 v210 v211 v212 v213 v214 v215 v216 v217 v218 v219 v220 v221 v222 v223 v224 v225 v226 v227 v228 v229 v230 v231 v232 v233 v234 v235 v236 v237 v238 v239 v240 v241 v242 v243 v244 v245 v246 v247 v248 v249 v250 v251 v252 : Value, a = ⟨#[s0, .slice ax xs.length cx, s2, .pointer (some ⟨bm, 0, none⟩), s4, s5, v6, .slice a7 xs.length c7, s8, .pointer (some ⟨b9, 0, none⟩), s10, s11, s12, .slice a13 xs.length c13, .slice a14 xs.length c14, s15, v16, v17, v18, v19, v20, s21, s22, s23, s24, s25, s26, s27, s28, s29, s30, s31, s32, s33, s34, s35, s36, s37, s38, s39, s40, s41, s42, s43, s44, s45, s46, s47, s48, s49, s50, s51, s52, s53, s54, s55, s56, s57, s58, s59, s60, s61, s62, s63, s64, s65, s66, s67, s68, s69, s70, s71, s72, s73, s74, s75, s76, s77, s78, s79, s80, s81, s82, s83, s84, s85, s86, s87, s88, s89, s90, s91, s92, s93, s94, s95, s96, s97, s98, s99, s100, s101, s102, s103, s104, s105, s106, s107, s108, s109, s110, s111, s112, s113, s114, s115, s116, s117, s118, s119, s120, s121, s122, s123, s124, s125, v126, v127, v128, v129, v130, v131, v132, v133, v134, v135, v136, v137, v138, v139, v140, v141, v142, v143, v144, v145, v146, v147, v148, v149, v150, v151, v152, v153, v154, v155, v156, v157, v158, v159, v160, v161, v162, v163, v164, v165, v166, v167, v168, v169, v170, v171, v172, v173, v174, v175, v176, v177, v178, v179, v180, v181, v182, v183, v184, v185, v186, v187, v188, v189, v190, v191, v192, v193, v194, v195, v196, v197, v198, v199, v200, v201, v202, v203, v204, v205, v206, v207, v208, v209, v210, v211, v212, v213, v214, v215, v216, v217, v218, v219, v220, v221, v222, v223, v224, v225, v226, v227, v228, v229, v230, v231, v232, v233, v234, v235, v236, v237, v238, v239, v240, v241, v242, v243, v244, v245, v246, v247, v248, v249, v250, v251, v252, s253], []⟩

set_option maxRecDepth 1000000 in
set_option maxHeartbeats 20000000 in
theorem within_loop2 (ts : List (Int × Int)) (sh : Nat) (ax : Option Addr) (xs : List Int) (cx : Nat) (bits : List Int) (w4 : World) (bm b9 : Nat) (ae : Option Addr) (ce : Nat) (a7 : Option Addr) (c7 : Nat) (a13 : Option Addr) (c13 : Nat) (a14 : Option Addr) (c14 : Nat) (Q0 : Exit → Act → World → Prop)
    (s0 s2 s4 s5 s6 s8 s10 s11 s12 s15 s17 s18 s19 s20 s21 s22 s23 s24 s25 s26 s27 s28 s29 s30 s31 s32 s33 s34 s35 s36 s37 s38 s39 s40 s41 s42 s43 s44 s45 s46 s47 s48 s49 s50 s51 s52 s53 s54 s55 s56 s57 s58 s59 s60 s61 s62 s63 s64 s65 s66 s67 s68 s69 s70 s71 s72 s73 s74 s75 s76 s77 s78 s79 s80 s81 s82 s83 s84 s85 s86 s87 s88 s89 s90 s91 s92 s93 s94 s95 s96 s97 s98 s99 s100 s101 s102 s103 s104 s105 s106 s107 s108 s109 s110 s111 s112 s113 s114 s115 s116 s117 s118 s119 s120 s121 s122 s123 s124 s125 s126 s127 s128 s129 s130 s131 s132 s133 s134 s135 s136 s137 s138 s139 s140 s141 s142 s143 s144 s145 s146 s147 s148 s149 s150 s151 s152 s153 s154 s155 s156 s157 s158 s159 s160 s161 s162 s163 s164 s165 s166 s167 s168 s169 s170 s171 s172 s173 s174 s175 s176 s177 s178 s179 s180 s181 s182 s183 s184 s185 s186 s187 s188 s189 s190 s191 s192 s193 s194 s195 s196 s197 s198 s199 s200 s201 s202 s203 s204 s205 s206 s207 s208 s209 s210 s211 s212 s213 s214 s215 s216 s217 s218 s219 s220 s221 s222 s223 s224 s225 s226 s227 s228 s229 s230 s231 s232 s233 s234 s235 s236 s237 s238 s239 s240 s241 s242 s243 s244 s245 s246 s247 s248 s249 s250 s251 s252 s253 : Value) (H1 : Hid (modErr ts sh = 0)) (H2 : Hid (serErr xs = 0)) (z0 : w4.cell? ⟨b9, 0, none⟩ = some (.slice ae ts.length ce)) (z1 : w4.cell? ⟨bm, 1, none⟩ = some (.int .i64 sh))
    (HB7 : Hid (Cells w4 a7 (prs (bands ts (sh : Int).toNat xs xs.length)))) (HB13 : Hid (Cells w4 a13 (prs (bands (exL bits ts ts.length) (sh : Int).toNat xs xs.length)))) (HB14 : Hid (Cells w4 a14 (prs (bands (naL bits ts ts.length) (sh : Int).toNat xs xs.length))))
    (HX4 : Hid (Cells w4 ax (xs.map (Value.int .i64)))) (HE4 : Hid (Cells w4 ae (prs (exL bits ts ts.length))))
    (hexit : ∀ a' w', WithinX ax xs cx bm a7 c7 b9 a13 c13 a14 c14 s0 s2 s4 s5 s8 s10 s11 s12 s15 s21 s22 s23 s24 s25 s26 s27 s28 s29 s30 s31 s32 s33 s34 s35 s36 s37 s38 s39 s40 s41 s42 s43 s44 s45 s46 s47 s48 s49 s50 s51 s52 s53 s54 s55 s56 s57 s58 s59 s60 s61 s62 s63 s64 s65 s66 s67 s68 s69 s70 s71 s72 s73 s74 s75 s76 s77 s78 s79 s80 s81 s82 s83 s84 s85 s86 s87 s88 s89 s90 s91 s92 s93 s94 s95 s96 s97 s98 s99 s100 s101 s102 s103 s104 s105 s106 s107 s108 s109 s110 s111 s112 s113 s114 s115 s116 s117 s118 s119 s120 s121 s122 s123 s124 s125 s253 w4.heap.size w4 a' w' → Q0 (.exit 2) a' w') :
    Code.wp Tryd.prog (Code.loop within2) Q0 ⟨#[s0, .slice ax xs.length cx, s2, .pointer (some ⟨bm, 0, none⟩), s4, s5, s6, .slice a7 xs.length c7, s8, .pointer (some ⟨b9, 0, none⟩), s10, s11, s12, .slice a13 xs.length c13, .slice a14 xs.length c14, s15, .int .i64 0, s17, s18, s19, s20, s21, s22, s23, s24, s25, s26, s27, s28, s29, s30, s31, s32, s33, s34, s35, s36, s37, s38, s39, s40, s41, s42, s43, s44, s45, s46, s47, s48, s49, s50, s51, s52, s53, s54, s55, s56, s57, s58, s59, s60, s61, s62, s63, s64, s65, s66, s67, s68, s69, s70, s71, s72, s73, s74, s75, s76, s77, s78, s79, s80, s81, s82, s83, s84, s85, s86, s87, s88, s89, s90, s91, s92, s93, s94, s95, s96, s97, s98, s99, s100, s101, s102, s103, s104, s105, s106, s107, s108, s109, s110, s111, s112, s113, s114, s115, s116, s117, s118, s119, s120, s121, s122, s123, s124, s125, s126, s127, s128, s129, s130, s131, s132, s133, s134, s135, s136, s137, s138, s139, s140, s141, s142, s143, s144, s145, s146, s147, s148, s149, s150, s151, s152, s153, s154, s155, s156, s157, s158, s159, s160, s161, s162, s163, s164, s165, s166, s167, s168, s169, s170, s171, s172, s173, s174, s175, s176, s177, s178, s179, s180, s181, s182, s183, s184, s185, s186, s187, s188, s189, s190, s191, s192, s193, s194, s195, s196, s197, s198, s199, s200, s201, s202, s203, s204, s205, s206, s207, s208, s209, s210, s211, s212, s213, s214, s215, s216, s217, s218, s219, s220, s221, s222, s223, s224, s225, s226, s227, s228, s229, s230, s231, s232, s233, s234, s235, s236, s237, s238, s239, s240, s241, s242, s243, s244, s245, s246, s247, s248, s249, s250, s251, s252, s253], []⟩ w4 := by
  have hm := modErr_zero H1.out
  have hser := serErr_zero H2.out
  obtain ⟨m1, m2, m3, m4, m5⟩ := hm
  obtain ⟨s1', s2'⟩ := hser
  have M5 := Lib.hid m5; have S2 := Lib.hid s2'
  have HMO := Lib.hid (ex_mod (bits := bits) H1.out).1
  have HEX := Lib.hid hexit
  clear m5 s2' m3 hexit
  have hrf := Below.refl w4.heap.size w4
  dsimp only
  have hwl : within2 = within2 := rfl
  conv at hwl => rhs; whnf
  rw [hwl]
  clear hwl
  go_loopw [16] (fun i wr => ∃ t : Nat, t ≤ xs.length ∧ i = .int .i64 t ∧ Below w4.heap.size w4 wr) (fun i _ => xs.length - (intOf i).toNat)
  case atStart => exact ⟨0, Nat.zero_le _, rfl, hrf⟩
  case round =>
    clear hrf
    obtain ⟨t, ht, rfl, hbt⟩ := hrel
    by_cases hlt2 : t < xs.length
    · obtain ⟨wo, rfl⟩ : ∃ wo : World, wo = wr := ⟨_, rfl⟩
      have y0 := cell_keep z0 hbt (Nat.le_refl _)
      go_wp2_with fail
      go_loopw [17, 18] (fun s i wi => ∃ n : Nat, n ≤ ts.length ∧ n ≤ t + 1 ∧ i = .int .i64 n ∧ s = .int .i64 (exS bits ts xs t n) ∧ Below w4.heap.size w4 wi) (fun _ i _ => ts.length - (intOf i).toNat)
      case atStart => exact ⟨0, Nat.zero_le _, Nat.zero_le _, rfl, rfl, hbt⟩
      case round =>
        clear hbt y0
        obtain ⟨n, hn, hnt, rfl, rfl, hbi⟩ := hrel
        have y0 := cell_keep z0 hbi (Nat.le_refl _)
        have y1 := cell_keep z1 hbi (Nat.le_refl _)
        obtain ⟨s1q, _, _⟩ := sums (bits := bits) M5.out xs t n hn
        have hlb := lohi_bd HMO.out H2.out t hlt2 n (by rw [exL_length]; exact hn) hnt
        rw [s1q] at hlb
        obtain ⟨l1, l2, _, _⟩ := hlb
        clear s1q
        by_cases hgo : n < ts.length ∧ n ≤ t
        · skip
          obtain ⟨hg1, hg2⟩ := hgo
          obtain ⟨y, hy⟩ := get_of_lt (show t - n < xs.length by omega)
          have hxt : (exL bits ts ts.length)[n]? = some (exAt bits ts n, exAt bits ts n) := by rw [exL, List.getElem?_map, List.getElem?_range hg1]; rfl
          obtain ⟨be, oe, rfl⟩ := HE4.out.addr (prs_ne (by rw [exL_length]; omega))
          obtain ⟨bx, ox, rfl⟩ := HX4.out.addr (by simpa using List.ne_nil_of_length_pos (by omega))
          have c1 := cell_keep (HE4.out.at (prs_fst hxt)) hbi (Nat.le_refl _)
          have c2 := cell_keep (HX4.out.int hy) hbi (Nat.le_refl _)
          simp only at c1
          have t2 := S2.out _ (List.mem_of_getElem? hy)
          have t1 := ex_bd (bits := bits) M5.out hg1
          have t3 := taps_at M5.out hg1
          have p1 := prod_bd (a := exAt bits ts n) (x := y) (by omega) (by omega) t2.1 t2.2
          have hsu : exS bits ts xs t (n + 1) = exS bits ts xs t n + exAt bits ts n * y := by rw [exS, List.getD_eq_getElem?_getD, hy]; rfl
          have HSU := Lib.hid hsu
          obtain ⟨p11, p12⟩ := p1
          clear hsu hxt hy t1 t2 t3
          generalize exS bits ts xs t n = S at *
          generalize exAt bits ts n = q at *
          have i1 : (n : Int) < ts.length := by omega
          have i2 : (n : Int) ≤ t := by omega
          go_wp2_with fail
          have a1 : IntKind.i64.wrap ((t : Int) - n) = (t : Int) - n := IntWalk.i64_in _ (by omega)
          have a2 : ((t : Int) - n).toNat = t - n := by omega
          have a3 : (0 : Int) ≤ (t : Int) - n := by omega
          have a4 : (t : Int) - n < (xs.length : Int) := by omega
          have a5 : (0 : Int) ≤ n := by omega
          have a6 : IntKind.i64.wrap (q * y) = q * y := IntWalk.i64_in _ (by omega)
          have a7' : IntKind.i64.wrap (S + q * y) = S + q * y := IntWalk.i64_in _ (by omega)
          go_quiet (fail)
          clear a1 a2 a3 a4 a5 a6 a7'
          go_wp2
          go_roundw
          case rel => exact ⟨n + 1, by omega, by omega, by go_num, by rw [HSU.out], bel_drewN hbi _⟩
          case measure => simp [intOf]; omega
        · have hnm : n = min ts.length (t + 1) := by omega
          have hwi := within_at (bits := bits) H1.out xs t sh
          rw [← hnm] at hwi
          have hg7 : (bands ts (sh : Int).toNat xs xs.length)[t]? = some (bandAt ts sh xs t) := by rw [bands, List.getElem?_map, List.getElem?_range hlt2]; rfl
          have hg13 : (bands (exL bits ts ts.length) (sh : Int).toNat xs xs.length)[t]? = some (bandAt (exL bits ts ts.length) sh xs t) := by rw [bands, List.getElem?_map, List.getElem?_range hlt2]; rfl
          have hg14 : (bands (naL bits ts ts.length) (sh : Int).toNat xs xs.length)[t]? = some (bandAt (naL bits ts ts.length) sh xs t) := by rw [bands, List.getElem?_map, List.getElem?_range hlt2]; rfl
          obtain ⟨b7, o7, rfl⟩ := HB7.out.addr (prs_ne (by rw [bands_length]; omega))
          obtain ⟨b13, o13, rfl⟩ := HB13.out.addr (prs_ne (by rw [bands_length]; omega))
          obtain ⟨b14, o14, rfl⟩ := HB14.out.addr (prs_ne (by rw [bands_length]; omega))
          have c70 := cell_keep (HB7.out.at (prs_fst hg7)) hbi (Nat.le_refl _)
          have c71 := cell_keep (HB7.out.at (prs_snd hg7)) hbi (Nat.le_refl _)
          have c130 := cell_keep (HB13.out.at (prs_fst hg13)) hbi (Nat.le_refl _)
          have c131 := cell_keep (HB13.out.at (prs_snd hg13)) hbi (Nat.le_refl _)
          have c140 := cell_keep (HB14.out.at (prs_fst hg14)) hbi (Nat.le_refl _)
          have c141 := cell_keep (HB14.out.at (prs_snd hg14)) hbi (Nat.le_refl _)
          rw [← Nat.add_assoc] at c71 c131 c141
          obtain ⟨v1, v2, v3, v4, v5, v6, v7, v8⟩ := hwi
          rw [v3] at c130 c131
          simp only at c130 c131
          clear hg7 hg13 hg14 v3
          generalize hS : exS bits ts xs t n = S at *
          generalize hbl : (bandAt ts sh xs t).1 = bl at *
          generalize hbh : (bandAt ts sh xs t).2 = bh at *
          generalize hnl : (bandAt (naL bits ts ts.length) sh xs t).1 = nl at *
          generalize hnh : (bandAt (naL bits ts ts.length) sh xs t).2 = nh at *
          clear hS hbl hbh hnl hnh
          have HV : Hid (bl ≤ S / 2 ^ sh ∧ -(-S / 2 ^ sh) ≤ bh ∧ -(-S / 2 ^ sh) - S / 2 ^ sh ≤ 1 ∧ bl ≤ nl ∧ nh ≤ bh ∧ nl ≤ S / 2 ^ sh ∧ -(-S / 2 ^ sh) ≤ nh) := Lib.hid ⟨v1, v2, by omega, by omega, by omega, by omega, by omega⟩
          clear v1 v2 v4 v5 v6 v7 v8
          have HY1 := Lib.hid y1; have HC70 := Lib.hid c70; have HC71 := Lib.hid c71; have HC130 := Lib.hid c130; have HC131 := Lib.hid c131; have HC140 := Lib.hid c140; have HC141 := Lib.hid c141
          clear hgo c70 c71 c130 c131 c140 c141 y1
          have hjj : (n < ts.length ∧ ¬ (n : Int) ≤ t) ∨ ¬ n < ts.length := by omega
          rcases hjj with ⟨hn1, j2⟩ | hn1
          · have j1 : (n : Int) < ts.length := by omega
            clear hnm
            go_wp2_with fail
            refine within_tail sh ax xs cx w4 wr bm b9 _ c7 _ c13 _ c14 _ t S bl bh nl nh b7 o7 b13 o13 b14 o14 _ _ _ _ _ _ _ _ _ _ _ _ _ _ _ _ _ _ _ _ _ _ _ _ _ _ _ _ _ _ _ _ _ _ _ _ _ _ _ _ _ _ _ _ _ _ _ _ _ _ _ _ _ _ _ _ _ _ _ _ _ _ _ _ _ _ _ _ _ _ _ _ _ _ _ _ _ _ _ _ _ _ _ _ _ _ _ _ _ _ _ _ _ _ _ _ _ _ _ _ _ _ _ _ _ _ _ _ _ _ _ _ _ _ _ _ _ _ _ _ _ _ _ _ _ _ _ _ _ _ _ _ _ _ _ _ _ _ _ _ _ _ _ _ _ _ _ _ _ _ _ _ _ _ _ _ _ _ _ _ _ _ _ _ _ _ _ _ _ _ _ _ _ _ _ _ _ _ _ _ _ _ _ _ _ _ _ _ _ _ _ _ _ _ _ _ _ _ _ _ _ _ _ _ _ _ _ _ _ _ _ _ _ _ _ _ _ _ _ _ _ _ _ _ _ _ _ _ _ _ _ _ _ _ _ _ _ _ _ _ _ _ _ _ _ _ hlt2 (by omega) ⟨by omega, by omega⟩ HV.out rfl rfl rfl HY1.out HC70.out HC71.out HC130.out HC131.out HC140.out HC141.out hbi ?_ _ (by assumption)
            intro a' w' hx hb
            unfold TailX at hx
            obtain ⟨v19, hx⟩ := hx
            obtain ⟨v20, hx⟩ := hx
            obtain ⟨v150, hx⟩ := hx
            obtain ⟨v151, hx⟩ := hx
            obtain ⟨v152, hx⟩ := hx
            obtain ⟨v153, hx⟩ := hx
            obtain ⟨v154, hx⟩ := hx
            obtain ⟨v155, hx⟩ := hx
            obtain ⟨v156, hx⟩ := hx
            obtain ⟨v157, hx⟩ := hx
            obtain ⟨v158, hx⟩ := hx
            obtain ⟨v159, hx⟩ := hx
            obtain ⟨v160, hx⟩ := hx
            obtain ⟨v161, hx⟩ := hx
            obtain ⟨v162, hx⟩ := hx
            obtain ⟨v163, hx⟩ := hx
            obtain ⟨v164, hx⟩ := hx
            obtain ⟨v165, hx⟩ := hx
            obtain ⟨v166, hx⟩ := hx
            obtain ⟨v167, hx⟩ := hx
            obtain ⟨v168, hx⟩ := hx
            obtain ⟨v169, hx⟩ := hx
            obtain ⟨v170, hx⟩ := hx
            obtain ⟨v171, hx⟩ := hx
            obtain ⟨v172, hx⟩ := hx
            obtain ⟨v173, hx⟩ := hx
            obtain ⟨v174, hx⟩ := hx
            obtain ⟨v175, hx⟩ := hx
            obtain ⟨v176, hx⟩ := hx
            obtain ⟨v177, hx⟩ := hx
            obtain ⟨v178, hx⟩ := hx
            obtain ⟨v179, hx⟩ := hx
            obtain ⟨v180, hx⟩ := hx
            obtain ⟨v181, hx⟩ := hx
            obtain ⟨v182, hx⟩ := hx
            obtain ⟨v183, hx⟩ := hx
            obtain ⟨v184, hx⟩ := hx
            obtain ⟨v185, hx⟩ := hx
            obtain ⟨v186, hx⟩ := hx
            obtain ⟨v187, hx⟩ := hx
            obtain ⟨v188, hx⟩ := hx
            obtain ⟨v189, hx⟩ := hx
            obtain ⟨v190, hx⟩ := hx
            obtain ⟨v191, hx⟩ := hx
            obtain ⟨v192, hx⟩ := hx
            obtain ⟨v193, hx⟩ := hx
            obtain ⟨v194, hx⟩ := hx
            obtain ⟨v195, hx⟩ := hx
            obtain ⟨v196, hx⟩ := hx
            obtain ⟨v197, hx⟩ := hx
            obtain ⟨v198, hx⟩ := hx
            obtain ⟨v199, hx⟩ := hx
            obtain ⟨v200, hx⟩ := hx
            obtain ⟨v201, hx⟩ := hx
            obtain ⟨v202, hx⟩ := hx
            obtain ⟨v203, hx⟩ := hx
            obtain ⟨v204, hx⟩ := hx
            obtain ⟨v205, hx⟩ := hx
            obtain ⟨v206, hx⟩ := hx
            obtain ⟨v207, hx⟩ := hx
            obtain ⟨v208, hx⟩ := hx
            obtain ⟨v209, hx⟩ := hx
            obtain ⟨v210, hx⟩ := hx
            obtain ⟨v211, hx⟩ := hx
            obtain ⟨v212, hx⟩ := hx
            obtain ⟨v213, hx⟩ := hx
            obtain ⟨v214, hx⟩ := hx
            obtain ⟨v215, hx⟩ := hx
            obtain ⟨v216, hx⟩ := hx
            obtain ⟨v217, hx⟩ := hx
            obtain ⟨v218, hx⟩ := hx
            obtain ⟨v219, hx⟩ := hx
            obtain ⟨v220, hx⟩ := hx
            obtain ⟨v221, hx⟩ := hx
            obtain ⟨v222, hx⟩ := hx
            obtain ⟨v223, hx⟩ := hx
            obtain ⟨v224, hx⟩ := hx
            obtain ⟨v225, hx⟩ := hx
            obtain ⟨v226, hx⟩ := hx
            obtain ⟨v227, hx⟩ := hx
            obtain ⟨v228, hx⟩ := hx
            obtain ⟨v229, hx⟩ := hx
            obtain ⟨v230, hx⟩ := hx
            obtain ⟨v231, hx⟩ := hx
            obtain ⟨v232, hx⟩ := hx
            obtain ⟨v233, hx⟩ := hx
            obtain ⟨v234, hx⟩ := hx
            obtain ⟨v235, hx⟩ := hx
            obtain ⟨v236, hx⟩ := hx
            obtain ⟨v237, hx⟩ := hx
            obtain ⟨v238, hx⟩ := hx
            obtain ⟨v239, hx⟩ := hx
            obtain ⟨v240, hx⟩ := hx
            obtain ⟨v241, hx⟩ := hx
            obtain ⟨v242, hx⟩ := hx
            obtain ⟨v243, hx⟩ := hx
            obtain ⟨v244, hx⟩ := hx
            obtain ⟨v245, hx⟩ := hx
            obtain ⟨v246, hx⟩ := hx
            obtain ⟨v247, hx⟩ := hx
            obtain ⟨v248, hx⟩ := hx
            obtain ⟨v249, hx⟩ := hx
            obtain ⟨v250, hx⟩ := hx
            obtain ⟨v251, hx⟩ := hx
            obtain ⟨v252, hx⟩ := hx
            subst hx
            go_wp2
            go_roundw
            case rel => exact ⟨t + 1, by omega, by go_num, hb⟩
            case measure => simp [intOf]; omega
          · obtain rfl : n = ts.length := by omega
            clear hnm
            go_wp2_with fail
            refine within_tail sh ax xs cx w4 wr bm b9 _ c7 _ c13 _ c14 _ t S bl bh nl nh b7 o7 b13 o13 b14 o14 _ _ _ _ _ _ _ _ _ _ _ _ _ _ _ _ _ _ _ _ _ _ _ _ _ _ _ _ _ _ _ _ _ _ _ _ _ _ _ _ _ _ _ _ _ _ _ _ _ _ _ _ _ _ _ _ _ _ _ _ _ _ _ _ _ _ _ _ _ _ _ _ _ _ _ _ _ _ _ _ _ _ _ _ _ _ _ _ _ _ _ _ _ _ _ _ _ _ _ _ _ _ _ _ _ _ _ _ _ _ _ _ _ _ _ _ _ _ _ _ _ _ _ _ _ _ _ _ _ _ _ _ _ _ _ _ _ _ _ _ _ _ _ _ _ _ _ _ _ _ _ _ _ _ _ _ _ _ _ _ _ _ _ _ _ _ _ _ _ _ _ _ _ _ _ _ _ _ _ _ _ _ _ _ _ _ _ _ _ _ _ _ _ _ _ _ _ _ _ _ _ _ _ _ _ _ _ _ _ _ _ _ _ _ _ _ _ _ _ _ _ _ _ _ _ _ _ _ _ _ _ _ _ _ _ _ _ _ _ _ _ _ _ _ _ _ hlt2 (by omega) ⟨by omega, by omega⟩ HV.out rfl rfl rfl HY1.out HC70.out HC71.out HC130.out HC131.out HC140.out HC141.out hbi ?_ _ (by assumption)
            intro a' w' hx hb
            unfold TailX at hx
            obtain ⟨v19, hx⟩ := hx
            obtain ⟨v20, hx⟩ := hx
            obtain ⟨v150, hx⟩ := hx
            obtain ⟨v151, hx⟩ := hx
            obtain ⟨v152, hx⟩ := hx
            obtain ⟨v153, hx⟩ := hx
            obtain ⟨v154, hx⟩ := hx
            obtain ⟨v155, hx⟩ := hx
            obtain ⟨v156, hx⟩ := hx
            obtain ⟨v157, hx⟩ := hx
            obtain ⟨v158, hx⟩ := hx
            obtain ⟨v159, hx⟩ := hx
            obtain ⟨v160, hx⟩ := hx
            obtain ⟨v161, hx⟩ := hx
            obtain ⟨v162, hx⟩ := hx
            obtain ⟨v163, hx⟩ := hx
            obtain ⟨v164, hx⟩ := hx
            obtain ⟨v165, hx⟩ := hx
            obtain ⟨v166, hx⟩ := hx
            obtain ⟨v167, hx⟩ := hx
            obtain ⟨v168, hx⟩ := hx
            obtain ⟨v169, hx⟩ := hx
            obtain ⟨v170, hx⟩ := hx
            obtain ⟨v171, hx⟩ := hx
            obtain ⟨v172, hx⟩ := hx
            obtain ⟨v173, hx⟩ := hx
            obtain ⟨v174, hx⟩ := hx
            obtain ⟨v175, hx⟩ := hx
            obtain ⟨v176, hx⟩ := hx
            obtain ⟨v177, hx⟩ := hx
            obtain ⟨v178, hx⟩ := hx
            obtain ⟨v179, hx⟩ := hx
            obtain ⟨v180, hx⟩ := hx
            obtain ⟨v181, hx⟩ := hx
            obtain ⟨v182, hx⟩ := hx
            obtain ⟨v183, hx⟩ := hx
            obtain ⟨v184, hx⟩ := hx
            obtain ⟨v185, hx⟩ := hx
            obtain ⟨v186, hx⟩ := hx
            obtain ⟨v187, hx⟩ := hx
            obtain ⟨v188, hx⟩ := hx
            obtain ⟨v189, hx⟩ := hx
            obtain ⟨v190, hx⟩ := hx
            obtain ⟨v191, hx⟩ := hx
            obtain ⟨v192, hx⟩ := hx
            obtain ⟨v193, hx⟩ := hx
            obtain ⟨v194, hx⟩ := hx
            obtain ⟨v195, hx⟩ := hx
            obtain ⟨v196, hx⟩ := hx
            obtain ⟨v197, hx⟩ := hx
            obtain ⟨v198, hx⟩ := hx
            obtain ⟨v199, hx⟩ := hx
            obtain ⟨v200, hx⟩ := hx
            obtain ⟨v201, hx⟩ := hx
            obtain ⟨v202, hx⟩ := hx
            obtain ⟨v203, hx⟩ := hx
            obtain ⟨v204, hx⟩ := hx
            obtain ⟨v205, hx⟩ := hx
            obtain ⟨v206, hx⟩ := hx
            obtain ⟨v207, hx⟩ := hx
            obtain ⟨v208, hx⟩ := hx
            obtain ⟨v209, hx⟩ := hx
            obtain ⟨v210, hx⟩ := hx
            obtain ⟨v211, hx⟩ := hx
            obtain ⟨v212, hx⟩ := hx
            obtain ⟨v213, hx⟩ := hx
            obtain ⟨v214, hx⟩ := hx
            obtain ⟨v215, hx⟩ := hx
            obtain ⟨v216, hx⟩ := hx
            obtain ⟨v217, hx⟩ := hx
            obtain ⟨v218, hx⟩ := hx
            obtain ⟨v219, hx⟩ := hx
            obtain ⟨v220, hx⟩ := hx
            obtain ⟨v221, hx⟩ := hx
            obtain ⟨v222, hx⟩ := hx
            obtain ⟨v223, hx⟩ := hx
            obtain ⟨v224, hx⟩ := hx
            obtain ⟨v225, hx⟩ := hx
            obtain ⟨v226, hx⟩ := hx
            obtain ⟨v227, hx⟩ := hx
            obtain ⟨v228, hx⟩ := hx
            obtain ⟨v229, hx⟩ := hx
            obtain ⟨v230, hx⟩ := hx
            obtain ⟨v231, hx⟩ := hx
            obtain ⟨v232, hx⟩ := hx
            obtain ⟨v233, hx⟩ := hx
            obtain ⟨v234, hx⟩ := hx
            obtain ⟨v235, hx⟩ := hx
            obtain ⟨v236, hx⟩ := hx
            obtain ⟨v237, hx⟩ := hx
            obtain ⟨v238, hx⟩ := hx
            obtain ⟨v239, hx⟩ := hx
            obtain ⟨v240, hx⟩ := hx
            obtain ⟨v241, hx⟩ := hx
            obtain ⟨v242, hx⟩ := hx
            obtain ⟨v243, hx⟩ := hx
            obtain ⟨v244, hx⟩ := hx
            obtain ⟨v245, hx⟩ := hx
            obtain ⟨v246, hx⟩ := hx
            obtain ⟨v247, hx⟩ := hx
            obtain ⟨v248, hx⟩ := hx
            obtain ⟨v249, hx⟩ := hx
            obtain ⟨v250, hx⟩ := hx
            obtain ⟨v251, hx⟩ := hx
            obtain ⟨v252, hx⟩ := hx
            subst hx
            go_wp2
            go_roundw
            case rel => exact ⟨t + 1, by omega, by go_num, hb⟩
            case measure => simp [intOf]; omega
    · obtain rfl : t = xs.length := by omega
      go_wp2_with fail
      refine HEX.out _ _ ?_
      unfold WithinX
      refine ⟨hbt, ?_⟩
      repeat apply Exists.intro
      rfl
end Go.Proofs.YtoochleabcjljaaDoor

/- RecordWithin: the walk. -/
namespace Go.Proofs.YtoochleabcjljaaDoor
open Go.RowKit

set_option maxRecDepth 100000 in
set_option maxHeartbeats 20000000 in
theorem within_ok (ao : Option Addr) (ts : List (Int × Int)) (cap : Nat) (sh : Nat) (ax : Option Addr) (xs : List Int) (cx : Nat) (ab : Option Addr) (bits : List Int) (cb : Nat) (w : World) (hc : Cells w ao (prs ts)) (hx : Cells w ax (xs.map (Value.int .i64))) (hbt : Cells w ab (bits.map (Value.int .i64))) (hlb : bits.length ≤ 9223372036854775807)
    (h1 : modErr ts sh = 0) (h2 : serErr xs = 0) :
    Calls Tryd.prog 4 #[.agg #[.slice ao ts.length cap, .int .i64 sh], .slice ax xs.length cx, .slice ab bits.length cb] w fun e w' => e = .returned (.bool true) ∧ Below w.heap.size w w' := by
  have HC := Lib.hid hc; have HX := Lib.hid hx; have HB := Lib.hid hbt; clear hc hx hbt
  have hb0 := (Below.refl w.heap.size w).alloc (Nat.le_refl _) (.cells #[.slice ao ts.length cap, .int .i64 sh] 24)
  have H1 := Lib.hid h1; have H2 := Lib.hid h2
  have hm := modErr_zero h1
  have hser := serErr_zero h2
  obtain ⟨m1, m2, m3, m4, m5⟩ := hm
  obtain ⟨s1, s2⟩ := hser
  have M5 := Lib.hid m5; have S2 := Lib.hid s2
  clear h1 h2 m5 s2 m3
  go_enter Tryd.func4, Tryd.ntmps4
  go_wp2_with fail
  refine (strain_ok ao ts ts.length cap sh ax xs cx _ rfl (HC.out.below hb0 (Nat.le_refl _)) (HX.out.below hb0 (Nat.le_refl _)) H1.out H2.out).mono ?_
  rintro e w1 ⟨⟨a7, c7, rfl, hc7⟩, hb1⟩
  have n1 := hb0.trans (hb1.mono (by simp))
  have q0 : w1.cell? ⟨w.heap.size, 0, none⟩ = some (.slice ao ts.length cap) := box_keep hb1 (by simp) 0
  have q1 : w1.cell? ⟨w.heap.size, 1, none⟩ = some (.int .i64 sh) := box_keep hb1 (by simp) 1
  have hl1 : w.heap.size < w1.heap.size := by have := hb1.size; simp at this; omega
  have HC7 := Lib.hid hc7
  have HCn := Lib.hid (HC.out.below n1 (Nat.le_refl _))
  have HXn := Lib.hid (HX.out.below n1 (Nat.le_refl _))
  have HBn := Lib.hid (HB.out.below n1 (Nat.le_refl _))
  have N1 := Lib.hid n1
  clear hc7 hb0 hb1 n1
  go_wp2_with fail
  go_cut [9, 10] (fun u9 u10 wx => ∃ b9 b10 : Nat, u9 = .pointer (some ⟨b9, 0, none⟩) ∧ u10 = .pointer (some ⟨b10, 0, none⟩) ∧ b9 ≠ b10 ∧ w1.heap.size ≤ b9 ∧ w1.heap.size ≤ b10 ∧ Blk wx b9 24 #[.slice none 0 0, .int .i64 sh] ∧ Blk wx b10 24 #[.slice none 0 0, .int .i64 sh] ∧ Below w1.heap.size w1 wx)
  case first =>
    go_region
    all_goals (go_wp2_with fail; go_meet)
    all_goals have t1 := Blk.new w1 24 #[.slice none 0 0, .int .i64 sh]
    all_goals have t2 := Blk.new (w1.alloc (.cells #[.slice none 0 0, .int .i64 sh] 24)) 24 #[.slice none 0 0, .int .i64 sh]
    all_goals rw [World.size_alloc] at t2
    all_goals have t3 := (two_below w1 (.cells #[.slice none 0 0, .int .i64 sh] 24) (.cells #[.slice none 0 0, .int .i64 sh] 24)).drew
    · exact ⟨_, _, rfl, rfl, by omega, by omega, by omega, (t1.alloc _).drew, t2.drew, t3⟩
    · exact ⟨_, _, rfl, rfl, by omega, by omega, by omega, t2.drew, (t1.alloc _).drew, t3⟩
  case rest =>
    obtain ⟨b9, b10, rfl, rfl, hne, hb9, hb10, hk9, hk10, hbc⟩ := hcut
    obtain ⟨i0, hi, hz0, hz1, hz2⟩ := info_parts Tryd.infoTap
    have ht0 : Two w1.heap.size b9 b10 sh bits ts 0 0 (.slice none 0 0) (.slice none 0 0) wc := ⟨hk9, hk10, World.ownsRow_nil _ _ _ _, World.ownsRow_nil _ _ _ _, by simp [Value.ownBlock]⟩
    have HT0 := Lib.hid ht0
    clear ht0 hk9 hk10
    go_wp2
    go_loopw [11] (fun i wr => ∃ k : Nat, k ≤ ts.length ∧ i = .int .i64 k ∧ (∃ ve vn, Two w1.heap.size b9 b10 sh bits ts k k ve vn wr) ∧ Below w1.heap.size w1 wr) (fun i _ => ts.length - (intOf i).toNat)
    case atStart => exact ⟨0, Nat.zero_le _, rfl, ⟨_, _, HT0.out⟩, hbc⟩
    case round =>
      clear HT0 hbc
      obtain ⟨k, hk, rfl, ⟨ve, vn, ht⟩, hb⟩ := hrel
      have p0 := cell_keep q0 hb (Nat.le_refl _)
      have p1 := cell_keep q1 hb (Nat.le_refl _)
      have hlr := hb.size
      by_cases hlt : k < ts.length
      · skip
        --<<
        obtain ⟨⟨x1, x2⟩, hx⟩ := get_of_lt hlt
        obtain ⟨x3, x4, x5⟩ := M5.out _ (List.mem_of_getElem? hx)
        simp only at x3 x4 x5
        obtain ⟨bt, ot, rfl⟩ := HCn.out.addr (prs_ne (by omega))
        have hc1 := cell_keep (HCn.out.at (prs_fst hx)) hb (Nat.le_refl _)
        have hc2 := cell_keep (HCn.out.at (prs_snd hx)) hb (Nat.le_refl _)
        rw [← Nat.add_assoc] at hc2
        simp only at hc1 hc2
        have HX1 := Lib.hid (HCn.out.at (prs_fst hx))
        have HQ0 := Lib.hid q0
        have hbr := HBn.out.below hb (Nat.le_refl _)
        have HBR := Lib.hid hbr; clear hbr
        have hpb := pk_bd (bits := bits) (k := k) x3
        have he : exAt bits ts k = pk bits k x1 x2 := by rw [exAt, List.getD_eq_getElem?_getD, hx]; rfl
        have hn : naAt bits ts k = pk bits (k + 1) x1 (pk bits k x1 x2) := by rw [naAt, he, List.getD_eq_getElem?_getD, hx]; rfl
        have HE := Lib.hid he; have HN := Lib.hid hn; have ht2 := ht
        have i1 : (k : Int) < ts.length := by omega
        have i2 : (0 : Int) ≤ k := by omega
        clear he hn ht hx
        have HTW := Lib.hid ht2
        go_wp2_with fail
        go_quiet ((go_at_call 14; exact quiet_left (pick_any ab bits cb k x1 x2 _ (cells_drewN HBR.out _) hlb (by omega) (by omega) (by omega) (by omega))))
        clear HTW
        have HTW := Lib.hid (ht2.drewN nq)
        have hbd := bel_drewN hb nq
        have r0 : (wr.drewN nq).cell? ⟨w.heap.size, 0, none⟩ = some (.slice (some ⟨bt, ot, none⟩) ts.length cap) := p0
        have r1 : (wr.drewN nq).cell? ⟨bt, ot + k * 2, none⟩ = some (.int .i64 x1) := hc1
        have HBR2 := Lib.hid (cells_drewN HBR.out nq)
        clear p0 p1 hc1 hc2 hb hlr ht2 HBR
        generalize wr.drewN nq = wd at *
        have hlr := hbd.size
        have c90 := HTW.out.e.c0
        have f90 := HTW.out.e.free 0
        have HOE := Lib.hid HTW.out.oe
        go_wp2_with (at_builtin; refine wpList_append_lies _ rfl _ _ _ rfl w1.heap.size 37 i0 (.agg #[.int .i64 0, .int .i64 0]) 2 16 Tryd.underlying22 hi hz0 hz1 hz2 rfl (by decide) ve k (prs (exL bits ts k)) rfl (HOE.out.alloc _) ⟨wd.heap.size, 0, none⟩ 1 1 [.int .i64 (pk bits k x1 x2), .int .i64 (pk bits k x1 x2)] rfl rfl (World.news_of_block (cs := #[.int .i64 (pk bits k x1 x2), .int .i64 (pk bits k x1 x2)]) (t := 37) (fr := (0, 0)) (heap_alloc_new wd _)) (by simp [Value.oneCell']) (by omega) (by unfold maxLen; omega) (by omega) (by simp; omega) (wd.heap.size + 1) (by simp) ?_)
        intro gg cp wz hown1 hgrow hat hlt1
        have hl9 := HTW.out.e.lt
        have hz9 := (HTW.out.e.alloc (.cells #[.int .i64 (pk bits k x1 x2), .int .i64 (pk bits k x1 x2)] 37)).kept hgrow (fun e => blk_own_ne HTW.out.e HTW.out.oe (by decide) e.symm)
        have z90 := hz9.c0
        have g90 := hz9.free 0
        have hT2 := HTW.out.stepE hne HE.out hown1 hgrow hat
        have hbz := (hbd.alloc hlr (.cells #[.int .i64 (pk bits k x1 x2), .int .i64 (pk bits k x1 x2)] 37)).grown hgrow (by simp; omega) (fun j e => (HOE.out.lt j e).1)
        have hbz2 := hbz.setCell (p := ⟨b9, 0, none⟩) hb9 (.slice (some ⟨gg, 0, none⟩) (k + 1) cp)
        have HT2 := Lib.hid hT2; have HBZ := Lib.hid hbz2
        clear hown1 hgrow hat hlt1 hT2 hbz hbz2 hz9 c90 f90 HOE HTW r0 r1 hbd hlr HBR2
        go_wp2_with fail
        clear z90 g90 hl9
        generalize wz.setCell ⟨b9, 0, none⟩ (.slice (some ⟨gg, 0, none⟩) (k + 1) cp) = wq at *
        have r0 : wq.drew.cell? ⟨w.heap.size, 0, none⟩ = some (.slice (some ⟨bt, ot, none⟩) ts.length cap) := cell_keep HQ0.out HBZ.out.drew (Nat.le_refl _)
        have r1 : wq.drew.cell? ⟨bt, ot + k * 2, none⟩ = some (.int .i64 x1) := cell_keep HX1.out HBZ.out.drew (Nat.le_refl _)
        have c100 := HT2.out.n.drew.c0
        have HON := Lib.hid HT2.out.on
        have FA : ∀ (o : Obj) (wy : World), (wq.alloc o).drew.grownBy wy vn.ownBlock → wy.frozen? ⟨b10, 0, none⟩ = false ∧ wy.cell? ⟨b10, 0, none⟩ = some vn := fun o wy hg => by
          have hk := (HT2.out.n.alloc o).drew.kept hg (fun e => blk_own_ne HT2.out.n HT2.out.on (by decide) e.symm)
          exact ⟨hk.free 0, hk.c0⟩
        replace FA := Lib.hid FA
        have hbq := HBn.out.below HBZ.out.drew (Nat.le_refl _)
        have HBQ := Lib.hid hbq; clear hbq
        have hsq := HBZ.out.size
        obtain ⟨pb1, pb2⟩ := hpb
        have hpk := fun W hW => pick_any ab bits cb (k + 1) x1 (pk bits k x1 x2) W hW hlb (by omega) (by omega) (by omega) (by omega)
        have ek : ((k + 1 : Nat) : Int) = (k : Int) + 1 := by omega
        rw [ek] at hpk
        have HPK := Lib.hid hpk
        have hpb2 := pk_bd (bits := bits) (k := k + 1) pb1
        have a1 : IntKind.i64.wrap ((k : Int) + 1) = (k : Int) + 1 := IntWalk.i64_in _ (by omega)
        clear hpk ek
        generalize hq : pk bits k x1 x2 = q at *
        generalize hp : pk bits (k + 1) x1 q = p at *
        have HQ := Lib.hid hq; have HP := Lib.hid hp
        clear hq hp
        have c100a : (wq.alloc (.cells #[.int .i64 p, .int .i64 q] 37)).cell? ⟨b10, 0, none⟩ = some vn := (HT2.out.n.alloc _).c0
        go_region_law (first | (refine step_append_lies _ (by rfl) _ _ _ (by rfl) w1.heap.size 37 i0 _ 2 16 Tryd.underlying22 hi hz0 hz1 hz2 rfl (by omega) vn k (prs (naL bits ts k)) (by rfl) ((HON.out.alloc _).drew) ⟨wq.heap.size, 0, none⟩ 1 1 [.int .i64 p, .int .i64 q] (by rfl) (by rfl) (World.news_of_block (cs := #[.int .i64 p, .int .i64 q]) (t := 37) (fr := (0, 0)) (heap_alloc_new wq _)) (by simp [Value.oneCell']) (by omega) (by unfold maxLen; omega) (by omega) (by simp; omega) (wq.heap.size + 1) (by simp) ?_; intro gh cq wy hown1 hgrow hat hlt1; obtain ⟨f9, c9⟩ := FA.out _ wy hgrow) | (go_simp; go_at_call 14; refine (HPK.out _ HBQ.out).mono ?_; rintro e w' ⟨rfl, rfl⟩))
        all_goals
          have hT3 := HT2.out.stepN hne HN.out HE.out hown1 (undrew hgrow) hat
          have hby := ((HBZ.out.alloc hsq (.cells #[.int .i64 p, .int .i64 q] 37)).grown (undrew hgrow) (by simp; omega) (fun j e => (HON.out.lt j e).1)).setCell (p := ⟨b10, 0, none⟩) hb10 (.slice (some ⟨gh, 0, none⟩) (k + 1) cq)
          have HT3 := Lib.hid hT3
          clear hown1 hgrow hat hlt1 hT3 f9 c9 a1 c100a c100 r0 r1
          go_wp2
          go_roundw
          case rel => exact ⟨k + 1, by omega, by go_num, ⟨_, _, HT3.out⟩, hby⟩
          case measure => simp [intOf]; omega
        -->>
      · obtain rfl : k = ts.length := by omega
        obtain ⟨ae, ce, rfl, hce⟩ := own_cells ht.oe
        obtain ⟨an, cn, rfl, hcn⟩ := own_cells ht.on
        have HT := Lib.hid ht
        have k0 := ht.e.c0
        have k1 := ht.e.c1
        have k2 := ht.n.c0
        have k3 := ht.n.c1
        have HCE := Lib.hid hce; have HCN := Lib.hid hcn
        have e1 := exL_length bits ts ts.length
        have e2 := naL_length bits ts ts.length
        have HXr := Lib.hid (HXn.out.below hb (Nat.le_refl _))
        have h9 := ht.e.lt
        have h10 := ht.n.lt
        obtain ⟨mo1, mo2⟩ := ex_mod (bits := bits) H1.out
        have hse := fun wx h3 h4 => strain_ok ae (exL bits ts ts.length) ts.length ce sh ax xs cx wx e1.symm h3 h4 mo1 H2.out
        have hsn := fun wx h3 h4 => strain_ok an (naL bits ts ts.length) ts.length cn sh ax xs cx wx e2.symm h3 h4 mo2 H2.out
        have HSE := Lib.hid hse; have HSN := Lib.hid hsn; have HMO := Lib.hid mo1
        clear e1 e2 ht hce hcn hse hsn mo1 mo2
        go_wp2_with fail
        refine (HSE.out _ HCE.out HXr.out).mono ?_
        rintro e w3 ⟨⟨a13, c13, rfl, hc13⟩, hb3⟩
        have k2' := cell_keep k2 hb3 (Nat.le_refl _)
        have k3' := cell_keep k3 hb3 (Nat.le_refl _)
        have HC13 := Lib.hid hc13
        have hb4 := hb.trans (hb3.mono hlr)
        clear hc13 hb
        go_wp2_with fail
        refine (HSN.out _ (HCN.out.below hb3 (Nat.le_refl _)) (HXr.out.below hb3 (Nat.le_refl _))).mono ?_
        rintro e w4 ⟨⟨a14, c14, rfl, hc14⟩, hb5⟩
        have hb35 := hb3.trans (hb5.mono hb3.size)
        have hb6 := hb4.trans (hb5.mono hb4.size)
        have HB7 := Lib.hid (HC7.out.below hb6 (Nat.le_refl _))
        have HB13 := Lib.hid (HC13.out.below hb5 (Nat.le_refl _))
        have HB14 := Lib.hid hc14
        have HX4 := Lib.hid (HXn.out.below hb6 (Nat.le_refl _))
        have HE4 := Lib.hid (HCE.out.below hb35 (Nat.le_refl _))
        have z0 := cell_keep k0 hb35 (Nat.le_refl _)
        have z1 := cell_keep q1 hb6 (Nat.le_refl _)
        have N4 := Lib.hid (N1.out.trans (hb6.mono N1.out.size))
        clear hb3 hb4 hb5 hb6 hb35 hc14 k0 k1 k2 k3 k2' k3' p0 p1 HSE HSN HCE HCN HXr h9 h10 HC13 HT
        go_wp2_with fail
        refine within_loop2 ts sh ax xs cx bits w4 w.heap.size b9 ae ce a7 c7 a13 c13 a14 c14 _ _ _ _ _ _ _ _ _ _ _ _ _ _ _ _ _ _ _ _ _ _ _ _ _ _ _ _ _ _ _ _ _ _ _ _ _ _ _ _ _ _ _ _ _ _ _ _ _ _ _ _ _ _ _ _ _ _ _ _ _ _ _ _ _ _ _ _ _ _ _ _ _ _ _ _ _ _ _ _ _ _ _ _ _ _ _ _ _ _ _ _ _ _ _ _ _ _ _ _ _ _ _ _ _ _ _ _ _ _ _ _ _ _ _ _ _ _ _ _ _ _ _ _ _ _ _ _ _ _ _ _ _ _ _ _ _ _ _ _ _ _ _ _ _ _ _ _ _ _ _ _ _ _ _ _ _ _ _ _ _ _ _ _ _ _ _ _ _ _ _ _ _ _ _ _ _ _ _ _ _ _ _ _ _ _ _ _ _ _ _ _ _ _ _ _ _ _ _ _ _ _ _ _ _ _ _ _ _ _ _ _ _ _ _ _ _ _ _ _ _ _ _ _ _ _ _ _ _ _ _ _ _ _ _ _ _ _ _ _ _ _ _ _ _ _ _ _ H1 H2 z0 z1 HB7 HB13 HB14 HX4 HE4 ?_
        intro a' w5 hx
        unfold WithinX at hx
        obtain ⟨hbt, hx⟩ := hx
        obtain ⟨v6, hx⟩ := hx
        obtain ⟨v16, hx⟩ := hx
        obtain ⟨v17, hx⟩ := hx
        obtain ⟨v18, hx⟩ := hx
        obtain ⟨v19, hx⟩ := hx
        obtain ⟨v20, hx⟩ := hx
        obtain ⟨v126, hx⟩ := hx
        obtain ⟨v127, hx⟩ := hx
        obtain ⟨v128, hx⟩ := hx
        obtain ⟨v129, hx⟩ := hx
        obtain ⟨v130, hx⟩ := hx
        obtain ⟨v131, hx⟩ := hx
        obtain ⟨v132, hx⟩ := hx
        obtain ⟨v133, hx⟩ := hx
        obtain ⟨v134, hx⟩ := hx
        obtain ⟨v135, hx⟩ := hx
        obtain ⟨v136, hx⟩ := hx
        obtain ⟨v137, hx⟩ := hx
        obtain ⟨v138, hx⟩ := hx
        obtain ⟨v139, hx⟩ := hx
        obtain ⟨v140, hx⟩ := hx
        obtain ⟨v141, hx⟩ := hx
        obtain ⟨v142, hx⟩ := hx
        obtain ⟨v143, hx⟩ := hx
        obtain ⟨v144, hx⟩ := hx
        obtain ⟨v145, hx⟩ := hx
        obtain ⟨v146, hx⟩ := hx
        obtain ⟨v147, hx⟩ := hx
        obtain ⟨v148, hx⟩ := hx
        obtain ⟨v149, hx⟩ := hx
        obtain ⟨v150, hx⟩ := hx
        obtain ⟨v151, hx⟩ := hx
        obtain ⟨v152, hx⟩ := hx
        obtain ⟨v153, hx⟩ := hx
        obtain ⟨v154, hx⟩ := hx
        obtain ⟨v155, hx⟩ := hx
        obtain ⟨v156, hx⟩ := hx
        obtain ⟨v157, hx⟩ := hx
        obtain ⟨v158, hx⟩ := hx
        obtain ⟨v159, hx⟩ := hx
        obtain ⟨v160, hx⟩ := hx
        obtain ⟨v161, hx⟩ := hx
        obtain ⟨v162, hx⟩ := hx
        obtain ⟨v163, hx⟩ := hx
        obtain ⟨v164, hx⟩ := hx
        obtain ⟨v165, hx⟩ := hx
        obtain ⟨v166, hx⟩ := hx
        obtain ⟨v167, hx⟩ := hx
        obtain ⟨v168, hx⟩ := hx
        obtain ⟨v169, hx⟩ := hx
        obtain ⟨v170, hx⟩ := hx
        obtain ⟨v171, hx⟩ := hx
        obtain ⟨v172, hx⟩ := hx
        obtain ⟨v173, hx⟩ := hx
        obtain ⟨v174, hx⟩ := hx
        obtain ⟨v175, hx⟩ := hx
        obtain ⟨v176, hx⟩ := hx
        obtain ⟨v177, hx⟩ := hx
        obtain ⟨v178, hx⟩ := hx
        obtain ⟨v179, hx⟩ := hx
        obtain ⟨v180, hx⟩ := hx
        obtain ⟨v181, hx⟩ := hx
        obtain ⟨v182, hx⟩ := hx
        obtain ⟨v183, hx⟩ := hx
        obtain ⟨v184, hx⟩ := hx
        obtain ⟨v185, hx⟩ := hx
        obtain ⟨v186, hx⟩ := hx
        obtain ⟨v187, hx⟩ := hx
        obtain ⟨v188, hx⟩ := hx
        obtain ⟨v189, hx⟩ := hx
        obtain ⟨v190, hx⟩ := hx
        obtain ⟨v191, hx⟩ := hx
        obtain ⟨v192, hx⟩ := hx
        obtain ⟨v193, hx⟩ := hx
        obtain ⟨v194, hx⟩ := hx
        obtain ⟨v195, hx⟩ := hx
        obtain ⟨v196, hx⟩ := hx
        obtain ⟨v197, hx⟩ := hx
        obtain ⟨v198, hx⟩ := hx
        obtain ⟨v199, hx⟩ := hx
        obtain ⟨v200, hx⟩ := hx
        obtain ⟨v201, hx⟩ := hx
        obtain ⟨v202, hx⟩ := hx
        obtain ⟨v203, hx⟩ := hx
        obtain ⟨v204, hx⟩ := hx
        obtain ⟨v205, hx⟩ := hx
        obtain ⟨v206, hx⟩ := hx
        obtain ⟨v207, hx⟩ := hx
        obtain ⟨v208, hx⟩ := hx
        obtain ⟨v209, hx⟩ := hx
        obtain ⟨v210, hx⟩ := hx
        obtain ⟨v211, hx⟩ := hx
        obtain ⟨v212, hx⟩ := hx
        obtain ⟨v213, hx⟩ := hx
        obtain ⟨v214, hx⟩ := hx
        obtain ⟨v215, hx⟩ := hx
        obtain ⟨v216, hx⟩ := hx
        obtain ⟨v217, hx⟩ := hx
        obtain ⟨v218, hx⟩ := hx
        obtain ⟨v219, hx⟩ := hx
        obtain ⟨v220, hx⟩ := hx
        obtain ⟨v221, hx⟩ := hx
        obtain ⟨v222, hx⟩ := hx
        obtain ⟨v223, hx⟩ := hx
        obtain ⟨v224, hx⟩ := hx
        obtain ⟨v225, hx⟩ := hx
        obtain ⟨v226, hx⟩ := hx
        obtain ⟨v227, hx⟩ := hx
        obtain ⟨v228, hx⟩ := hx
        obtain ⟨v229, hx⟩ := hx
        obtain ⟨v230, hx⟩ := hx
        obtain ⟨v231, hx⟩ := hx
        obtain ⟨v232, hx⟩ := hx
        obtain ⟨v233, hx⟩ := hx
        obtain ⟨v234, hx⟩ := hx
        obtain ⟨v235, hx⟩ := hx
        obtain ⟨v236, hx⟩ := hx
        obtain ⟨v237, hx⟩ := hx
        obtain ⟨v238, hx⟩ := hx
        obtain ⟨v239, hx⟩ := hx
        obtain ⟨v240, hx⟩ := hx
        obtain ⟨v241, hx⟩ := hx
        obtain ⟨v242, hx⟩ := hx
        obtain ⟨v243, hx⟩ := hx
        obtain ⟨v244, hx⟩ := hx
        obtain ⟨v245, hx⟩ := hx
        obtain ⟨v246, hx⟩ := hx
        obtain ⟨v247, hx⟩ := hx
        obtain ⟨v248, hx⟩ := hx
        obtain ⟨v249, hx⟩ := hx
        obtain ⟨v250, hx⟩ := hx
        obtain ⟨v251, hx⟩ := hx
        obtain ⟨v252, hx⟩ := hx
        subst hx
        go_wp2_with fail
        refine (works_any _).mono ?_
        rintro e w6 ⟨rfl, hb8⟩
        have hfin := N4.out.trans ((hbt.trans (hb8.mono hbt.size)).mono N4.out.size)
        clear hbt hb8
        go_wp2
        go_ret
        exact ⟨rfl, hfin⟩
end Go.Proofs.YtoochleabcjljaaDoor

/- RecordWithin: both ways. -/
namespace Go.Proofs.YtoochleabcjljaaDoor
open Go.RowKit

theorem within_any' (ao : Option Addr) (ts : List (Int × Int)) (cap : Nat) (sh : Int) (ax : Option Addr) (xs : List Int) (cx : Nat) (ab : Option Addr) (bits : List Int) (cb : Nat) (w : World) (hc : Cells w ao (prs ts)) (hl : ts.length ≤ 9223372036854775807) (hx : Cells w ax (xs.map (Value.int .i64))) (hlx : xs.length ≤ 9223372036854775807)
    (hbt : Cells w ab (bits.map (Value.int .i64))) (hlb : bits.length ≤ 9223372036854775807) :
    Calls Tryd.prog 4 #[.agg #[.slice ao ts.length cap, .int .i64 sh], .slice ax xs.length cx, .slice ab bits.length cb] w fun e w' => e = .returned (.bool true) ∧ Below w.heap.size w w' := by
  by_cases h : strErr ts sh xs = 0
  · obtain ⟨h1, h2⟩ := strErr_zero h
    obtain ⟨n, rfl⟩ := Int.eq_ofNat_of_zero_le (modErr_zero h1).2.2.1
    exact within_ok ao ts cap n ax xs cx ab bits cb w hc hx hbt hlb h1 h2
  · exact within_bad ao ts cap sh ax xs cx ab bits cb w hc hl hx hlx h
end Go.Proofs.YtoochleabcjljaaDoor

/- Arguments read as data, over this program: what their cells hold; and that they read the same behind a call that writes nothing old. -/
namespace Go.Proofs.YtoochleabcjljaaDoor
open Go.RowKit Go.WideShapes Go.ChangeShapes Go.Deep Go.Joins

section
variable {H : Type} {enc : TypeId × Value → H} {P : Program}
theorem sameAt_below {W W' : World} (hb : Below W.heap.size W W') {p : MemPlace} (hp : p.block < W.heap.size) : W.sameAt W' p := by
  cases p with
  | cell b off => exact hb.cell (p := ⟨b, off, none⟩) hp
  | map b => exact hb.block b hp
theorem trodAll_carry {W W' : World} {base : Nat} {sp : Nat → Bool} {held : Bool} : ∀ {ts : List TypeId} {vs : List Value} {ds : List (DataW H)} {ps : List MemPlace}, DataW.TrodAll enc P W base sp held ts vs ds ps → (∀ p ∈ ps, W.sameAt W' p) → DataW.TrodAll enc P W' base sp held ts vs ds ps
  | [], [], [], _, h, _ => h
  | _ :: _, _ :: _, _ :: _, _, ⟨p, q, ⟨n, h1⟩, h2, e⟩, hs => ⟨p, q, ⟨n, DataW.trod_carry n _ _ _ h1 fun x hx => hs x (by rw [e]; exact List.mem_append_left _ hx)⟩, trodAll_carry h2 fun x hx => hs x (by rw [e]; exact List.mem_append_right _ hx), e⟩

/-- behind a call that leaves all old blocks alone and answers true, of a law whose data read again as they did -/
theorem law_post {f : Func} {s : ChangeSpec} {W W' : World} {args : Array Value} {ds : List (DataW H)} {before : List MemPlace} (K : Kids P (· < P.types.size))
    (full : ∀ t e, t < P.types.size → P.underlying t = some (.slice e) → 0 < P.cellsOf e) (hT : ∀ t ∈ f.params.toList, t < P.types.size) (hv : s.vars = [])
    (hW : DataW.Whole enc P f.params.toList s.vars false W args.toList ds [] before) (hA : DataW.TrodAll enc P W 0 (fun _ => true) true f.params.toList args.toList ds before)
    (hfn : s.fn H (ds ++ []) = { results := [.lit (.bool true)], args := ds }) (hr : f.resultTypes = #[4]) (hu : P.underlying 4 = some .bool) (hb : Below W.heap.size W W') :
    s.post enc P f false true false false W args (.bool true) W' := by
  have hlt : ∀ p ∈ before, p.block < W.heap.size := fun p hp => hW.lt p hp
  have hold : ∀ p ∈ before, (fun b => decide (b < W.heap.size)) p.block = true := fun p hp => by simpa using hlt p hp
  have hargs : ∀ sp : Nat → Bool, (∀ p ∈ before, sp p.block = true) → DataW.TrodAll enc P W' 0 sp true f.params.toList args.toList (s.fn H (ds ++ [])).args before := by
    intro sp hsp
    rw [hfn]
    exact trodAll_carry (DataW.TrodAll.respare K full hT hA hsp) fun p hp => sameAt_below hb (hlt p hp)
  have hres : ∀ (b : Nat) (sp : Nat → Bool) (hd : Bool), DataW.TrodAll enc P W' b sp hd f.resultTypes.toList ((Value.bool true).resultList f.resultTypes.size) (s.fn H (ds ++ [])).results [] := by
    intro b sp hd
    rw [hfn, hr]
    exact trodAll_cons_mk (shut_bool hu _) trodAll_mk0
  have hvars : ∀ sp : Nat → Bool, DataW.TrodVars enc P W' sp s.vars (s.fn H (ds ++ [])).vars [] := by
    intro sp
    rw [hfn, hv]
    rfl
  refine ⟨ds, [], before, [], before, [], hW, hres _ _ _, hargs _ hold, hvars _, World.keptBut_mono (fun p hp => ⟨hp, Or.inr (Or.inl hp)⟩) (hb.frame (· ∈ before)), fun _ => ?_⟩
  obtain ⟨_, _, _, _, _, hz, hn⟩ := hW
  refine ⟨?_, _, _, ([] ++ before) ++ [], ⟨[] ++ before, [], trodAll_append (hargs _ (fun _ _ => rfl)) (hres _ _ _), hvars _, rfl, ?_, ?_⟩, ?_⟩
  · exact ok_one hr rfl (okWide_bool_mk hu _)
  · intro b off hp
    have hin : MemPlace.cell b off ∈ before := by simpa using hp
    rw [hb.frozen (hlt _ hin)]
    exact hz b off hin
  · intro ha
    have := hn ha
    simpa using this
  · intro p hp _
    simpa using hp

/-- a slice of numbers, as read -/
theorem rd_ints {W : World} {base : Nat} {sp : Nat → Bool} {held : Bool} {t e : TypeId} {fuel : Nat} {cs : List Value} {x : DataW H × List MemPlace} (ht : P.underlying t = some (.slice e)) (he : P.underlying e = some (.int .i64)) (hc : P.cellsOf e = 1)
    (h : DataW.trod enc P W base sp held fuel t cs = some x) :
    ∃ (ao : Option Addr) (xs : List Int) (cap : Nat), cs = [.slice ao xs.length cap] ∧ Cells W ao (xs.map (Value.int .i64)) ∧ xs.length ≤ cap ∧ cap ≤ 9223372036854775807 ∧ ∀ x ∈ xs, (Lit.int .i64 x).wf = true := by
  rcases open_ints ht he hc h with ⟨rfl, _⟩ | ⟨a, len, cap, zs, rfl, _, hl, hm, hz, _, hcell, hwf⟩
  · exact ⟨none, [], 0, rfl, .inl rfl, Nat.le_refl _, by decide, by simp⟩
  · have hzl : len ≤ zs.length := by rw [hz]; split <;> omega
    have htl : (zs.take len).length = len := by simp; omega
    refine ⟨some a, zs.take len, cap, by rw [htl], ?_, by omega, by unfold maxLen at hm; omega, fun x hx => hwf x (List.mem_of_mem_take hx)⟩
    rcases Nat.eq_zero_or_pos len with h0 | h0
    · subst h0; exact .inl (by simp)
    · have hsp := World.cell?_spot (hcell 0 (by omega))
      simp only [Addr.add] at hsp
      obtain ⟨b, off, spot⟩ := a
      simp at hsp
      subst hsp
      refine .inr ⟨b, off, rfl, fun j u hu => ?_⟩
      rw [List.getElem?_map] at hu
      obtain ⟨y, hy, rfl⟩ := Option.map_eq_some_iff.1 hu
      have hj : j < len := by have := (List.getElem?_eq_some_iff.1 hy).1; omega
      have := hcell j (by omega)
      rw [Addr.add_lit] at this
      rw [this]
      have hg : zs.getD j 0 = y := by
        rw [List.getElem?_take] at hy
        rw [if_pos hj] at hy
        rw [List.getD_eq_getElem?_getD, hy]; rfl
      rw [hg]

/-- a slice of pairs of numbers, as read -/
theorem rd_pairs {W : World} {base : Nat} {sp : Nat → Bool} {held : Bool} {t e : TypeId} {f0 f1 : Field} {fuel : Nat} {cs : List Value} {x : DataW H × List MemPlace} (ht : P.underlying t = some (.slice e)) (he : P.underlying e = some (.struct #[f0, f1]))
    (ce : P.cellsOf e = 2) (o0 : f0.offset = 0) (o1 : f1.offset = 1) (c0 : P.cellsOf f0.type = 1) (c1 : P.cellsOf f1.type = 1) (k0 : P.underlying f0.type = some (.int .i64)) (k1 : P.underlying f1.type = some (.int .i64))
    (h : DataW.trod enc P W base sp held fuel t cs = some x) :
    ∃ (ao : Option Addr) (xs : List (Int × Int)) (cap : Nat), cs = [.slice ao xs.length cap] ∧ Cells W ao (prs xs) ∧ xs.length ≤ cap ∧ cap ≤ 9223372036854775807 ∧ ∀ t ∈ xs, (Lit.int .i64 t.1).wf = true ∧ (Lit.int .i64 t.2).wf = true := by
  rcases open_slice_pairs ht he ce o0 o1 c0 c1 h with ⟨rfl, _⟩ | ⟨a, len, cap, m, n, V0, V1, D0, D1, P0, P1, rfl, _, hl, hm, hmm, _, hcell⟩
  · exact ⟨none, [], 0, rfl, .inl rfl, Nat.le_refl _, by decide, by simp⟩
  · have hlm : len ≤ m := by rw [hmm]; split <;> omega
    have each : ∀ i, i < len → ∃ q : Int × Int, W.cell? (a.add (i * 2)) = some (.int .i64 q.1) ∧ W.cell? (a.add (i * 2 + 1)) = some (.int .i64 q.2) ∧ (Lit.int .i64 q.1).wf = true ∧ (Lit.int .i64 q.2).wf = true := by
      intro i hi
      obtain ⟨h1, h2, h3, h4⟩ := hcell i (by omega)
      obtain ⟨z0, e0, _, w0⟩ := DataW.trod_int k0 h3
      obtain ⟨z1, e1, _, w1⟩ := DataW.trod_int k1 h4
      simp only [List.cons.injEq, and_true] at e0 e1
      rw [e0] at h1; rw [e1] at h2
      exact ⟨(z0, z1), h1, h2, w0, w1⟩
    let F : Nat → Int × Int := fun i => if hi : i < len then (each i hi).choose else (0, 0)
    have hF : ∀ i, i < len → W.cell? (a.add (i * 2)) = some (.int .i64 (F i).1) ∧ W.cell? (a.add (i * 2 + 1)) = some (.int .i64 (F i).2) ∧ (Lit.int .i64 (F i).1).wf = true ∧ (Lit.int .i64 (F i).2).wf = true := by
      intro i hi
      have := (each i hi).choose_spec
      simp only [F, dif_pos hi]
      exact this
    have htl : ((List.range len).map F).length = len := by simp
    refine ⟨some a, (List.range len).map F, cap, by rw [htl], ?_, by omega, by unfold maxLen at hm; omega, ?_⟩
    · rcases Nat.eq_zero_or_pos len with h0 | h0
      · subst h0; exact .inl (by simp [prs])
      · have hsp := World.cell?_spot (hF 0 h0).1
        simp only [Addr.add] at hsp
        obtain ⟨b, off, spot⟩ := a
        simp at hsp
        subst hsp
        refine .inr ⟨b, off, rfl, fun j u hu => ?_⟩
        have hj : j < len * 2 := by
          have := (List.getElem?_eq_some_iff.1 hu).1
          rw [prs_length, htl] at this; exact this
        have hg : ((List.range len).map F)[j / 2]? = some (F (j / 2)) := by
          rw [List.getElem?_map, List.getElem?_range (by omega)]; rfl
        have h1 := prs_fst hg
        have h2 := prs_snd hg
        obtain ⟨g1, g2, _⟩ := hF (j / 2) (by omega)
        rw [Addr.add_lit] at g1 g2
        rcases Nat.mod_two_eq_zero_or_one j with hm | hm
        · have e : j / 2 * 2 = j := by omega
          rw [e] at h1 g1
          rw [h1] at hu; rw [g1]; exact hu
        · have e : j / 2 * 2 + 1 = j := by omega
          rw [e] at h2 g2
          rw [h2] at hu; rw [g2]; exact hu
    · intro t ht2
      obtain ⟨i, hi, rfl⟩ := List.mem_map.1 ht2
      have := hF i (List.mem_range.1 hi)
      exact ⟨this.2.2.1, this.2.2.2⟩
end
end Go.Proofs.YtoochleabcjljaaDoor

namespace Go.Proofs.YtoochleabcjljaaDoor
open Go.ChangeShapes Go.WideShapes Go.ChangeAt Go.RowKit Go.Joins Go.Deep

theorem own : ownKnob Tryd.prog.godebug = none := by kernel_rfl
theorem kids : Kids Tryd.prog (· < Tryd.prog.types.size) := kids_rows (by kernel_rfl) (by kernel_rfl)
theorem full : ∀ t e, t < Tryd.prog.types.size → Tryd.prog.underlying t = some (.slice e) → 0 < Tryd.prog.cellsOf e := slices_full_of Tryd.prog (by kernel_rfl)

set_option maxRecDepth 100000 in
theorem law_contract (H : Type) (enc : TypeId × Value → H) (W : World) (base : Nat) (args : Array Value) (ds gs : List (DataW H)) (before : List MemPlace)
    (hval : ∀ (j : Nat) t v, Tryd.f4.params[j]? = some t → args[j]? = some v → Value.okWide Tryd.prog W .any base t v)
    (hW : DataW.Whole enc Tryd.prog Tryd.f4.params.toList Rows.recordWithinSpec.vars false W args.toList ds gs before) :
    Calls Tryd.prog 4 args W fun e W' => ∃ v, e = .returned v ∧ Rows.recordWithinSpec.post enc Tryd.prog Tryd.f4 false true false false W args v W' := by
  have hW' := hW
  obtain ⟨p, q, hA0, hV, rfl, hfz, hnd⟩ := hW
  have hA : DataW.TrodAll enc Tryd.prog W 0 (fun _ => true) true Tryd.f4.params.toList args.toList ds p := hA0
  have hAk := hA
  rw [Tryd.params4] at hA hval
  obtain ⟨v0, v1, v2, d0, d1, d2, p0, p1, p2, rfl, rfl, rfl, h0, h1, h2⟩ := trodAll_three hA
  obtain ⟨rfl, rfl⟩ := trodVars_none hV
  obtain ⟨u0a, u0b, y0a, y0b, n0, rfl, _, _, g0a, g0b⟩ := open_agg2 Tryd.underlying24 (by kernel_rfl) (by kernel_rfl) (hval 0 24 v0 rfl rfl) h0
  obtain ⟨ao, ts, cap, e0a, hts, hlts1, hlts2, _⟩ := rd_pairs Tryd.underlying22 Tryd.underlying37 (by kernel_rfl) rfl rfl (by kernel_rfl) (by kernel_rfl) Tryd.underlying3 Tryd.underlying3 g0a
  obtain ⟨sh, e0b, _, _⟩ := DataW.trod_int Tryd.underlying3 g0b
  simp only [List.cons.injEq, and_true] at e0a e0b
  obtain ⟨b1, len1, cap1, rfl⟩ := okWide_slice Tryd.underlying25 (hval 1 25 v1 rfl rfl)
  obtain ⟨fuel1, hf1⟩ := h1
  obtain ⟨a1, xs1, c1, e1, hxs1, hlx1, hlc1, hwf1⟩ := rd_ints Tryd.underlying25 Tryd.underlying3 (by kernel_rfl) hf1
  have e1' : Value.slice b1 len1 cap1 = Value.slice a1 xs1.length c1 := by simpa [Value.cells] using e1
  obtain ⟨b2, len2, cap2, rfl⟩ := okWide_slice Tryd.underlying25 (hval 2 25 v2 rfl rfl)
  obtain ⟨fuel2, hf2⟩ := h2
  obtain ⟨a2, xs2, c2, e2, hxs2, hlx2, hlc2, hwf2⟩ := rd_ints Tryd.underlying25 Tryd.underlying3 (by kernel_rfl) hf2
  have e2' : Value.slice b2 len2 cap2 = Value.slice a2 xs2.length c2 := by simpa [Value.cells] using e2
  rw [e0a, e0b, e1', e2'] at hW' hAk ⊢
  simp only [List.append_nil] at hW' hAk
  refine (within_any' ao ts cap sh a1 xs1 c1 a2 xs2 c2 W hts (by omega) hxs1 (by omega) hxs2 (by omega)).mono fun e W' ⟨he, hb⟩ => ?_
  subst he
  exact ⟨_, rfl, law_post kids full (by rw [Tryd.params4]; decide) rfl hW' hAk rfl rfl Tryd.underlying4 hb⟩

theorem law_met (os : Os) (args : Array Value) : laidMet Tryd.prog Rows.recordWithinRow.laid ((World.doorLaid Tryd.prog 400 os).forCall (fun _ _ => 0) ⟨#[], args, []⟩).memory :=
  laidMet_of_run' 40 (by kernel_rfl) (by kernel_rfl)
theorem law_reads (os : Os) {H : Type} (enc : TypeId × Value → H) : ∃ places, DataW.whole enc Tryd.prog ((World.doorLaid Tryd.prog 400 os).forCall (fun _ _ => 0) ⟨#[], #[.agg #[.slice none 0 0, .int .i64 0], .slice none 0 0, .slice none 0 0], []⟩).memory Tryd.f4.params.toList Rows.recordWithinSpec.vars false #[Value.agg #[.slice none 0 0, .int .i64 0], Value.slice none 0 0, Value.slice none 0 0].toList 8 = some ([.agg [.nil, .lit (.int .i64 0)], .nil, .nil], [], places) :=
  ⟨[], by kernel_rfl⟩

set_option maxRecDepth 100000 in
theorem law_lifted (os : Os) (started : os.Started) (H : Type) (enc : TypeId × Value → H) (F : Stop.Interp) :
    ReturnsInHanded {} Tryd.checked os 4 .any ((OpenSpec.ofChange Rows.recordWithinSpec).preRow enc Tryd.prog Tryd.f4 Rows.recordWithinRow.domain false Rows.recordWithinRow.laid) (((OpenSpec.ofChange Rows.recordWithinSpec).at F).post enc Tryd.prog Tryd.f4 false true false false) := by
  obtain ⟨places, hx⟩ := law_reads os enc
  refine returnsInHanded_of_row (C := Tryd.checked) (s := OpenSpec.ofChange Rows.recordWithinSpec) own started (by kernel_rfl) Tryd.func4
    (witness_row_at (enc := enc) (C := Tryd.checked) false (World.doorLaid Tryd.prog 400 os) #[.agg #[.slice none 0 0, .int .i64 0], .slice none 0 0, .slice none 0 0] rfl (by kernel_rfl) (by kernel_rfl) (by kernel_rfl)
      (OpenSpec.preRow_of_cond 8 hx (by kernel_rfl) (fun k hk => by cases hk) (by kernel_rfl) (law_met os _))) ?_
  intro W base args ds gs before hval hW _ _ _ hL _ _
  exact law_contract H enc W base args ds gs before hval hW

theorem law_said : Rows.RecordWithinSaid :=
  OpenClaim.holds_of_cond 4 Tryd.f4 rfl rfl rfl rfl rfl rfl rfl ⟨rfl, rfl, rfl, rfl, rfl⟩ rfl rfl rfl rfl rfl (by kernel_rfl) Tryd.func4 (by kernel_rfl)
    (of_decide_eq_true (by kernel_rfl)) (by unfold Func.isWrapper; first | (rw [if_pos (by decide +kernel)]; kernel_rfl) | (rw [if_neg (by decide +kernel)]; exact ⟨rfl, rfl⟩))
    (fun os started H enc _ F => by rw [OpenClaim.pre_eq_preRow]; exact law_lifted os started H enc F)

theorem law_plain (f : FuncId) (fn : Func) (hf : Tryd.pinned.checked.prog.funcNamed "ringdown/ringdownlaw05.RecordWithin" = some f) (hfn : Tryd.pinned.checked.prog.funcs[f]? = some fn) :
    false = Tryd.pinned.checked.prog.looks [] ∧ ∀ (j : Nat) t, fn.params[j]? = some t → Tryd.pinned.checked.prog.wantsStandIn t = false := by
  obtain rfl : f = 4 := Option.some.inj ((show Tryd.prog.funcNamed "ringdown/ringdownlaw05.RecordWithin" = some 4 by kernel_rfl).symm.trans hf) |>.symm
  obtain rfl : fn = Tryd.f4 := (Option.some.inj (Tryd.func4.symm.trans hfn)).symm
  refine ⟨by kernel_rfl, fun j t ht => ?_⟩
  rw [Tryd.params4] at ht
  have : t = 24 ∨ t = 25 := by simpa using Array.mem_of_getElem? ht
  rcases this with rfl | rfl
  · exact (show Tryd.prog.wantsStandIn 24 = false by kernel_rfl)
  · exact (show Tryd.prog.wantsStandIn 25 = false by kernel_rfl)

/-- RecordWithin holds. -/
theorem recordWithin_holds : Rows.RecordWithinCardSaid :=
  Claim7.holds_tied_plain_at .later [] _ _ _ _ law_said (fun _ h => by cases h) (by kernel_rfl) (fun _ h => by cases h) recordWithin_row_tie rfl ⟨rfl, rfl⟩ (by kernel_rfl) rfl law_plain (by kernel_rfl)
end Go.Proofs.YtoochleabcjljaaDoor
