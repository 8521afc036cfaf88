/- Parts of a proof, in build order: K7, N3, K8, Bk, K9, Bq, Br. -/
import Derived.Test.YtdpjdifoonfcdaaGreatDoorKh1
import Derived.OwnWalk
import Derived.RangeFuncRecord

namespace Go.Proofs.YtdpjdifoonfcdaaGreatDoor
open Go.RowKit
def OverR (As Vn B0 : Nat) (vd : List Nat) (bu lu cu bv nv bo lq : Nat) (w0 : World) (iv : Value) (wi : World) : Prop :=
 ∃ (j : Nat) (ud qs : List Nat), j <= lq /\ iv = .int .i64 ((j : Int) - 1) /\ ud.length = lu /\ Sm ud /\ qs.length + j = lq /\ Sm qs /\ As = val ud + Vn * (B ^ j * val qs) /\ val ((ud.drop j).take nv) < Vn /\ val (ud.drop (j + nv)) = 0 /\
   wi.ownsRow B0 208 1 (.slice (some ⟨bu, 0, none⟩) lu cu) lu (dgs ud) /\ wi.ownsRow B0 208 1 (.slice (some ⟨bo, 0, none⟩) lq lq) lq (dgs (List.replicate j 0 ++ qs)) /\ Cells wi (some ⟨bv, 0, none⟩) (dgs vd) /\ Below B0 w0 wi
theorem u64_div {T v : Nat} (_hv : 1 <= v) (hT : T <= 1000000000000000000) : IntKind.u64.wrap ((T : Int).tdiv v) = ((T / v : Nat) : Int) /\ IntKind.u64.wrap ((T : Int).tmod v) = ((T % v : Nat) : Int) := by
 have h1 : (T : Int).tdiv v = ((T / v : Nat) : Int) := by rw [Int.tdiv_eq_ediv_of_nonneg (by omega)]; simp
 have h2 : (T : Int).tmod v = ((T % v : Nat) : Int) := by rw [Int.tmod_eq_emod_of_nonneg (by omega)]; simp
 have h3 : T / v <= T := Nat.div_le_self _ _
 have h4 : T % v <= T := Nat.mod_le _ _
 rw [h1, h2]
 generalize T / v = a1 at *
 generalize T % v = a2 at *
 clear h1 h2
 exact ⟨IntWalk.u64_in _ (by omega), IntWalk.u64_in _ (by omega)⟩
set_option maxRecDepth 1000000 in
def LoopX (As Vn B0 : Nat) (vd : List Nat) (bu lu cu bv nv cv bo lq : Nat) (w0 : World) (s0 s1 s2 s3 s4 s5 s6 s7 s8 s24 s25 s26 s27 s28 s29 s30 s31 s32 s33 s34 s35 s36 s37 s38 s39 s40 s41 s42 s43 s44 s45 s46 s47 s48 s49 s50 s51 s52 s53 s54 s55 s56 s57 s58 s59 s60 s61 s62 s63 s64 s65 s66 s67 s68 s69 s70 s71 s72 s73 s74 s75 s76 s77 s78 s79 s271 s272 s273 s274 s275 s276 s277 s278 s279 s280 s281 s282 : Value) (a : Act) (w' : World) : Prop :=
 OverR As Vn B0 vd bu lu cu bv nv bo lq w0 (.int .i64 (-1)) w' /\ ∃ v13 v14 v15 v16 v17 v18 v19 v20 v21 v22 v23 v80 v81 v82 v83 v84 v85 v86 v87 v88 v89 v90 v91 v92 v93 v94 v95 v96 v97 v98 v99 v100 v101 v102 v103 v104 v105 v106 v107 v108 v109 v110 v111 v112 v113 v114 v115 v116 v117 v118 v119 v120 v121 v122 v123 v124 v125 v126 v127 v128 v129 v130 v131 v132 v133 v134 v135 v136 v137 v138 v139 v140 v141 v142 v143 v144 v145 v146 v147 v148 v149 v150 v151 v152 v153 v154 v155 v156 v157 v158 v159 v160 v161 v162 v163 v164 v165 v166 v167 v168 v169 v170 v171 v172 v173 v174 v175 v176 v177 v178 v179 v180 v181 v182 v183 v184 v185 v186 v187 v188 v189 v190 v191 v192 v193 v194 v195 v196 v197 v198 v199 v200 v201 v202 v203 v204 v205 v206 v207 v208 v209 v210 v211 v212 v213 v214 v215 v216 v217 v218 v219 v220 v221 v222 v223 v224 v225 v226 v227 v228 v229 v230 v231 v232 v233 v234 v235 v236 v237 v238 v239 v240 v241 v242 v243 v244 v245 v246 v247 v248 v249 v250 v251 v252 v253 v254 v255 v256 v257 v258 v259 v260 v261 v262 v263 v264 v265 v266 v267 v268 v269 v270 : Value, a = ⟨#[s0, s1, s2, s3, s4, s5, s6, s7, s8, .slice (some ⟨bu, 0, none⟩) lu cu, .slice (some ⟨bv, 0, none⟩) nv cv, .int .i64 (nv : Nat), .slice (some ⟨bo, 0, none⟩) lq lq, v13, v14, v15, v16, v17, v18, v19, v20, v21, v22, v23, s24, s25, s26, s27, s28, s29, s30, s31, s32, s33, s34, s35, s36, s37, s38, s39, s40, s41, s42, s43, s44, s45, s46, s47, s48, s49, s50, s51, s52, s53, s54, s55, s56, s57, s58, s59, s60, s61, s62, s63, s64, s65, s66, s67, s68, s69, s70, s71, s72, s73, s74, s75, s76, s77, s78, s79, v80, v81, v82, v83, v84, v85, v86, v87, v88, v89, v90, v91, v92, v93, v94, v95, v96, v97, v98, v99, v100, v101, v102, v103, v104, v105, v106, v107, v108, v109, v110, v111, v112, v113, v114, v115, v116, v117, v118, v119, v120, v121, v122, v123, v124, v125, v126, v127, v128, v129, v130, v131, v132, v133, v134, v135, v136, v137, v138, v139, v140, v141, v142, v143, v144, v145, v146, v147, v148, v149, v150, v151, v152, v153, v154, v155, v156, v157, v158, v159, v160, v161, v162, v163, v164, v165, v166, v167, v168, v169, v170, v171, v172, v173, v174, v175, v176, v177, v178, v179, v180, v181, v182, v183, v184, v185, v186, v187, v188, v189, v190, v191, v192, v193, v194, v195, v196, v197, v198, v199, v200, v201, v202, v203, v204, v205, v206, v207, v208, v209, v210, v211, v212, v213, v214, v215, v216, v217, v218, v219, v220, v221, v222, v223, v224, v225, v226, v227, v228, v229, v230, v231, v232, v233, v234, v235, v236, v237, v238, v239, v240, v241, v242, v243, v244, v245, v246, v247, v248, v249, v250, v251, v252, v253, v254, v255, v256, v257, v258, v259, v260, v261, v262, v263, v264, v265, v266, v267, v268, v269, v270, s271, s272, s273, s274, s275, s276, s277, s278, s279, s280, s281, s282], []⟩
set_option maxRecDepth 1000000 in
set_option maxHeartbeats 20000000 in
theorem over_loop (As Vn B0 : Nat) (vd : List Nat) (bu lu cu bv nv cv bo lq : Nat) (w0 w : World) (Q0 : Exit -> Act -> World -> Prop) (s0 s1 s2 s3 s4 s5 s6 s7 s8 s14 s15 s16 s17 s18 s19 s20 s21 s22 s23 s24 s25 s26 s27 s28 s29 s30 s31 s32 s33 s34 s35 s36 s37 s38 s39 s40 s41 s42 s43 s44 s45 s46 s47 s48 s49 s50 s51 s52 s53 s54 s55 s56 s57 s58 s59 s60 s61 s62 s63 s64 s65 s66 s67 s68 s69 s70 s71 s72 s73 s74 s75 s76 s77 s78 s79 s80 s81 s82 s83 s84 s85 s86 s87 s88 s89 s90 s91 s92 s93 s94 s95 s96 s97 s98 s99 s100 s101 s102 s103 s104 s105 s106 s107 s108 s109 s110 s111 s112 s113 s114 s115 s116 s117 s118 s119 s120 s121 s122 s123 s124 s125 s126 s127 s128 s129 s130 s131 s132 s133 s134 s135 s136 s137 s138 s139 s140 s141 s142 s143 s144 s145 s146 s147 s148 s149 s150 s151 s152 s153 s154 s155 s156 s157 s158 s159 s160 s161 s162 s163 s164 s165 s166 s167 s168 s169 s170 s171 s172 s173 s174 s175 s176 s177 s178 s179 s180 s181 s182 s183 s184 s185 s186 s187 s188 s189 s190 s191 s192 s193 s194 s195 s196 s197 s198 s199 s200 s201 s202 s203 s204 s205 s206 s207 s208 s209 s210 s211 s212 s213 s214 s215 s216 s217 s218 s219 s220 s221 s222 s223 s224 s225 s226 s227 s228 s229 s230 s231 s232 s233 s234 s235 s236 s237 s238 s239 s240 s241 s242 s243 s244 s245 s246 s247 s248 s249 s250 s251 s252 s253 s254 s255 s256 s257 s258 s259 s260 s261 s262 s263 s264 s265 s266 s267 s268 s269 s270 s271 s272 s273 s274 s275 s276 s277 s278 s279 s280 s281 s282 : Value)
 (hvd : Hid (vd.length = nv)) (hvs : Hid (Sm vd)) (hVn : Hid (val vd = Vn)) (hnv : 2 <= nv) (hlu : lu = lq + nv) (hlb : lu <= 17592186044416) (hvu : bv ≠ bu) (hvo : bv ≠ bo) (huo : bu ≠ bo) (hBw : B0 <= w0.heap.size) (hBu : B0 <= bu) (hBo : B0 <= bo) (_hBv : B0 <= bv)
 (htop : Hid (∀ v, vd[nv - 1]? = some v -> 500000000 <= v)) (hstart : Hid (OverR As Vn B0 vd bu lu cu bv nv bo lq w0 (.int .i64 ((lq : Int) - 1)) w))
 (hexit : ∀ a' w', LoopX As Vn B0 vd bu lu cu bv nv cv bo lq w0 s0 s1 s2 s3 s4 s5 s6 s7 s8 s24 s25 s26 s27 s28 s29 s30 s31 s32 s33 s34 s35 s36 s37 s38 s39 s40 s41 s42 s43 s44 s45 s46 s47 s48 s49 s50 s51 s52 s53 s54 s55 s56 s57 s58 s59 s60 s61 s62 s63 s64 s65 s66 s67 s68 s69 s70 s71 s72 s73 s74 s75 s76 s77 s78 s79 s271 s272 s273 s274 s275 s276 s277 s278 s279 s280 s281 s282 a' w' -> Q0 (.exit 2) a' w') :
 Code.wp Tryz.prog (Code.loop (overLoop 1)) Q0 ⟨#[s0, s1, s2, s3, s4, s5, s6, s7, s8, .slice (some ⟨bu, 0, none⟩) lu cu, .slice (some ⟨bv, 0, none⟩) nv cv, .int .i64 (nv : Nat), .slice (some ⟨bo, 0, none⟩) lq lq, .int .i64 ((lq : Int) - 1), s14, s15, s16, s17, s18, s19, s20, s21, s22, s23, s24, s25, s26, s27, s28, s29, s30, s31, s32, s33, s34, s35, s36, s37, s38, s39, s40, s41, s42, s43, s44, s45, s46, s47, s48, s49, s50, s51, s52, s53, s54, s55, s56, s57, s58, s59, s60, s61, s62, s63, s64, s65, s66, s67, s68, s69, s70, s71, s72, s73, s74, s75, s76, s77, s78, s79, s80, s81, s82, s83, s84, s85, s86, s87, s88, s89, s90, s91, s92, s93, s94, s95, s96, s97, s98, s99, s100, s101, s102, s103, s104, s105, s106, s107, s108, s109, s110, s111, s112, s113, s114, s115, s116, s117, s118, s119, s120, s121, s122, s123, s124, s125, s126, s127, s128, s129, s130, s131, s132, s133, s134, s135, s136, s137, s138, s139, s140, s141, s142, s143, s144, s145, s146, s147, s148, s149, s150, s151, s152, s153, s154, s155, s156, s157, s158, s159, s160, s161, s162, s163, s164, s165, s166, s167, s168, s169, s170, s171, s172, s173, s174, s175, s176, s177, s178, s179, s180, s181, s182, s183, s184, s185, s186, s187, s188, s189, s190, s191, s192, s193, s194, s195, s196, s197, s198, s199, s200, s201, s202, s203, s204, s205, s206, s207, s208, s209, s210, s211, s212, s213, s214, s215, s216, s217, s218, s219, s220, s221, s222, s223, s224, s225, s226, s227, s228, s229, s230, s231, s232, s233, s234, s235, s236, s237, s238, s239, s240, s241, s242, s243, s244, s245, s246, s247, s248, s249, s250, s251, s252, s253, s254, s255, s256, s257, s258, s259, s260, s261, s262, s263, s264, s265, s266, s267, s268, s269, s270, s271, s272, s273, s274, s275, s276, s277, s278, s279, s280, s281, s282], []⟩ w := by
 have HEX := Lib.hid hexit
 clear hexit
 dsimp only
 have hwl : overLoop 1 = overLoop 1 := rfl
 conv at hwl => rhs; whnf
 rw [hwl]
 clear hwl
 go_loopw [13] (fun iv wi => OverR As Vn B0 vd bu lu cu bv nv bo lq w0 iv wi) (fun iv _ => (intOf iv + 1).toNat)
 case atStart => exact hstart.out
 case round =>
  clear hstart
  obtain ⟨j, ud, qs, hj, rfl, hul, hus, hql, hqs, hA, hrest, hzero, hou, hoo, hcv, hbr⟩ := hrel
  rcases Nat.eq_zero_or_pos j with h0 | h0
  · subst h0
    have HR : Hid (OverR As Vn B0 vd bu lu cu bv nv bo lq w0 (.int .i64 (-1)) wr) := ⟨0, ud, qs, hj, rfl, hul, hus, hql, hqs, hA, hrest, hzero, hou, hoo, hcv, hbr⟩
    have e1 : (((0 : Nat) : Int) - 1) = -1 := rfl
    rw [e1]
    clear hul hus hql hqs hA hrest hzero hou hoo hcv hbr e1 hlu
    go_wp2
    refine HEX.out _ _ ⟨HR.out, ?_⟩
    repeat apply Exists.intro
    rfl
  · obtain ⟨i, rfl⟩ : ∃ i, j = i + 1 := ⟨j - 1, by omega⟩
    have e1 : (((i + 1 : Nat) : Int) - 1) = (i : Int) := by omega
    rw [e1]
    clear e1 h0
    obtain ⟨m, hm⟩ : ∃ m, nv = m + 2 := ⟨nv - 2, by omega⟩
    obtain ⟨x, hx⟩ := get_of_lt (show i < ud.length by omega)
    obtain ⟨u2, hu2⟩ := get_of_lt (show i + m < ud.length by omega)
    obtain ⟨u1, hu1⟩ := get_of_lt (show i + m + 1 < ud.length by omega)
    obtain ⟨u0, hu0⟩ := get_of_lt (show i + m + 2 < ud.length by omega)
    obtain ⟨v2, hv2⟩ := get_of_lt (show m < vd.length by have := hvd.out; omega)
    obtain ⟨v1, hv1⟩ := get_of_lt (show m + 1 < vd.length by have := hvd.out; omega)
    have hv5 := htop.out v1 (by rw [show nv - 1 = m + 1 from by omega]; exact hv1)
    have hrest' : val ((ud.drop (i + 1)).take (m + 2)) < Vn := by rw [<- hm]; exact hrest
    obtain ⟨⟨hU1, hU2⟩, ⟨hV1, hV2⟩, hUB, hH⟩ := round_U hus hvs.out (by have := hvd.out; omega) hVn.out hx hu2 hu1 hu0 hv2 hv1 hrest'
    have hB1 := sm_get hus hu0; have hB2 := sm_get hus hu1; have hB3 := sm_get hus hu2; have hB4 := sm_get hvs.out hv1; have hB5 := sm_get hvs.out hv2
    obtain ⟨hu0v, hq0⟩ := guess_first hV2 hv5 (by simp only [B]; omega) (by simp only [B]; omega) hH hrest'
    have c0 := hou.cellAt (i + nv) (by omega)
    have c1 := hou.cellAt (i + nv - 1) (by omega)
    have c2 := hou.cellAt (i + nv - 2) (by omega)
    rw [show (dgs ud)[i + nv]? = some (.int .u64 (u0 : Nat)) from by rw [show i + nv = i + m + 2 from by omega]; simp [dgs, hu0]] at c0
    rw [show (dgs ud)[i + nv - 1]? = some (.int .u64 (u1 : Nat)) from by rw [show i + nv - 1 = i + m + 1 from by omega]; simp [dgs, hu1]] at c1
    rw [show (dgs ud)[i + nv - 2]? = some (.int .u64 (u2 : Nat)) from by rw [show i + nv - 2 = i + m from by omega]; simp [dgs, hu2]] at c2
    have d1 := hcv.dgs hv1
    have d2 := hcv.dgs hv2
    rw [Nat.zero_add, show m + 1 = nv - 1 from by omega] at d1
    rw [Nat.zero_add, show m = nv - 2 from by omega] at d2
    have C0 := Lib.hid c0; have C1 := Lib.hid c1; have C2 := Lib.hid c2; have D1 := Lib.hid d1; have D2 := Lib.hid d2
    have hm2 : m = nv - 2 := by omega
    rw [hm2] at hU1 hU2 hV1 hV2 hUB
    have hn3 : nv - 2 + 3 = nv + 1 := by omega
    rw [hn3] at hU1 hU2 hUB
    have HU1 := Lib.hid hU1; have HU2 := Lib.hid hU2; have HV1 := Lib.hid hV1; have HV2 := Lib.hid hV2; have HUB := Lib.hid hUB
    have HUL := Lib.hid hul; have HUS := Lib.hid hus; have HQL := Lib.hid hql; have HQS := Lib.hid hqs; have HA := Lib.hid hA; have HZ := Lib.hid hzero; have HOU := Lib.hid hou; have HOO := Lib.hid hoo; have HCV := Lib.hid hcv; have HBR := Lib.hid hbr
    have hu0' : ud[i + nv]? = some u0 := by rw [show i + nv = i + m + 2 from by omega]; exact hu0
    have HU0 := Lib.hid hu0'
    have hil : i + nv < lu := by omega
    have hiq : i < lq := by omega
    have HLU := Lib.hid hlu
    have hwz := hbr.size
    clear hx hu0 hu1 hu2 hv1 hv2 hrest hrest' hU1 hU2 hV1 hV2 hUB hH hul hus hql hqs hA hzero hou hoo hcv hbr c2 hm hm2 hn3 hu0' hlu
    -- the first guess
    obtain ⟨T, hT⟩ : ∃ T, T = u0 * B + u1 := ⟨_, rfl⟩
    have hTB : T <= 1000000000000000000 := by
     have h1 : u0 * B <= 999999999 * B := Nat.mul_le_mul_right B hB1
     have h9 : 999999999 * B = 999999999000000000 := by decide
     rw [h9] at h1; rw [hT]; omega
    have hTI : (u0 : Int) * 1000000000 + u1 = (T : Int) := by rw [hT]; simp [B]
    obtain ⟨q0, hq0e⟩ : ∃ q0, q0 = T / v1 := ⟨_, rfl⟩
    obtain ⟨r0, hr0e⟩ : ∃ r0, r0 = T % v1 := ⟨_, rfl⟩
    rw [<- hT, <- hq0e] at hq0
    have hr0 : r0 <= 999999999 := by have := Nat.mod_lt T (show 0 < v1 by omega); omega
    have hqr : q0 * v1 + r0 = u0 * B + u1 := by rw [hq0e, hr0e, <- hT, Nat.mul_comm]; exact Nat.div_add_mod T v1
    have hq0b : q0 <= 1000000001 := by have eB : B = 1000000000 := rfl; rw [eB] at hq0; omega
    have hlo0 : val ((ud.drop i).take (nv + 1)) < (q0 + 1) * Vn := by
     -- T < (q0 + 1) * v1, so the number is below
     have h1 : T + 1 <= (q0 + 1) * v1 := by
      have := Nat.mod_lt T (show 0 < v1 by omega)
      rw [Nat.add_mul, Nat.one_mul]
      rw [<- hT] at hqr; omega
     have h2 : (u0 * B * B + u1 * B + u2 + 1) <= (T + 1) * B := by
      rw [hT, Nat.add_mul, Nat.add_mul, Nat.one_mul]
      have eB : B = 1000000000 := rfl
      omega
     have h3 : (T + 1) * B <= ((q0 + 1) * v1) * B := Nat.mul_le_mul_right B h1
     have h4 : ((q0 + 1) * v1) * B <= (q0 + 1) * (v1 * B + v2) := by rw [Nat.mul_assoc]; exact Nat.mul_le_mul_left _ (by omega)
     calc val ((ud.drop i).take (nv + 1)) < (u0 * B * B + u1 * B + u2 + 1) * B ^ (nv - 2) := HU2.out
      _ <= ((q0 + 1) * (v1 * B + v2)) * B ^ (nv - 2) := Nat.mul_le_mul_right _ (by omega)
      _ = (q0 + 1) * ((v1 * B + v2) * B ^ (nv - 2)) := Nat.mul_assoc _ _ _
      _ <= (q0 + 1) * Vn := Nat.mul_le_mul_left _ HV1.out
    have HQR := Lib.hid hqr; have HLO0 := Lib.hid hlo0
    obtain ⟨hdv, hmd⟩ := u64_div (T := T) (v := v1) (by omega) hTB
    rw [<- hq0e] at hdv; rw [<- hr0e] at hmd
    rw [<- hTI] at hdv hmd
    have hdv2 : ((u0 : Int) * 1000000000 + u1) / (v1 : Int) = (q0 : Int) := by rw [hTI, hq0e]; simp
    have hmd2 : ((u0 : Int) * 1000000000 + u1) % (v1 : Int) = (r0 : Int) := by rw [hTI, hr0e]; simp
    have a5 : IntKind.i64.wrap ((i : Int) + nv) = (i : Int) + nv := IntWalk.i64_in _ (by omega)
    have a6 : ((i : Int) + nv).toNat = i + nv := by omega
    have a7 : (0 : Int) <= (i : Int) + nv := by omega
    have a8 : (i : Int) + nv < lu := by omega
    have b5 : IntKind.i64.wrap ((i : Int) + nv - 1) = (i : Int) + nv - 1 := IntWalk.i64_in _ (by omega)
    have b6 : ((i : Int) + nv - 1).toNat = i + nv - 1 := by omega
    have b7 : (0 : Int) <= (i : Int) + nv - 1 := by omega
    have b8 : (i : Int) + nv - 1 < lu := by omega
    have g5 : IntKind.i64.wrap ((nv : Int) - 1) = (nv : Int) - 1 := IntWalk.i64_in _ (by omega)
    have g6 : ((nv : Int) - 1).toNat = nv - 1 := by omega
    have g7 : (0 : Int) <= (nv : Int) - 1 := by omega
    have g8 : (nv : Int) - 1 < nv := by omega
    have f1 : IntKind.u64.wrap ((u0 : Int) * 1000000000) = (u0 : Int) * 1000000000 := IntWalk.u64_in _ (by omega)
    have f2 : IntKind.u64.wrap ((u0 : Int) * 1000000000 + u1) = (u0 : Int) * 1000000000 + u1 := IntWalk.u64_in _ (by omega)
    have f3 : ((v1 : Int) == 0) = false := by rw [beq_eq_false_iff_ne]; omega
    clear hT hTB hTI hq0e hr0e hqr hlo0 hu0v hq0
    as_aux_lemma =>
     go_wp2_with fail
     go_quiet (fail)
     go_wp2_with fail
     go_quiet (fail)
     go_wp2_with fail
     rw [hmd2]
     refine over_guess bu lu cu bv nv cv i q0 r0 u0 u1 u2 v1 v2 (B ^ (nv - 2)) Vn (val ((ud.drop i).take (nv + 1))) _ _ _ _ _ _ _ _ _ _ _ _ _ _ _ _ _ _ _ _ _ _ _ _ _ _ _ _ _ _ _ _ _ _ _ _ _ _ _ _ _ _ _ _ _ _ _ _ _ _ _ _ _ _ _ _ _ _ _ _ _ _ _ _ _ _ _ _ _ _ _ _ _ _ _ _ _ _ _ _ _ _ _ _ _ _ _ _ _ _ _ _ _ _ _ _ _ _ _ _ _ _ _ _ _ _ _ _ _ _ _ _ _ _ _ _ _ _ _ _ _ _ _ _ _ _ _ _ _ _ _ _ _ _ _ _ _ _ _ _ _ _ _ _ _ _ _ _ _ _ _ _ _ _ _ _ _ _ _ _ _ _ _ _ _ _ _ _ _ _ _ _ _ _ _ _ _ _ _ _ _ _ _ _ _ _ _ _ _ _ _ _ _ _ _ _ _ _ _ _ _ _ _ _ _ _ _ _ _ _ _ _ _ _ _ _ _ _ _ _ _ _ _ _ _ _ _ _ _ _ _ _ _ _ _ _ _ _ _ _ _ _ _ _ _ _ _ _ _ _ _ _ _ _ _ _ _ _ _ _ _ _ _ _ _ _ _ _ _ _ _ _ _ _ _ _ _ _ _ hil hnv (by omega) hB3 hv5 hB4 hB5 HV1 HV2 HU1 HU2 HUB hr0 HQR hq0b HLO0 (by exact D1.out) (by exact D2.out) (by exact C2.out) ?_
     intro a' w1 q d hx hwd hqV hlo hqB
     unfold GuessX at hx
     obtain ⟨v16, hx⟩ := hx
     obtain ⟨v113, hx⟩ := hx
     obtain ⟨v114, hx⟩ := hx
     obtain ⟨v115, hx⟩ := hx
     obtain ⟨v116, hx⟩ := hx
     obtain ⟨v117, hx⟩ := hx
     obtain ⟨v118, hx⟩ := hx
     obtain ⟨v119, hx⟩ := hx
     obtain ⟨v120, hx⟩ := hx
     obtain ⟨v121, hx⟩ := hx
     obtain ⟨v122, hx⟩ := hx
     obtain ⟨v123, hx⟩ := hx
     obtain ⟨v124, hx⟩ := hx
     obtain ⟨v125, hx⟩ := hx
     obtain ⟨v126, hx⟩ := hx
     obtain ⟨v127, hx⟩ := hx
     obtain ⟨v128, hx⟩ := hx
     obtain ⟨v129, hx⟩ := hx
     obtain ⟨v130, hx⟩ := hx
     obtain ⟨v131, hx⟩ := hx
     obtain ⟨v132, hx⟩ := hx
     obtain ⟨v133, hx⟩ := hx
     obtain ⟨v134, hx⟩ := hx
     obtain ⟨v135, hx⟩ := hx
     obtain ⟨v136, hx⟩ := hx
     obtain ⟨v137, hx⟩ := hx
     obtain ⟨v138, hx⟩ := hx
     obtain ⟨v139, hx⟩ := hx
     obtain ⟨v140, hx⟩ := hx
     obtain ⟨v141, hx⟩ := hx
     obtain ⟨v142, hx⟩ := hx
     obtain ⟨v143, hx⟩ := hx
     obtain ⟨v144, hx⟩ := hx
     obtain ⟨v145, hx⟩ := hx
     subst hx hwd
     have HQV := Lib.hid hqV; have HLO := Lib.hid hlo
     clear hqV hlo a5 a6 a7 a8 b5 b6 b7 b8 g5 g6 g7 g8 f1 f2 f3 c0 c1 d1 d2 hdv hmd hdv2 hmd2 HQR HLO0
     as_aux_lemma =>
      go_wp2_with fail
      refine over_sub ud vd B0 bu lu cu bv nv cv i q _ _ _ _ _ _ _ _ _ _ _ _ _ _ _ _ _ _ _ _ _ _ _ _ _ _ _ _ _ _ _ _ _ _ _ _ _ _ _ _ _ _ _ _ _ _ _ _ _ _ _ _ _ _ _ _ _ _ _ _ _ _ _ _ _ _ _ _ _ _ _ _ _ _ _ _ _ _ _ _ _ _ _ _ _ _ _ _ _ _ _ _ _ _ _ _ _ _ _ _ _ _ _ _ _ _ _ _ _ _ _ _ _ _ _ _ _ _ _ _ _ _ _ _ _ _ _ _ _ _ _ _ _ _ _ _ _ _ _ _ _ _ _ _ _ _ _ _ _ _ _ _ _ _ _ _ _ _ _ _ _ _ _ _ _ _ _ _ _ _ _ _ _ _ _ _ _ _ _ _ _ _ _ _ _ _ _ _ _ _ _ _ _ _ _ _ _ _ _ _ _ _ _ _ _ _ _ _ _ _ _ _ _ _ _ _ _ _ _ _ _ _ _ _ _ _ _ _ _ _ _ _ _ _ _ _ _ _ _ _ _ _ _ _ _ _ _ _ _ _ _ _ _ _ _ _ _ _ _ _ _ _ _ _ _ _ _ _ _ _ _ _ _ _ _ _ _ HUL (Lib.hid HUS.out) hvd hvs hil hqB hlb hvu (by exact Lib.hid HCV.out) (by exact Lib.hid HOU.out) ?_
      intro a' w2 C lo hx hll hls hCq hval hown hgr
      unfold SubX at hx
      obtain ⟨v18, hx⟩ := hx
      obtain ⟨v19, hx⟩ := hx
      obtain ⟨v20, hx⟩ := hx
      obtain ⟨v148, hx⟩ := hx
      obtain ⟨v149, hx⟩ := hx
      obtain ⟨v150, hx⟩ := hx
      obtain ⟨v151, hx⟩ := hx
      obtain ⟨v152, hx⟩ := hx
      obtain ⟨v153, hx⟩ := hx
      obtain ⟨v154, hx⟩ := hx
      obtain ⟨v155, hx⟩ := hx
      obtain ⟨v156, hx⟩ := hx
      obtain ⟨v157, hx⟩ := hx
      obtain ⟨v158, hx⟩ := hx
      obtain ⟨v159, hx⟩ := hx
      obtain ⟨v160, hx⟩ := hx
      obtain ⟨v161, hx⟩ := hx
      obtain ⟨v162, hx⟩ := hx
      obtain ⟨v163, hx⟩ := hx
      obtain ⟨v164, hx⟩ := hx
      obtain ⟨v165, hx⟩ := hx
      obtain ⟨v166, hx⟩ := hx
      obtain ⟨v167, hx⟩ := hx
      obtain ⟨v168, hx⟩ := hx
      obtain ⟨v169, hx⟩ := hx
      obtain ⟨v170, hx⟩ := hx
      obtain ⟨v171, hx⟩ := hx
      obtain ⟨v172, hx⟩ := hx
      obtain ⟨v173, hx⟩ := hx
      obtain ⟨v174, hx⟩ := hx
      obtain ⟨v175, hx⟩ := hx
      obtain ⟨v176, hx⟩ := hx
      obtain ⟨v177, hx⟩ := hx
      obtain ⟨v178, hx⟩ := hx
      obtain ⟨v179, hx⟩ := hx
      obtain ⟨v180, hx⟩ := hx
      obtain ⟨v181, hx⟩ := hx
      obtain ⟨v182, hx⟩ := hx
      obtain ⟨v183, hx⟩ := hx
      obtain ⟨v184, hx⟩ := hx
      obtain ⟨v185, hx⟩ := hx
      obtain ⟨v186, hx⟩ := hx
      obtain ⟨v187, hx⟩ := hx
      obtain ⟨v188, hx⟩ := hx
      obtain ⟨v189, hx⟩ := hx
      subst hx
      have HLL := Lib.hid hll; have HLS := Lib.hid hls
      have hgr : wr.grownBy w2 (some bu) := ⟨hgr.os, hgr.tape, hgr.output, hgr.size, hgr.block⟩
      have hUd : val ((ud.drop i).take (nv + 1)) = val ((ud.drop i).take nv) + B ^ nv * u0 := val_take_succ (by rw [List.getElem?_drop]; exact HU0.out)
      rw [hVn.out] at hval
      have hVB : Vn < B ^ nv := by
       have := val_lt hvs.out
       rwa [hVn.out, hvd.out] at this
      have hloB : val lo < B ^ nv := by
       have := val_lt hls
       rwa [hll] at this
      rw [drop_get HU0.out] at hown
      have hlk : (ud.take i).length + lo.length = i + nv := by rw [List.length_take, hll, Nat.min_eq_left (by have := HUL.out; omega)]
      have c3 := hown.cellAt (i + nv) (by omega)
      rw [get_mid _ _ _ _ _ hlk] at c3
      have c4 := hown.frozenAt (i + nv)
      have hoo2 : w2.ownsRow B0 208 1 (.slice (some ⟨bo, 0, none⟩) lq lq) lq (dgs (List.replicate (i + 1) 0 ++ qs)) := World.ownsRow.kept (w := wr) HOO.out (by exact hgr) (.inr (by simp [Value.ownBlock]; omega))
      have hcv2 : Cells w2 (some ⟨bv, 0, none⟩) (dgs vd) := Cells.grown (w := wr) HCV.out (by exact hgr) (fun b off e _ => by simp at e; obtain ⟨rfl, _⟩ := e; simpa using hvu)
      have hbr2 : Below B0 w0 w2 := HBR.out.grown (w := wr) (by exact hgr) (Nat.le_trans hBw hwz) (fun k e => by simp at e; omega)
      have HOWN := Lib.hid hown; have HOO2 := Lib.hid hoo2; have HCV2 := Lib.hid hcv2; have HBR2 := Lib.hid hbr2
      have hw2z := hbr2.size
      have hA2 : As = val ud + Vn * (B ^ (i + 1) * val qs) := HA.out
      have hz2 : val (ud.drop (i + 1 + nv)) = 0 := HZ.out
      have j5 : (i : Int) + nv < lu := by omega
      have j6 : (0 : Int) <= (i : Int) + nv := by omega
      have j7 : ((i : Int) + nv).toNat = i + nv := by omega
      have j8 : (i : Int) < lq := by omega
      have j9 : (0 : Int) <= (i : Int) := by omega
      clear hoo2 hcv2 hbr2 hgr C0 C1 C2 D1 D2 HU1 HU2 HV1 HV2
      have z0 : (dgs (List.replicate (i + 1) 0 ++ qs))[i]? = some (.int .u64 (0 : Nat)) := by
       rw [dgs, List.map_append, List.getElem?_append_left (by simp)]; simp
      by_cases hC : C <= u0
      · obtain ⟨e0, hR, hU⟩ := sub_fits hval hUd hC HLO.out hVB
        have hqB2 : q < B := by
         rcases Nat.lt_or_ge q B with h | h
         · exact h
         · exfalso
           have h1 := Nat.mul_le_mul_right Vn h
           have h2 := HUB.out
           omega
        have HRE := Lib.hid (round_end (As := As) (V := Vn) (q := q) HUL.out HUS.out hil hll hls hA2 hz2 hR hU hqB2)
        obtain rfl : u0 = C := by omega
        have hs1 := HOWN.out.stored (i + nv) (.int .u64 ((0 : Nat) : Int))
        rw [set_mid _ _ _ _ _ _ hlk] at hs1
        have hoo3 := HOO2.out.kept hs1.2 (.inr (by simp [Value.ownBlock]; omega))
        have o3 := hoo3.cellAt i (by omega)
        rw [z0] at o3
        have o4 := hoo3.frozenAt i
        have o5 := HOO2.out.cellAt i (by omega)
        rw [z0] at o5
        have o6 := HOO2.out.frozenAt i
        have hs2 := hoo3.stored i (.int .u64 (q : Nat))
        rw [set_zeros] at hs2
        have hu3 := hs1.1.kept hs2.2 (.inr (by simp [Value.ownBlock]; omega))
        have hcv3 := (HCV2.out.grown hs1.2 (fun b off e _ => by simp at e; obtain ⟨rfl, _⟩ := e; simpa using hvu)).grown hs2.2 (fun b off e _ => by simp at e; obtain ⟨rfl, _⟩ := e; simpa using hvo)
        have hbr3 := (HBR2.out.setCell (p := ⟨bu, i + nv, none⟩) hBu (.int .u64 ((0 : Nat) : Int))).setCell (p := ⟨bo, i, none⟩) hBo (.int .u64 (q : Nat))
        rw [List.append_assoc (ud.take i), List.append_assoc lo, List.singleton_append, <- List.append_assoc] at hu3
        have HFIN : Hid (OverR As Vn B0 vd bu lu cu bv nv bo lq w0 (.int .i64 ((i : Int) - 1)) ((w2.setCell ⟨bu, i + nv, none⟩ (.int .u64 ((0 : Nat) : Int))).setCell ⟨bo, i, none⟩ (.int .u64 (q : Nat)))) :=
         Lib.hid ⟨i, _, q :: qs, by omega, rfl, HRE.out.len, HRE.out.sm, by have := HQL.out; simp only [List.length_cons]; omega, by
          intro d hd
          rcases List.mem_cons.1 hd with h | h
          · rw [h]; exact hqB2
          · exact HQS.out d h, HRE.out.eq, HRE.out.rest, HRE.out.zero, hu3, hs2.1, hcv3, hbr3⟩
        have e1 : (u0 : Int) - u0 = ((0 : Nat) : Int) := by omega
        have e2 : ¬ (u0 : Int) < u0 := by omega
        clear hs1 hoo3 hs2 hu3 hcv3 hbr3 hown hval hUd hVB hloB hlk hA2 hz2 z0 hR hU HRE e0 hll hls hC
        as_aux_lemma =>
         go_wp2
         go_roundw
         case rel => exact HFIN.out
         case measure => simp [intOf]
      · obtain ⟨hCe, hU⟩ := sub_over hval hUd (by omega) HQV.out hVB hloB
        have hs1 := HOWN.out.stored (i + nv) (.int .u64 ((999999999 : Nat) : Int))
        rw [set_mid _ _ _ _ _ _ hlk] at hs1
        have hud2l : (ud.take i ++ lo ++ (999999999 :: ud.drop (i + nv + 1))).length = lu := by
         simp only [List.length_append, List.length_cons, List.length_drop]; have := HUL.out; omega
        have hud2s : Sm (ud.take i ++ lo ++ (999999999 :: ud.drop (i + nv + 1))) := sm_append (sm_append (sm_take HUS.out i) hls) (by
         intro d hd
         rcases List.mem_cons.1 hd with h | h
         · rw [h]; decide
         · exact sm_drop HUS.out _ d h)
        have hul2 : (ud.take i).length = i := by rw [List.length_take]; have := HUL.out; omega
        have hdr2 : ((ud.take i ++ lo ++ (999999999 :: ud.drop (i + nv + 1))).drop i).take nv = lo := by
         rw [List.append_assoc, List.drop_append_of_le_length (by omega), List.drop_eq_nil_of_le (by omega), List.nil_append, List.take_append_of_le_length (by omega), List.take_of_length_le (by omega)]
        have htk2 : (ud.take i ++ lo ++ (999999999 :: ud.drop (i + nv + 1))).take i = ud.take i := by
         rw [List.append_assoc, List.take_append_of_le_length (by omega), List.take_of_length_le (by omega)]
        have hdp2 : (ud.take i ++ lo ++ (999999999 :: ud.drop (i + nv + 1))).drop (i + nv) = 999999999 :: ud.drop (i + nv + 1) := by
         rw [List.drop_append_of_le_length (by rw [List.length_append]; omega), List.drop_eq_nil_of_le (by rw [List.length_append]; omega), List.nil_append]
        rw [List.append_assoc (ud.take i), List.append_assoc lo, List.singleton_append, <- List.append_assoc] at hs1
        generalize hud2 : ud.take i ++ lo ++ (999999999 :: ud.drop (i + nv + 1)) = ud2 at *
        have HS1 := Lib.hid hs1.1
        have hoo3 := HOO2.out.kept hs1.2 (.inr (by simp [Value.ownBlock]; omega))
        have hcv3 := HCV2.out.grown hs1.2 (fun b off e _ => by simp at e; obtain ⟨rfl, _⟩ := e; simpa using hvu)
        have hbr3 := HBR2.out.setCell (p := ⟨bu, i + nv, none⟩) hBu (.int .u64 ((999999999 : Nat) : Int))
        have HOO3 := Lib.hid hoo3; have HCV3 := Lib.hid hcv3; have HBR3 := Lib.hid hbr3
        have HUDL := Lib.hid hud2l; have HUDS := Lib.hid hud2s; have HDR2 := Lib.hid hdr2; have HTK2 := Lib.hid htk2; have HDP2 := Lib.hid hdp2
        have HVAL := Lib.hid hU; have HVB := Lib.hid hVB; have HLOB := Lib.hid hloB; have HA2 := Lib.hid hA2; have HZ2 := Lib.hid hz2
        have e1 : (u0 : Int) + 1000000000 - C = ((999999999 : Nat) : Int) := by omega
        have e2 : (u0 : Int) < C := by omega
        clear hs1 hoo3 hcv3 hbr3 hud2l hud2s hdr2 htk2 hdp2 hud2 hown hval hUd hVB hloB hlk hA2 hz2 hU hCe hll hls hul2
        as_aux_lemma =>
         go_wp2_with fail
         try rw [e1]
         clear e1 e2 c3 c4
         refine over_add ud2 vd B0 bu lu cu bv nv cv i _ _ _ _ _ _ _ _ _ _ _ _ _ _ _ _ _ _ _ _ _ _ _ _ _ _ _ _ _ _ _ _ _ _ _ _ _ _ _ _ _ _ _ _ _ _ _ _ _ _ _ _ _ _ _ _ _ _ _ _ _ _ _ _ _ _ _ _ _ _ _ _ _ _ _ _ _ _ _ _ _ _ _ _ _ _ _ _ _ _ _ _ _ _ _ _ _ _ _ _ _ _ _ _ _ _ _ _ _ _ _ _ _ _ _ _ _ _ _ _ _ _ _ _ _ _ _ _ _ _ _ _ _ _ _ _ _ _ _ _ _ _ _ _ _ _ _ _ _ _ _ _ _ _ _ _ _ _ _ _ _ _ _ _ _ _ _ _ _ _ _ _ _ _ _ _ _ _ _ _ _ _ _ _ _ _ _ _ _ _ _ _ _ _ _ _ _ _ _ _ _ _ _ _ _ _ _ _ _ _ _ _ _ _ _ _ _ _ _ _ _ _ _ _ _ _ _ _ _ _ _ _ _ _ _ _ _ _ _ _ _ _ _ _ _ _ _ _ _ _ _ _ _ _ _ _ _ _ _ _ _ _ _ _ _ _ _ _ _ _ _ _ _ _ _ _ _ _ HUDL HUDS hvd hvs hil hlb hvu HCV3 HS1 ?_
         intro a' w3 C2 lo2 hx hll2 hls2 hC2 hval2 hown2 hgr2
         unfold AddX at hx
         obtain ⟨v22, hx⟩ := hx
         obtain ⟨v23, hx⟩ := hx
         obtain ⟨v227, hx⟩ := hx
         obtain ⟨v228, hx⟩ := hx
         obtain ⟨v229, hx⟩ := hx
         obtain ⟨v230, hx⟩ := hx
         obtain ⟨v231, hx⟩ := hx
         obtain ⟨v232, hx⟩ := hx
         obtain ⟨v233, hx⟩ := hx
         obtain ⟨v234, hx⟩ := hx
         obtain ⟨v235, hx⟩ := hx
         obtain ⟨v236, hx⟩ := hx
         obtain ⟨v237, hx⟩ := hx
         obtain ⟨v238, hx⟩ := hx
         obtain ⟨v239, hx⟩ := hx
         obtain ⟨v240, hx⟩ := hx
         obtain ⟨v241, hx⟩ := hx
         obtain ⟨v242, hx⟩ := hx
         obtain ⟨v243, hx⟩ := hx
         obtain ⟨v244, hx⟩ := hx
         obtain ⟨v245, hx⟩ := hx
         obtain ⟨v246, hx⟩ := hx
         obtain ⟨v247, hx⟩ := hx
         obtain ⟨v248, hx⟩ := hx
         obtain ⟨v249, hx⟩ := hx
         obtain ⟨v250, hx⟩ := hx
         obtain ⟨v251, hx⟩ := hx
         subst hx
         have hgr2 : (w2.setCell ⟨bu, i + nv, none⟩ (.int .u64 ((999999999 : Nat) : Int))).grownBy w3 (some bu) := ⟨hgr2.os, hgr2.tape, hgr2.output, hgr2.size, hgr2.block⟩
         rw [hVn.out, HDR2.out] at hval2
         rw [HTK2.out, HDP2.out] at hown2
         have hlo2B : val lo2 < B ^ nv := by
          have := val_lt hls2
          rwa [hll2] at this
         obtain ⟨hC2e, hq1, hR, hU⟩ := add_fits HVAL.out hval2 hC2 hlo2B HLOB.out HQV.out
         subst hC2e
         have hqB2 : q - 1 < B := by have eB : B = 1000000000 := rfl; omega
         have HRE := Lib.hid (round_end (As := As) (V := Vn) (q := q - 1) HUL.out HUS.out hil hll2 hls2 HA2.out HZ2.out hR hU hqB2)
         have hlk : (ud.take i).length + lo2.length = i + nv := by rw [List.length_take, hll2, Nat.min_eq_left (by have := HUL.out; omega)]
         have c3 := hown2.cellAt (i + nv) (by omega)
         rw [get_mid _ _ _ _ _ hlk] at c3
         have c4 := hown2.frozenAt (i + nv)
         have hs1 := hown2.stored (i + nv) (.int .u64 ((0 : Nat) : Int))
         rw [set_mid _ _ _ _ _ _ hlk] at hs1
         have hoo4 := (HOO3.out.kept hgr2 (.inr (by simp [Value.ownBlock]; omega))).kept hs1.2 (.inr (by simp [Value.ownBlock]; omega))
         have hoo5 := HOO3.out.kept hgr2 (.inr (by simp [Value.ownBlock]; omega))
         have o5 := hoo5.cellAt i (by omega)
         rw [z0] at o5
         have o6 := hoo5.frozenAt i
         clear hoo5
         have o3 := hoo4.cellAt i (by omega)
         rw [z0] at o3
         have o4 := hoo4.frozenAt i
         have hs2 := hoo4.stored i (.int .u64 ((q - 1 : Nat) : Int))
         rw [set_zeros] at hs2
         have hu3 := hs1.1.kept hs2.2 (.inr (by simp [Value.ownBlock]; omega))
         have hcv4 := ((HCV3.out.grown hgr2 (fun b off e _ => by simp at e; obtain ⟨rfl, _⟩ := e; simpa using hvu)).grown hs1.2 (fun b off e _ => by simp at e; obtain ⟨rfl, _⟩ := e; simpa using hvu)).grown hs2.2 (fun b off e _ => by simp at e; obtain ⟨rfl, _⟩ := e; simpa using hvo)
         have hbr4 := ((HBR3.out.grown hgr2 (by have := HBR3.out.size; omega) (fun k e => by simp at e; omega)).setCell (p := ⟨bu, i + nv, none⟩) hBu (.int .u64 ((0 : Nat) : Int))).setCell (p := ⟨bo, i, none⟩) hBo (.int .u64 ((q - 1 : Nat) : Int))
         rw [List.append_assoc (ud.take i), List.append_assoc lo2, List.singleton_append, <- List.append_assoc] at hu3
         have HFIN : Hid (OverR As Vn B0 vd bu lu cu bv nv bo lq w0 (.int .i64 ((i : Int) - 1)) ((w3.setCell ⟨bu, i + nv, none⟩ (.int .u64 ((0 : Nat) : Int))).setCell ⟨bo, i, none⟩ (.int .u64 ((q - 1 : Nat) : Int)))) :=
          Lib.hid ⟨i, _, (q - 1) :: qs, by omega, rfl, HRE.out.len, HRE.out.sm, by have := HQL.out; simp only [List.length_cons]; omega, by
           intro d hd
           rcases List.mem_cons.1 hd with h | h
           · rw [h]; exact hqB2
           · exact HQS.out d h, HRE.out.eq, HRE.out.rest, HRE.out.zero, hu3, hs2.1, hcv4, hbr4⟩
         have e1 : ((q - 1 : Nat) : Int) = (q : Int) - 1 := by omega
         rw [e1] at HFIN
         have hq1I : (1 : Int) <= q := by omega
         clear hs1 hoo4 hs2 hu3 hcv4 hbr4 hown2 hval2 hlo2B hlk hR hU HRE hll2 hls2 e1 z0 hgr2
         as_aux_lemma =>
          go_wp2
          go_roundw
          case rel => exact HFIN.out
          case measure => simp [intOf]
end Go.Proofs.YtdpjdifoonfcdaaGreatDoor

namespace Go.Proofs.YtdpjdifoonfcdaaGreatDoor
open Go.RowKit
def OverOK (K : Nat) : Prop := ∀ (va vb : Value) (m n : Nat) (w : World), NatV w va m -> NatV w vb n -> (dig m).length <= 17592186044415 -> (dig n).length <= 17592186044415 -> n ≠ 0 -> n < K ->
 Calls Tryz.prog 153 #[va, vb] w fun e w' => (∃ q r, e = .returned (.tuple #[q, r]) /\ NatV w' q (m / n) /\ NatV w' r (m % n)) /\ Below w.heap.size w w'
theorem common_any (K : Nat) (hov : OverOK K) (va vb : Value) (m n : Nat) (w : World) (ha : NatV w va m) (hb : NatV w vb n) (hm : (dig m).length <= 17592186044415) (hn : (dig n).length <= 17592186044415) (hK : n < K) :
 Calls Tryz.prog 152 #[va, vb] w fun e w' => (∃ v, e = .returned v /\ NatV w' v (Nat.gcd m n)) /\ Below w.heap.size w w' := by
 have HA := Lib.hid ha; have HB := Lib.hid hb; have HOV := Lib.hid hov; have HK := Lib.hid hK; have HM := Lib.hid hm; have HN := Lib.hid hn
 clear ha hb hov hK hm hn
 go_enter Tryz.func152, Tryz.ntmps152
 go_wp2
 go_loopg [0, 1] n (fun b x y wr => ∃ p q : Nat, q <= b /\ NatV wr x p /\ NatV wr y q /\ Nat.gcd p q = Nat.gcd m n /\ q < K /\ (dig p).length <= 17592186044415 /\ (dig q).length <= 17592186044415 /\ Below w.heap.size w wr)
 case atStart => exact ⟨m, n, Nat.le_refl _, HA.out, HB.out, rfl, HK.out, HM.out, HN.out, Below.refl _ _⟩
 case round =>
  obtain ⟨p, q, hqb, hp, hq, hg, hqK, hpl, hql, hbe⟩ := hrel
  have HP := Lib.hid hp; have HQ := Lib.hid hq
  have hq2 := hq
  obtain ⟨aq, cq, rfl, hqc, hqc2⟩ := hq
  by_cases h0 : q = 0
  · subst h0
    have he : p = Nat.gcd m n := by rw [<- hg, Nat.gcd_zero_right]
    have hl0 : (dig 0).length = 0 := by rw [dig_zero]; rfl
    rw [hl0]
    have HE := Lib.hid he; clear he hg hq2 hp hqc hqc2 hl0
    go_wp2
    go_ret
    exact ⟨⟨_, rfl, by rw [<- HE.out]; exact HP.out⟩, hbe⟩
  · have hlp : 0 < ((dig q).length : Int) := by
     have : (dig q).length ≠ 0 := by rw [Ne, dig_len_pos]; exact h0
     omega
    have hov := HOV.out _ _ p q wr hp hq2 hpl hql h0 hqK
    have hlt : p % q < q := Nat.mod_lt _ (by omega)
    have hg2 : Nat.gcd q (p % q) = Nat.gcd m n := by rw [<- hg, Nat.gcd_comm q, <- Nat.gcd_rec, Nat.gcd_comm]
    have hml : (dig (p % q)).length <= 17592186044415 := Nat.le_trans (dig_len_mono (Nat.le_of_lt hlt)) hql
    have HO := Lib.hid hov; have HG := Lib.hid hg2
    clear hov hg hg2 hp hq2 hqc hqc2
    go_wp2_with fail
    refine HO.out.mono ?_
    rintro e w1 ⟨⟨vq, vr, rfl, _, hr⟩, hb1⟩
    have HR := Lib.hid hr; clear hr
    go_wp2
    go_roundg (p % q)
    case measure => omega
    case rel => exact ⟨q, p % q, Nat.le_refl _, HQ.out.below hb1 (Nat.le_refl _), HR.out, HG.out, by omega, hql, hml, hbe.trans (hb1.mono hbe.size)⟩
end Go.Proofs.YtdpjdifoonfcdaaGreatDoor

namespace Go.Proofs.YtdpjdifoonfcdaaGreatDoor
open Go.RowKit
theorem natV_own {w : World} {b : Nat} {v : Value} {n : Nat} (h : w.ownsRow b 208 1 v (dig n).length (dgs (dig n))) : NatV w v n := by
 obtain ⟨a, c, h1, h2, h3, h4⟩ := own_cap h
 exact ⟨a, c, h1, h2, h3, by unfold maxLen at h4; exact h4⟩
theorem rep_snoc (l : List Nat) (k : Nat) : dgs (l ++ List.replicate k 0) ++ [.int .u64 0] = dgs (l ++ List.replicate (k + 1) 0) := by
 rw [List.replicate_succ', <- List.append_assoc, dgs_append (l ++ _)]; rfl
theorem val_pad (l : List Nat) (k : Nat) : val (l ++ List.replicate k 0) = val l := by rw [val_append, val_zeros]; simp
set_option maxRecDepth 1000000 in
set_option maxHeartbeats 4000000 in
theorem over_less (va vb : Value) (m n : Nat) (w : World) (ha : NatV w va m) (hb : NatV w vb n) (hm : (dig m).length <= 17592186044416) (hn : (dig n).length <= 17592186044416) (hlt : m < n) :
 Calls Tryz.prog 153 #[va, vb] w fun e w' => (∃ q r, e = .returned (.tuple #[q, r]) /\ NatV w' q (m / n) /\ NatV w' r (m % n)) /\ Below w.heap.size w w' := by
 have HVA := Lib.hid ha
 obtain ⟨aa, ca, rfl, ha, hac, hac2⟩ := ha
 obtain ⟨ab, cb, rfl, hb, hbc, hbc2⟩ := hb
 have hq : m / n = 0 := Nat.div_eq_of_lt hlt
 have hr : m % n = m := Nat.mod_eq_of_lt hlt
 have hcmp := compare_any aa ab m n ca cb w ha hb (by omega) (by omega)
 rw [cmpN_lt hlt] at hcmp
 have HC := Lib.hid hcmp; clear hcmp
 have HQ := Lib.hid hq; have HR := Lib.hid hr; clear hq hr ha hb
 go_enter Tryz.func153, Tryz.ntmps153
 go_wp2_with fail
 refine HC.out.mono ?_
 rintro e w1 ⟨rfl, hb1⟩
 go_wp2
 go_ret2
 exact ⟨⟨_, _, rfl, by rw [HQ.out]; exact ⟨none, 0, by rw [dig_zero]; rfl, by rw [dig_zero]; exact Cells.nil _ _, by rw [dig_zero]; simp, by omega⟩, by rw [HR.out]; exact HVA.out.below hb1 (Nat.le_refl _)⟩, hb1⟩
end Go.Proofs.YtdpjdifoonfcdaaGreatDoor

namespace Go.Proofs.YtdpjdifoonfcdaaGreatDoor
open Go.RowKit
def Blk (W : World) (B : Nat) (t : TypeId) (cs : Array Value) : Prop := W.heap[B]? = some (.cells cs t (0, 0))
theorem Blk.lt {W : World} {B : Nat} {t : TypeId} {cs : Array Value} (h : Blk W B t cs) : B < W.heap.size := (Array.getElem?_eq_some_iff.1 h).1
theorem Blk.kept {W W' : World} {row : Option Nat} {B : Nat} {t : TypeId} {cs : Array Value} (h : Blk W B t cs) (hg : W.grownBy W' row) (hne : some B ≠ row) : Blk W' B t cs := (hg.block B h.lt hne).trans h
theorem Blk.alloc {W : World} {B : Nat} {t : TypeId} {cs : Array Value} (h : Blk W B t cs) (o : Obj) : Blk (W.alloc o) B t cs := h.kept (World.grownBy_alloc W o none) (by simp)
theorem Blk.new (W : World) (t : TypeId) (cs : Array Value) : Blk (W.alloc (.cells cs t)) W.heap.size t cs := World.alloc_heap_new W _
theorem Blk.below {W W' : World} {B n : Nat} {t : TypeId} {cs : Array Value} (h : Blk W B t cs) (hb : Below n W W') (hn : B < n) : Blk W' B t cs := (hb.block B hn).trans h
theorem Blk.c0 {W : World} {B : Nat} {t : TypeId} {u : Value} {l : List Value} (h : Blk W B t (u :: l).toArray) : W.cell? ⟨B, 0, none⟩ = some u := by simp [World.cell?, show W.heap[B]? = _ from h]
theorem Blk.c1 {W : World} {B : Nat} {t : TypeId} {u v : Value} {l : List Value} (h : Blk W B t (u :: v :: l).toArray) : W.cell? ⟨B, 1, none⟩ = some v := by simp [World.cell?, show W.heap[B]? = _ from h]
theorem Blk.free {W : World} {B : Nat} {t : TypeId} {cs : Array Value} (h : Blk W B t cs) (i : Nat) : W.frozen? ⟨B, i, none⟩ = false := by simp [World.frozen?, show W.heap[B]? = _ from h]
theorem Blk.drew {W : World} {B : Nat} {t : TypeId} {cs : Array Value} (h : Blk W B t cs) : Blk W.drew B t cs := h
end Go.Proofs.YtdpjdifoonfcdaaGreatDoor

namespace Go.Proofs.YtdpjdifoonfcdaaGreatDoor
open Go.RowKit
theorem len_two {n : Nat} (h : B <= n) : 2 <= (dig n).length := by
 rcases Nat.lt_or_ge (dig n).length 2 with h2 | h2
 · exfalso
   have h1 := val_lt (sm_dig n)
   rw [val_dig] at h1
   have h3 : B ^ (dig n).length <= B ^ 1 := Nat.pow_le_pow_right (by decide) (by omega)
   rw [Nat.pow_one] at h3
   omega
 · exact h2
theorem val_one (s : Nat) : val [s] = s := by simp [val]
theorem sm_sing {s : Nat} (h : s < B) : Sm [s] := by
 intro d hd; rw [List.mem_singleton.1 hd]; exact h
def lenV (v : Value) : Nat := match v with | .slice _ n _ => n | _ => 0
theorem own_belowK {w w' : World} {b B0 : Nat} {T : TypeId} {s n : Nat} {v : Value} {xs : List Value} (h : w.ownsRow b T s v n xs) (hb : Below B0 w w') (hB : w.heap.size <= B0) : w'.ownsRow b T s v n xs :=
 h.kept (row := none) ⟨hb.os, hb.tape, hb.output, hb.size, fun k hk _ => hb.block k (by omega)⟩ (by cases hv : v.ownBlock <;> simp)
theorem sc_cells {w : World} {b s : Nat} (h : Blk w b 208 #[.int .u64 (s : Nat)]) : Cells w (some ⟨b, 0, none⟩) (dgs [s]) :=
 .inr ⟨b, 0, rfl, fun j u hu => by
  match j, hu with
  | 0, hu => simp [dgs] at hu; subst hu; exact h.c0⟩
theorem sm_pad {l : List Nat} (h : Sm l) (k : Nat) : Sm (l ++ List.replicate k 0) := by
 intro d hd
 rcases List.mem_append.1 hd with h1 | h1
 · exact h d h1
 · rw [(List.mem_replicate.1 h1).2]; decide
theorem start_R {As Vn B0 bu lu cu bv nv bo lq : Nat} {vd ud : List Nat} {w0 w : World} (h1 : ud.length = lu) (h2 : Sm ud) (h3 : lu = lq + nv) (h4 : val ud = As) (h5 : val ((ud.drop lq).take nv) < Vn)
 (h6 : w.ownsRow B0 208 1 (.slice (some ⟨bu, 0, none⟩) lu cu) lu (dgs ud)) (h7 : w.ownsRow B0 208 1 (.slice (some ⟨bo, 0, none⟩) lq lq) lq (dgs (List.replicate lq 0))) (h8 : Cells w (some ⟨bv, 0, none⟩) (dgs vd)) (h9 : Below B0 w0 w) :
 OverR As Vn B0 vd bu lu cu bv nv bo lq w0 (.int .i64 ((lq : Int) - 1)) w := by
 refine ⟨lq, ud, [], Nat.le_refl _, rfl, h1, h2, by simp, fun d hd => by simp at hd, ?_, h5, ?_, h6, by rw [List.append_nil]; exact h7, h8, h9⟩
 · rw [h4]; simp [val]
 · rw [List.drop_of_length_le (by omega)]; rfl
theorem end_R {As Vn B0 bu lu cu bv nv bo lq : Nat} {vd : List Nat} {w0 w : World} (_h3 : lu = lq + nv) (h : OverR As Vn B0 vd bu lu cu bv nv bo lq w0 (.int .i64 (-1)) w) :
 ∃ ud qs : List Nat, ud.length = lu /\ Sm ud /\ qs.length = lq /\ Sm qs /\ As = val ud + Vn * val qs /\ val ud < Vn /\ w.ownsRow B0 208 1 (.slice (some ⟨bu, 0, none⟩) lu cu) lu (dgs ud) /\ w.ownsRow B0 208 1 (.slice (some ⟨bo, 0, none⟩) lq lq) lq (dgs qs) /\ Below B0 w0 w := by
 obtain ⟨j, ud, qs, hj, he, hul, hus, hql, hqs, hA, hr, hz, ho, hoo, -, hb⟩ := h
 have hj0 : j = 0 := by simp at he; omega
 subst hj0
 refine ⟨ud, qs, hul, hus, by omega, hqs, by simpa using hA, ?_, ho, by simpa using hoo, hb⟩
 rw [List.drop_zero] at hr
 rw [Nat.zero_add] at hz
 have h1 := val_append (ud.take nv) (ud.drop nv)
 rw [List.take_append_drop, hz, Nat.mul_zero, Nat.add_zero] at h1
 omega
set_option maxRecDepth 1000000 in
set_option maxHeartbeats 20000000 in
theorem over_big (va vb : Value) (m n : Nat) (w : World) (ha : NatV w va m) (hb : NatV w vb n) (hm : (dig m).length <= 17592186044415) (hge : n <= m) (hnB : B <= n) :
 Calls Tryz.prog 153 #[va, vb] w fun e w' => (∃ q r, e = .returned (.tuple #[q, r]) /\ NatV w' q (m / n) /\ NatV w' r (m % n)) /\ Below w.heap.size w w' := by
 obtain ⟨i0, hi, hy0, hy1, hy2⟩ := info_parts Tryz.infoU64
 obtain ⟨aa, ca, rfl, ha, hac, hac2⟩ := ha
 obtain ⟨ab, cb, rfl, hb, hbc, hbc2⟩ := hb
 have hlb2 := len_two hnB
 have hll : (dig n).length <= (dig m).length := by
  have h1 : n < B ^ (dig m).length := Nat.lt_of_le_of_lt hge (by have := val_lt (sm_dig m); rwa [val_dig] at this)
  exact dig_len_lt h1
 obtain ⟨M, hM⟩ : ∃ M, (dig n).length = M + 1 := ⟨(dig n).length - 1, by omega⟩
 obtain ⟨t, ht⟩ := get_of_lt (show M < (dig n).length by omega)
 obtain ⟨ht1, htB, -, -⟩ := top_digit hM ht
 obtain ⟨hs1, hsB, -⟩ := scale_bd ht1 htB
 have hs0 : (1000000000 : Nat) / (t + 1) = B / (t + 1) := rfl
 obtain ⟨hdv, -⟩ := u64_div (T := 1000000000) (v := t + 1) (by omega) (by omega)
 have htop : ∀ v, (dig (n * (B / (t + 1))))[M]? = some v -> 500000000 <= v := fun v hv => scaled_top hM ht hv
 have hvl := scaled_len hM ht
 have hul := scaled_up (a := m) (s := B / (t + 1)) rfl (Nat.le_of_lt hsB)
 have hul2 : (dig m).length <= (dig (m * (B / (t + 1)))).length := dig_len_mono (Nat.le_mul_of_pos_right _ (by omega))
 have hstart := fun (ud : List Nat) (j : Nat) (h1 : (dig m).length = j + M) (h2 : val ud = m * (B / (t + 1))) (h3 : ud.length = j + (M + 1)) => start_rest (b := n) hM h1 hs1 h2 h3
 have hend := fun (r q : Nat) (h : m * (B / (t + 1)) = r + n * (B / (t + 1)) * q) (hr : r < n * (B / (t + 1))) => end_all h hr hs1
 have hcmp := compare_any aa ab m n ca cb w ha hb (by omega) (by omega)
 have hcm : 0 <= cmpN m n := by unfold cmpN; rw [if_neg (by omega)]; split <;> omega
 obtain ⟨b, off, rfl⟩ := hb.addr (by intro h; have := congrArg List.length h; simp [dgs] at this; rw [this] at hlb2; simp at hlb2)
 have hct := fun (w1 : World) (h : Cells w1 (some ⟨b, off, none⟩) (dgs (dig n))) => h.dgs ht
 generalize hse : B / (t + 1) = s at *
 have htmA := fun (w1 : World) (bs : Nat) (h : Cells w1 aa (dgs (dig m))) (h2 : Cells w1 (some ⟨bs, 0, none⟩) (dgs [s])) => times_lists aa (some ⟨bs, 0, none⟩) (dig m) [s] ca 1 w1 h h2 (sm_dig m) (sm_sing hsB) (by simp only [List.length_cons, List.length_nil]; omega)
 have htmB := fun (w1 : World) (bs : Nat) (h : Cells w1 (some ⟨b, off, none⟩) (dgs (dig n))) (h2 : Cells w1 (some ⟨bs, 0, none⟩) (dgs [s])) => times_lists (some ⟨b, off, none⟩) (some ⟨bs, 0, none⟩) (dig n) [s] cb 1 w1 h h2 (sm_dig n) (sm_sing hsB) (by simp only [List.length_cons, List.length_nil]; omega)
 simp only [val_dig, val_one, List.length_cons, List.length_nil, Nat.zero_add] at htmA htmB
 obtain ⟨nv, hnv⟩ : ∃ nv, nv = M + 1 := ⟨_, rfl⟩
 rw [<- hnv] at hM hvl
 rw [hM] at hcmp hll hlb2 ⊢
 simp only [hM] at htmB
 simp only [hvl] at htmB
 obtain ⟨la, hla⟩ : ∃ la, la = (dig m).length := ⟨_, rfl⟩
 rw [<- hla] at hm hll hul hul2 htmA hcmp hac hstart ⊢
 obtain ⟨lu0, hlu0⟩ : ∃ lu0, lu0 = (dig (m * s)).length := ⟨_, rfl⟩
 rw [<- hlu0] at hul hul2 htmA
 generalize cmpN m n = cm at *
 have HC := Lib.hid hcmp; have HTA := Lib.hid htmA; have HTB := Lib.hid htmB; have HA := Lib.hid ha; have HB := Lib.hid hb; have HCT := Lib.hid hct; have HTOP := Lib.hid htop; have HVL := Lib.hid hvl
 have HST := Lib.hid hstart; have HEND := Lib.hid hend; have HNV := Lib.hid hnv; have HLA := Lib.hid hla; have HLU0 := Lib.hid hlu0; have HM := Lib.hid hM
 clear hcmp htmA htmB ha hb hct htop hvl ht hstart hend hla hlu0 hM
 have f2 : ¬ (nv : Int) = 1 := by omega
 have f3 : IntKind.i64.wrap ((nv : Int) - 1) = (M : Int) := by rw [show (nv : Int) - 1 = (M : Int) from by omega]; exact IntWalk.i64_in _ (by omega)
 have f4 : (M : Int).toNat = M := by omega
 have f5 : (M : Int) < (nv : Int) := by omega
 have f6 : IntKind.u64.wrap ((t : Int) + 1) = (t : Int) + 1 := IntWalk.u64_in _ (by simp only [B] at htB; omega)
 have f7 : (((t : Int) + 1) == 0) = false := by rw [beq_eq_false_iff_ne]; omega
 have f8 : IntKind.u64.wrap ((1000000000 : Int).tdiv ((t : Int) + 1)) = (s : Int) := by
  rw [hs0] at hdv; simpa using hdv
 have f9 : (1000000000 : Int) / ((t : Int) + 1) = (s : Int) := by
  rw [<- hs0]; simp
 clear hs0 hdv hse hnv
 go_enter Tryz.func153, Tryz.ntmps153
 go_wp2_with fail
 refine HC.out.mono ?_
 rintro e w1 ⟨rfl, hb1⟩
 have c1 : w1.cell? ⟨b, off + M, none⟩ = some (.int .u64 (t : Nat)) := HCT.out w1 (HB.out.below hb1 (Nat.le_refl _))
 go_wp2_with fail
 have hz1 := hb1.size
 have hba := hb1.alloc hz1 (.cells #[.int .u64 (s : Nat)] 208)
 have hsb := Blk.new w1 208 #[.int .u64 (s : Nat)]
 have hzz : (w1.alloc (.cells #[.int .u64 (s : Nat)] 208)).heap.size = w1.heap.size + 1 := by simp
 refine (HTA.out _ w1.heap.size (HA.out.below hba (Nat.le_refl _)) (sc_cells hsb)).mono ?_
 rintro e w2 ⟨⟨u, rfl, hu⟩, hb2⟩
 rw [hzz] at hu hb2
 have hz2 := hb2.size
 rw [hzz] at hz2
 have hbw2 := hba.trans (hb2.mono (by omega))
 have hsc2 := hsb.below hb2 (by omega)
 obtain ⟨gu, cu, hue, hgu1, hgu2⟩ := hu.form (by omega)
 have hu0 := hu
 subst hue
 have HU := Lib.hid hu0; have HSC := Lib.hid hsc2; have HBW2 := Lib.hid hbw2
 clear hsb hu hu0 hsc2 hbw2 hba hb2 hb1 c1 hzz HTA HC HCT f3 f4 f5 f6 f7 f8 f9
 go_wp2_with fail
 refine (HTB.out w2 w1.heap.size (HB.out.below HBW2.out (Nat.le_refl _)) (sc_cells HSC.out)).mono ?_
 rintro e w3 ⟨⟨v, rfl, hv⟩, hb3⟩
 have hz3 := hb3.size
 obtain ⟨gv, cv, hve, hgv1, hgv2⟩ := hv.form (by omega)
 subst hve
 have hbw3 := HBW2.out.trans (hb3.mono (by omega))
 have hu3 := own_belowK HU.out hb3 (Nat.le_refl _)
 have hsc3 := HSC.out.below hb3 (by omega)
 obtain ⟨va', vc', hvv, hvc, -, -⟩ := own_cap hv
 simp only [Value.slice.injEq, true_and] at hvv
 obtain ⟨rfl, rfl⟩ := hvv
 have HU3 := Lib.hid hu3; have HSC3 := Lib.hid hsc3; have HVC := Lib.hid hvc; have HBW3 := Lib.hid hbw3
 clear hu3 hsc3 hvc hbw3 hv hb3 HU HSC HBW2 HTB
 go_wp2_with fail
 go_loopw [9] (fun u wr => ∃ (k gu cu : Nat), lu0 + k <= la + 1 /\ u = .slice (some ⟨gu, 0, none⟩) (lu0 + k) cu /\ gu ≠ gv /\ w1.heap.size + 1 <= gu /\ gv < wr.heap.size /\ wr.ownsRow (w1.heap.size + 1) 208 1 (.slice (some ⟨gu, 0, none⟩) (lu0 + k) cu) (lu0 + k) (dgs (dig (m * s) ++ List.replicate k 0)) /\ Cells wr (some ⟨gv, 0, none⟩) (dgs (dig (n * s))) /\ Blk wr w1.heap.size 208 #[.int .u64 (s : Nat)] /\ Below w.heap.size w wr) (fun u _ => la + 1 - lenV u)
 case atStart => exact ⟨0, gu, cu, by omega, rfl, by omega, by omega, hgv2, by simpa using HU3.out, HVC.out, HSC3.out, HBW3.out⟩
 case round =>
  clear HU3 HVC HSC3 HBW3
  obtain ⟨k, gu, cu, hk, rfl, huv, hgu, hgvl, hou, hcv, hsc, hbe⟩ := hrel
  have HOU := Lib.hid hou; have HCV := Lib.hid hcv; have HSC := Lib.hid hsc
  have hze := hbe.size
  have hBE := Lib.hid hbe
  clear hou hcv hsc hbe
  by_cases hlt : lu0 + k < la + 1
  · have i1 : ((lu0 + k : Nat) : Int) <= la := by omega
    have i2 : (lu0 : Int) + k <= la := by omega
    go_wp2_with (at_builtin; refine wpList_append_lies _ rfl _ _ _ rfl (w1.heap.size + 1) 208 i0 (.int .u64 0) 1 8 Tryz.underlying144 hi hy0 hy1 hy2 rfl (by decide) _ (lu0 + k) (dgs (dig (m * s) ++ List.replicate k 0)) rfl (HOU.out.alloc _) ⟨wr.heap.size, 0, none⟩ 1 1 [.int .u64 0] rfl rfl (news1 _ _ _) (by simp [Value.oneCell']) (by omega) (by unfold maxLen; omega) (by omega) (by simp; omega) (wr.heap.size + 1) (by simp) ?_)
    intro g1 cg1 w5 hown5 hgrow hat hlt1
    rw [rep_snoc] at hown5
    have hne : some gv ≠ Value.ownBlock (.slice (some ⟨gu, 0, none⟩) (lu0 + k) cu) := by simp [Value.ownBlock]; omega
    have hg1 : g1 ≠ gv := by
     rcases hat with h | h
     · simp [Value.ownBlock] at h; omega
     · omega
    have hal := (Below.refl wr.heap.size wr).alloc (Nat.le_refl _) (.cells #[.int .u64 0] 208)
    have hcv5 := (HCV.out.below hal (Nat.le_refl _)).grown hgrow (fun b off e _ hk => by simp at e; obtain ⟨rfl, -⟩ := e; exact hne hk)
    have hsc5 := (HSC.out.alloc (.cells #[.int .u64 0] 208)).kept hgrow (by simp [Value.ownBlock]; omega)
    have hbe5 := (hBE.out.alloc hze (.cells #[.int .u64 0] 208)).grown hgrow (by simp; omega) (fun j e => by simp [Value.ownBlock] at e; omega)
    have hz5 := hgrow.size
    simp only [World.size_alloc] at hz5
    have hgb := (hown5.lt g1 (by simp [Value.ownBlock])).1
    have HO5 := Lib.hid hown5; have HC5 := Lib.hid hcv5; have HS5 := Lib.hid hsc5; have HB5 := Lib.hid hbe5
    clear hown5 hcv5 hsc5 hbe5 hgrow hat hlt1 hal hne
    go_wp2
    go_roundw
    case rel => exact ⟨k + 1, g1, cg1, by omega, by rw [Nat.add_assoc], hg1, hgb, by omega, by rw [<- Nat.add_assoc]; exact HO5.out, HC5.out, HS5.out, HB5.out⟩
    case measure => simp [lenV]; omega
  · have hlk : lu0 + k = la + 1 := by omega
    have i1 : ¬ ((lu0 + k : Nat) : Int) <= la := by omega
    have i2 : ¬ (lu0 : Int) + k <= la := by omega
    have hMv := HNV.out
    obtain ⟨lq, hlq⟩ : ∃ lq, lq = la - M := ⟨_, rfl⟩
    obtain ⟨lu, hlu⟩ : ∃ lu, lu = lu0 + k := ⟨_, rfl⟩
    have hlun : lu = lq + nv := by omega
    obtain ⟨ud, hud⟩ : ∃ ud, ud = dig (m * s) ++ List.replicate k 0 := ⟨_, rfl⟩
    have hudl : ud.length = lu := by rw [hud, List.length_append, List.length_replicate, <- HLU0.out, hlu]
    have huds : Sm ud := by rw [hud]; exact sm_pad (sm_dig _) k
    have hudv : val ud = m * s := by rw [hud, val_pad, val_dig]
    have hst := HST.out ud lq (by omega) hudv (by omega)
    rw [<- hMv] at hst
    have HUDL := Lib.hid hudl; have HUDS := Lib.hid huds; have HUDV := Lib.hid hudv; have HSTR := Lib.hid hst
    rw [<- hud, <- hlu] at HOU
    rw [<- hlu] at i1 ⊢
    have j1 : IntKind.i64.wrap ((lu : Int) - nv) = (lq : Int) := by rw [show (lu : Int) - nv = (lq : Int) from by omega]; exact IntWalk.i64_in _ (by omega)
    have j2 : IntKind.i64.wrap ((lq : Int) - 1) = (lq : Int) - 1 := IntWalk.i64_in _ (by omega)
    have j3 : (0 : Int) <= lq := by omega
    have hlqb : lq <= 17592186044415 := by omega
    have hlub : lu <= 17592186044416 := by omega
    have HLUN := Lib.hid hlun
    have hgvn : w1.heap.size + 1 <= gv := by omega
    have hw1r : w1.heap.size + 1 <= wr.heap.size := by omega
    have hgul := (HOU.out.lt gu (by simp [Value.ownBlock])).2
    clear hud hudl huds hudv hst i2 hlu hlk hlq hlun hMv hk HST
    go_wp2_with (at_make; refine wpList_make_full _ rfl _ _ 144 rfl (w1.heap.size + 1) 208 i0 (.int .u64 0) 1 Tryz.underlying144 hi hy0 hy1 .i64 .i64 _ _ lq rfl rfl (by omega) (by omega) (by rw [hy2]; omega) (by unfold maxLen; omega) hw1r ?_; intro w4 hown4 hgrow4)
    rw [zeros_dgs] at hown4
    have hou4 := HOU.out.kept hgrow4 (.inr (by simp [Value.ownBlock]))
    have hcv4 := HCV.out.grown hgrow4 (fun b off e _ hk => by cases hk)
    have hsc4 := HSC.out.kept hgrow4 (by simp)
    have hbe4 := hBE.out.grown hgrow4 hze (fun j e => by cases e)
    have hz4 := hgrow4.size
    have hR := Lib.hid (start_R (As := m * s) (Vn := n * s) (B0 := w1.heap.size + 1) (bv := gv) (w0 := w4) HUDL.out HUDS.out HLUN.out HUDV.out HSTR.out hou4 hown4 hcv4 (Below.refl _ _))
    have HSC4 := Lib.hid hsc4; have HBE4 := Lib.hid hbe4
    have HVD : Hid (val (dig (n * s)) = n * s) := Lib.hid (val_dig _)
    have HSD : Hid (Sm (dig (n * s))) := Lib.hid (sm_dig _)
    have htop2 : ∀ v, (dig (n * s))[nv - 1]? = some v -> 500000000 <= v := by
     have := HNV.out
     intro v hv
     exact HTOP.out v (by rw [show M = nv - 1 from by omega]; exact hv)
    have HTOP2 := Lib.hid htop2
    clear hown4 hou4 hcv4 hsc4 hbe4 hgrow4 HOU HCV HSC hBE HUDL HUDS HUDV HSTR htop2 HTOP
    go_wp2_with fail
    refine over_loop (m * s) (n * s) (w1.heap.size + 1) (dig (n * s)) gu lu cu gv nv cv wr.heap.size lq w4 _ _ _ _ _ _ _ _ _ _ _ _ _ _ _ _ _ _ _ _ _ _ _ _ _ _ _ _ _ _ _ _ _ _ _ _ _ _ _ _ _ _ _ _ _ _ _ _ _ _ _ _ _ _ _ _ _ _ _ _ _ _ _ _ _ _ _ _ _ _ _ _ _ _ _ _ _ _ _ _ _ _ _ _ _ _ _ _ _ _ _ _ _ _ _ _ _ _ _ _ _ _ _ _ _ _ _ _ _ _ _ _ _ _ _ _ _ _ _ _ _ _ _ _ _ _ _ _ _ _ _ _ _ _ _ _ _ _ _ _ _ _ _ _ _ _ _ _ _ _ _ _ _ _ _ _ _ _ _ _ _ _ _ _ _ _ _ _ _ _ _ _ _ _ _ _ _ _ _ _ _ _ _ _ _ _ _ _ _ _ _ _ _ _ _ _ _ _ _ _ _ _ _ _ _ _ _ _ _ _ _ _ _ _ _ _ _ _ _ _ _ _ _ _ _ _ _ _ _ _ _ _ _ _ _ _ _ _ _ _ _ _ _ _ _ _ _ _ _ _ _ _ _ _ _ _ _ _ _ _ _ _ _ _ _ _ _ _ _ _ _ _ _ _ _ _ _ _ _ _ HVL HSD HVD hlb2 HLUN.out hlub (fun h => huv h.symm) (by omega) (by omega) (by omega) hgu hw1r hgvn HTOP2 (by exact hR) ?_
    intro a' w5 hx
    unfold LoopX at hx
    obtain ⟨hR5, hx⟩ := hx
    obtain ⟨v13, hx⟩ := hx
    obtain ⟨v14, hx⟩ := hx
    obtain ⟨v15, hx⟩ := hx
    obtain ⟨v16, hx⟩ := hx
    obtain ⟨v17, hx⟩ := hx
    obtain ⟨v18, hx⟩ := hx
    obtain ⟨v19, hx⟩ := hx
    obtain ⟨v20, hx⟩ := hx
    obtain ⟨v21, hx⟩ := hx
    obtain ⟨v22, hx⟩ := hx
    obtain ⟨v23, hx⟩ := hx
    obtain ⟨v80, hx⟩ := hx
    obtain ⟨v81, hx⟩ := hx
    obtain ⟨v82, hx⟩ := hx
    obtain ⟨v83, hx⟩ := hx
    obtain ⟨v84, hx⟩ := hx
    obtain ⟨v85, hx⟩ := hx
    obtain ⟨v86, hx⟩ := hx
    obtain ⟨v87, hx⟩ := hx
    obtain ⟨v88, hx⟩ := hx
    obtain ⟨v89, hx⟩ := hx
    obtain ⟨v90, hx⟩ := hx
    obtain ⟨v91, hx⟩ := hx
    obtain ⟨v92, hx⟩ := hx
    obtain ⟨v93, hx⟩ := hx
    obtain ⟨v94, hx⟩ := hx
    obtain ⟨v95, hx⟩ := hx
    obtain ⟨v96, hx⟩ := hx
    obtain ⟨v97, hx⟩ := hx
    obtain ⟨v98, hx⟩ := hx
    obtain ⟨v99, hx⟩ := hx
    obtain ⟨v100, hx⟩ := hx
    obtain ⟨v101, hx⟩ := hx
    obtain ⟨v102, hx⟩ := hx
    obtain ⟨v103, hx⟩ := hx
    obtain ⟨v104, hx⟩ := hx
    obtain ⟨v105, hx⟩ := hx
    obtain ⟨v106, hx⟩ := hx
    obtain ⟨v107, hx⟩ := hx
    obtain ⟨v108, hx⟩ := hx
    obtain ⟨v109, hx⟩ := hx
    obtain ⟨v110, hx⟩ := hx
    obtain ⟨v111, hx⟩ := hx
    obtain ⟨v112, hx⟩ := hx
    obtain ⟨v113, hx⟩ := hx
    obtain ⟨v114, hx⟩ := hx
    obtain ⟨v115, hx⟩ := hx
    obtain ⟨v116, hx⟩ := hx
    obtain ⟨v117, hx⟩ := hx
    obtain ⟨v118, hx⟩ := hx
    obtain ⟨v119, hx⟩ := hx
    obtain ⟨v120, hx⟩ := hx
    obtain ⟨v121, hx⟩ := hx
    obtain ⟨v122, hx⟩ := hx
    obtain ⟨v123, hx⟩ := hx
    obtain ⟨v124, hx⟩ := hx
    obtain ⟨v125, hx⟩ := hx
    obtain ⟨v126, hx⟩ := hx
    obtain ⟨v127, hx⟩ := hx
    obtain ⟨v128, hx⟩ := hx
    obtain ⟨v129, hx⟩ := hx
    obtain ⟨v130, hx⟩ := hx
    obtain ⟨v131, hx⟩ := hx
    obtain ⟨v132, hx⟩ := hx
    obtain ⟨v133, hx⟩ := hx
    obtain ⟨v134, hx⟩ := hx
    obtain ⟨v135, hx⟩ := hx
    obtain ⟨v136, hx⟩ := hx
    obtain ⟨v137, hx⟩ := hx
    obtain ⟨v138, hx⟩ := hx
    obtain ⟨v139, hx⟩ := hx
    obtain ⟨v140, hx⟩ := hx
    obtain ⟨v141, hx⟩ := hx
    obtain ⟨v142, hx⟩ := hx
    obtain ⟨v143, hx⟩ := hx
    obtain ⟨v144, hx⟩ := hx
    obtain ⟨v145, hx⟩ := hx
    obtain ⟨v146, hx⟩ := hx
    obtain ⟨v147, hx⟩ := hx
    obtain ⟨v148, hx⟩ := hx
    obtain ⟨v149, hx⟩ := hx
    obtain ⟨v150, hx⟩ := hx
    obtain ⟨v151, hx⟩ := hx
    obtain ⟨v152, hx⟩ := hx
    obtain ⟨v153, hx⟩ := hx
    obtain ⟨v154, hx⟩ := hx
    obtain ⟨v155, hx⟩ := hx
    obtain ⟨v156, hx⟩ := hx
    obtain ⟨v157, hx⟩ := hx
    obtain ⟨v158, hx⟩ := hx
    obtain ⟨v159, hx⟩ := hx
    obtain ⟨v160, hx⟩ := hx
    obtain ⟨v161, hx⟩ := hx
    obtain ⟨v162, hx⟩ := hx
    obtain ⟨v163, hx⟩ := hx
    obtain ⟨v164, hx⟩ := hx
    obtain ⟨v165, hx⟩ := hx
    obtain ⟨v166, hx⟩ := hx
    obtain ⟨v167, hx⟩ := hx
    obtain ⟨v168, hx⟩ := hx
    obtain ⟨v169, hx⟩ := hx
    obtain ⟨v170, hx⟩ := hx
    obtain ⟨v171, hx⟩ := hx
    obtain ⟨v172, hx⟩ := hx
    obtain ⟨v173, hx⟩ := hx
    obtain ⟨v174, hx⟩ := hx
    obtain ⟨v175, hx⟩ := hx
    obtain ⟨v176, hx⟩ := hx
    obtain ⟨v177, hx⟩ := hx
    obtain ⟨v178, hx⟩ := hx
    obtain ⟨v179, hx⟩ := hx
    obtain ⟨v180, hx⟩ := hx
    obtain ⟨v181, hx⟩ := hx
    obtain ⟨v182, hx⟩ := hx
    obtain ⟨v183, hx⟩ := hx
    obtain ⟨v184, hx⟩ := hx
    obtain ⟨v185, hx⟩ := hx
    obtain ⟨v186, hx⟩ := hx
    obtain ⟨v187, hx⟩ := hx
    obtain ⟨v188, hx⟩ := hx
    obtain ⟨v189, hx⟩ := hx
    obtain ⟨v190, hx⟩ := hx
    obtain ⟨v191, hx⟩ := hx
    obtain ⟨v192, hx⟩ := hx
    obtain ⟨v193, hx⟩ := hx
    obtain ⟨v194, hx⟩ := hx
    obtain ⟨v195, hx⟩ := hx
    obtain ⟨v196, hx⟩ := hx
    obtain ⟨v197, hx⟩ := hx
    obtain ⟨v198, hx⟩ := hx
    obtain ⟨v199, hx⟩ := hx
    obtain ⟨v200, hx⟩ := hx
    obtain ⟨v201, hx⟩ := hx
    obtain ⟨v202, hx⟩ := hx
    obtain ⟨v203, hx⟩ := hx
    obtain ⟨v204, hx⟩ := hx
    obtain ⟨v205, hx⟩ := hx
    obtain ⟨v206, hx⟩ := hx
    obtain ⟨v207, hx⟩ := hx
    obtain ⟨v208, hx⟩ := hx
    obtain ⟨v209, hx⟩ := hx
    obtain ⟨v210, hx⟩ := hx
    obtain ⟨v211, hx⟩ := hx
    obtain ⟨v212, hx⟩ := hx
    obtain ⟨v213, hx⟩ := hx
    obtain ⟨v214, hx⟩ := hx
    obtain ⟨v215, hx⟩ := hx
    obtain ⟨v216, hx⟩ := hx
    obtain ⟨v217, hx⟩ := hx
    obtain ⟨v218, hx⟩ := hx
    obtain ⟨v219, hx⟩ := hx
    obtain ⟨v220, hx⟩ := hx
    obtain ⟨v221, hx⟩ := hx
    obtain ⟨v222, hx⟩ := hx
    obtain ⟨v223, hx⟩ := hx
    obtain ⟨v224, hx⟩ := hx
    obtain ⟨v225, hx⟩ := hx
    obtain ⟨v226, hx⟩ := hx
    obtain ⟨v227, hx⟩ := hx
    obtain ⟨v228, hx⟩ := hx
    obtain ⟨v229, hx⟩ := hx
    obtain ⟨v230, hx⟩ := hx
    obtain ⟨v231, hx⟩ := hx
    obtain ⟨v232, hx⟩ := hx
    obtain ⟨v233, hx⟩ := hx
    obtain ⟨v234, hx⟩ := hx
    obtain ⟨v235, hx⟩ := hx
    obtain ⟨v236, hx⟩ := hx
    obtain ⟨v237, hx⟩ := hx
    obtain ⟨v238, hx⟩ := hx
    obtain ⟨v239, hx⟩ := hx
    obtain ⟨v240, hx⟩ := hx
    obtain ⟨v241, hx⟩ := hx
    obtain ⟨v242, hx⟩ := hx
    obtain ⟨v243, hx⟩ := hx
    obtain ⟨v244, hx⟩ := hx
    obtain ⟨v245, hx⟩ := hx
    obtain ⟨v246, hx⟩ := hx
    obtain ⟨v247, hx⟩ := hx
    obtain ⟨v248, hx⟩ := hx
    obtain ⟨v249, hx⟩ := hx
    obtain ⟨v250, hx⟩ := hx
    obtain ⟨v251, hx⟩ := hx
    obtain ⟨v252, hx⟩ := hx
    obtain ⟨v253, hx⟩ := hx
    obtain ⟨v254, hx⟩ := hx
    obtain ⟨v255, hx⟩ := hx
    obtain ⟨v256, hx⟩ := hx
    obtain ⟨v257, hx⟩ := hx
    obtain ⟨v258, hx⟩ := hx
    obtain ⟨v259, hx⟩ := hx
    obtain ⟨v260, hx⟩ := hx
    obtain ⟨v261, hx⟩ := hx
    obtain ⟨v262, hx⟩ := hx
    obtain ⟨v263, hx⟩ := hx
    obtain ⟨v264, hx⟩ := hx
    obtain ⟨v265, hx⟩ := hx
    obtain ⟨v266, hx⟩ := hx
    obtain ⟨v267, hx⟩ := hx
    obtain ⟨v268, hx⟩ := hx
    obtain ⟨v269, hx⟩ := hx
    obtain ⟨v270, hx⟩ := hx
    subst hx
    clear hR
    obtain ⟨ud, qs, h51, h52, h53, h54, h55, h56, h57, h58, h59⟩ := end_R HLUN.out hR5
    obtain ⟨hq, hr⟩ := HEND.out (val ud) (val qs) h55 h56
    have hsc5 := HSC4.out.below h59 (by omega)
    have c5 := hsc5.c0
    have hbe5 := HBE4.out.trans (h59.mono (by omega))
    have hz5 := h59.size
    obtain ⟨xa, xc, hxe, hxc, hxn, hxm⟩ := own_cap h57
    simp only [Value.slice.injEq, true_and] at hxe
    obtain ⟨rfl, rfl⟩ := hxe
    obtain ⟨ya, yc, hye, hyc, hyn, hym⟩ := own_cap h58
    simp only [Value.slice.injEq, true_and] at hye
    obtain ⟨rfl, rfl⟩ := hye
    have hmx : maxLen = 9223372036854775807 := rfl
    rw [hmx] at hxm hym
    have hle := fun (W : World) (h : Cells W (some ⟨gu, 0, none⟩) (dgs ud)) => lean_any _ ud cu W h h52 (by omega) (by omega) hxm
    simp only [h51] at hle
    have HXC := Lib.hid hxc
    have hdl : (dig (val ud)).length <= 17592186044416 := by
     have h1 := val_lt h52
     have := dig_len_lt h1
     omega
    have hsB2 : s <= 1000000000 := by simp only [B] at hsB; omega
    have hsh := fun (W : World) (h : Cells W (some ⟨gu, 0, none⟩) (dgs (dig (val ud)))) => short_any (some ⟨gu, 0, none⟩) (dig (val ud)) cu s W h (sm_dig _) hdl hs1 hsB2
    simp only [val_dig] at hsh
    have hlo := fun (W : World) (h : Cells W (some ⟨wr.heap.size, 0, none⟩) (dgs qs)) => lean_any _ qs lq W h h54 (by omega) (by omega) (by omega)
    simp only [h53] at hlo
    have hql : (dig (val qs)).length <= lq := by
     have h1 := val_lt h54
     rw [h53] at h1
     exact dig_len_lt h1
    have HLE := Lib.hid hle; have HSH := Lib.hid hsh; have HLO := Lib.hid hlo; have HYC := Lib.hid hyc; have HQ := Lib.hid hq; have HR := Lib.hid hr; have HB5 := Lib.hid hbe5
    clear hle hsh hlo hyc hxc hq hr hbe5 h51 h52 h54 h55 h56 h57 h58 h59 hsc5 hR5 hmx
    go_wp2_with fail
    go_region_held3 (fun w' => w'.cell? ⟨w1.heap.size, 0, none⟩ = some (.int .u64 (s : Nat)))
     (first | exact c5 | exact cell_keep c5 hb7 (Nat.le_refl _) | go_keep)
     (first
      | (go_at_call 222; refine (HLE.out w5.drew HXC.out).mono ?_; rintro e w6 ⟨⟨rfl, hcl⟩, rfl⟩; have HCL := Lib.hid hcl; clear hcl)
      | (go_at_call 220; refine (HSH.out _ HCL.out).mono ?_; rintro e w7 ⟨⟨a7, c7, rfl, h71, h72, h73⟩, hb7⟩; have hb7 : Below w5.heap.size w5 w7 := ((Below.refl w5.heap.size w5).drew).trans hb7; have H71 := Lib.hid h71; have HB7 := Lib.hid hb7; clear h71))
    have hb7z := HB5.out.size
    clear hb7
    go_wp2_with fail
    refine (HLO.out w7 (HYC.out.below HB7.out (Nat.le_refl _))).mono ?_
    rintro e w8 ⟨⟨rfl, hcq⟩, rfl⟩
    have HCQ := Lib.hid hcq; clear hcq
    go_wp2
    go_ret2
    exact ⟨⟨_, _, rfl, by rw [<- HQ.out]; exact ⟨_, _, rfl, HCQ.out, hql, by omega⟩, by rw [<- HR.out]; exact ⟨_, _, rfl, H71.out, h72, by omega⟩⟩, HB5.out.trans (HB7.out.mono hb7z)⟩
theorem overOK_all (K : Nat) : OverOK K := fun va vb m n w ha hb hm hn h0 _ => by
 by_cases hlt : m < n
 · exact over_less va vb m n w ha hb (by omega) (by omega) hlt
 · by_cases hB : n < B
   · exact over_small va vb m n w ha hb (by omega) h0 (by simpa [B] using hB)
   · exact over_big va vb m n w ha hb hm (by omega) (by omega)
end Go.Proofs.YtdpjdifoonfcdaaGreatDoor

namespace Go.Proofs.YtdpjdifoonfcdaaGreatDoor
open Go.RowKit
def outs (xs ds : List Int) (L n : Nat) : List Int := (List.range n).map fun t => dotTo xs ds t 0 L
theorem outs_length (xs ds : List Int) (L n : Nat) : (outs xs ds L n).length = n := by simp [outs]
theorem outs_succ (xs ds : List Int) (L n : Nat) : outs xs ds L (n + 1) = outs xs ds L n ++ [dotTo xs ds n 0 L] := by simp [outs, List.range_succ]
def nOut (L n : Nat) : Nat := n + 1 - L
set_option maxRecDepth 100000 in
set_option maxHeartbeats 4000000 in
theorem outputs_any (L : Nat) (xs ds : List Int) (ao : Option Addr) (cap : Nat) (w : World) (hx : xs.length = 64) (hc : Cells w ao (ds.map (Value.int .i64))) (hL1 : 1 <= L) (hL : L <= 64) (hl : ds.length <= 512)
 (h1 : ∀ x ∈ xs, -127 <= x /\ x <= 127) (h2 : ∀ x ∈ ds, -32768 <= x /\ x <= 32768) :
 Calls Tryz.prog 80 #[.agg (shp L xs), .slice ao ds.length cap] w fun e w' => (∃ b c, e = .returned (.slice b (nOut L ds.length) c) /\ Cells w' b ((outs xs ds L (nOut L ds.length)).map (Value.int .i64))) /\ Below w.heap.size w w' := by
 have hout : ∀ (t : Nat) (wx : World), Below w.heap.size w wx -> t + L <= ds.length -> Calls Tryz.prog 68 #[.agg (shp L xs), .slice ao ds.length cap, .int .i64 t, .int .i64 0, .int .i64 L] wx fun e w' => e = .returned (.int .i64 (dotTo xs ds t 0 L)) /\ Below wx.heap.size wx w' :=
  fun t wx hb ht => output_any L xs ds ao cap t 0 L wx hx (hc.below hb (Nat.le_refl _)) (Nat.zero_le _) hL ht hl h1 h2
 have hbd : ∀ t, -(4161536 * (L : Int)) <= dotTo xs ds t 0 L /\ dotTo xs ds t 0 L <= 4161536 * (L : Int) := fun t => dotTo_bd h1 h2 t 0 L
 have hi : (Tryz.prog.info? 129).map (·.size) = some (shp L xs).size := by rw [shp_size, hx]; kernel_rfl
 have hv0 : (shp L xs)[0]? = some (.int .i64 L) := shp_zero _ _
 generalize shp L xs = V at hout hi hv0
 have HO := Lib.hid hout; clear hout
 have HI := Lib.hid hi; clear hi
 have HBD := Lib.hid hbd; clear hbd
 have H0 := Lib.hid hv0; clear hv0
 obtain ⟨i0, hi, hz0, hz1, hz2⟩ := info_parts Tryz.infoInt
 have HN : Hid (nOut L ds.length = ds.length + 1 - L) := rfl
 have HS := Lib.hid (outs_succ xs ds L)
 clear h1 h2 hc
 go_enter Tryz.func80, Tryz.ntmps80
 go_wp2
 go_loopw [5, 6] (fun v i wr => ∃ k : Nat, k <= nOut L ds.length /\ i = .int .i64 k /\ wr.ownsRow (w.heap.size + 1) 3 1 v k ((outs xs ds L k).map (Value.int .i64)) /\ Below (w.heap.size + 1) (w.alloc (.cells V 129)) wr) (fun _ i _ => nOut L ds.length - (intOf i).toNat)
 case atStart => exact ⟨0, Nat.zero_le _, rfl, World.ownsRow_nil _ _ _ _, Below.refl _ _⟩
 case round =>
  obtain ⟨k, hk, rfl, hown, hbe⟩ := hrel
  have hbw : Below w.heap.size w wr := ((Below.refl _ _).alloc (Nat.le_refl _) _).trans (hbe.mono (by omega))
  have hc0 : wr.cell? ⟨w.heap.size, 0, none⟩ = some (.int .i64 L) := (box_keep hbe (by simp) 0).trans H0.out
  have hrow : wr.heap[w.heap.size]? = some (.cells V 129 (0, 0)) := (hbe.block _ (by omega)).trans (heap_alloc_new _ _)
  have HROW := Lib.hid hrow; clear hrow
  have hsz : w.heap.size + 1 <= wr.heap.size := by have := hbe.size; simpa using this
  have HNN := HN.out
  by_cases hlt : k + L <= ds.length
  · have bd := HBD.out k
    have HOB : Hid (∀ j, u5.ownBlock = some j -> w.heap.size + 1 <= j) := fun j e => (hown.lt j e).1
    clear HNN
    go_wp2_with (first
     | (refine wpList_load_row (by rfl) 129 _ (by rfl) w.heap.size (by rfl) _ V _ _ HROW.out Tryz.underlying129 (by rfl) HI.out ?_)
     | (go_at_call 68; refine (HO.out k _ hbw hlt).mono ?_; rintro e w1 ⟨rfl, hb1⟩)
     | (at_builtin; refine wpList_append_own _ rfl _ _ 24 rfl (w.heap.size + 1) 3 i0 (.int .i64 0) 1 8 Tryz.underlying24 hi hz0 hz1 hz2 rfl (by decide) _ _ _ rfl ((own_belowK hown hb1 (Nat.le_refl _)).alloc _) ⟨w1.heap.size, 0, none⟩ 1 1 [.int .i64 (dotTo xs ds k 0 L)] rfl rfl (news1 _ _ _) (by simp [Value.oneCell']) (by unfold maxLen; omega) (by omega) (by have := hb1.size; simp; omega) ?_; intro v1 wz hown1 hgrow _))
    have hfin := hown1
    rw [show (outs xs ds L k).map (Value.int .i64) ++ [.int .i64 (dotTo xs ds k 0 L)] = (outs xs ds L (k + 1)).map (Value.int .i64) from by rw [HS.out, List.map_append]; rfl] at hfin
    have hs1 := hb1.size
    have hbz := ((hbe.trans (hb1.mono hsz)).alloc (by omega) (.cells #[.int .i64 (dotTo xs ds k 0 L)] 3)).grown hgrow (by simp; omega) HOB.out
    clear hown1 hgrow hown
    have HFIN := Lib.hid hfin; clear hfin
    go_roundw
    case rel => exact ⟨k + 1, by have := HN.out; omega, by go_num, HFIN.out, hbz⟩
    case measure => have := HN.out; simp [intOf]; omega
  · have e : k = nOut L ds.length := by omega
    have hk2 : k <= 512 := by omega
    obtain ⟨g, c, rfl, hcs⟩ := own_cells hown
    have HCS := Lib.hid hcs; clear hcs hown HNN
    have E := Lib.hid e; clear e
    go_wp2
    go_ret
    rw [<- E.out]
    exact ⟨⟨g, c, rfl, HCS.out⟩, hbw⟩
def dataOK (ds : List Int) : Bool := decide (ds.length <= 512) && ds.all (fun n => inB (-32768) n 32768)
theorem dataOK1_any (n : Int) (w : World) :
 Calls Tryz.prog 137 #[.int .i64 n] w fun e w' => e = .returned (.bool (!inB (-32768) n 32768)) /\ w = w' := by
 go_enter Tryz.func137, Tryz.ntmps137
 go_wp2_with (go_at_call 66; refine (bwithin_any _ _ _ _).mono ?_; rintro e w' ⟨rfl, rfl⟩)
 go_ret
 exact ⟨rfl, rfl⟩
theorem dataOK_any (ao : Option Addr) (xs : List Int) (cap : Nat) (w : World) (hc : Cells w ao (xs.map (Value.int .i64))) (hl : xs.length <= 9223372036854775807) :
 Calls Tryz.prog 65 #[.slice ao xs.length cap] w fun e w' => e = .returned (.bool (dataOK xs)) /\ Below w.heap.size w w' := by
 have HC := Lib.hid hc; clear hc
 by_cases h : xs.length <= 512
 · go_enter Tryz.func65, Tryz.ntmps65
   go_wp2_with fail
   refine (containsFunc_ints 137 #[] (fun n => !inB (-32768) n 32768) ao xs cap w HC.out hl (fun _ _ => by kernel_rfl) (fun x wx _ _ => (dataOK1_any x wx).mono fun e w' h => ⟨h.1, h.2 ▸ Below.refl _ _⟩)).mono ?_
   rintro e w1 ⟨rfl, hb⟩
   go_wp2
   go_ret
   exact ⟨ret_bool (by simp [dataOK, h, List.all_eq_not_any_not]), hb⟩
 · go_enter Tryz.func65, Tryz.ntmps65
   go_wp2
   go_ret
   exact ⟨ret_bool (by simp [dataOK]; omega), Below.refl _ _⟩
def filE (L p q : Int) (ds : List Int) : Int := if waveOK L p q then (if dataOK ds then 0 else 73) else 70
def filR (L p q : Int) (ds : List Int) : List Int := if filE L p q ds = 0 then outs (wav L p q) ds L.toNat (nOut L.toNat ds.length) else []
theorem wav_length (L p q : Int) : (wav L p q).length = 64 := smp_length _ _ _
theorem wav_bd (L p q : Int) : ∀ x ∈ wav L p q, -127 <= x /\ x <= 127 := by
 intro x hx
 simp only [wav, smp, List.mem_map] at hx
 obtain ⟨t, _, rfl⟩ := hx
 split
 · exact tab_bd _
 · omega
theorem dataOK_true {ds : List Int} (h : dataOK ds = true) : ds.length <= 512 /\ ∀ x ∈ ds, -32768 <= x /\ x <= 32768 := by
 simpa [dataOK, inB] using h
theorem waveOK_true {L p q : Int} (h : waveOK L p q = true) : 4 <= L /\ L <= 64 /\ 0 <= p /\ p <= 63 /\ 0 <= q /\ q <= 63 := by
 simp only [waveOK, inB, Bool.and_eq_true, decide_eq_true_eq] at h
 omega
theorem waveV_size (L p q : Int) : (waveV L p q).size = 65 := by
 unfold waveV
 split
 · rw [shp_size, wav_length]
 · rw [shp_size, smp_length]
theorem waveV_one (L p q : Int) : ∀ v ∈ (waveV L p q).toList, v.oneCell' = true := by
 unfold waveV
 split <;> exact shp_mem
set_option maxRecDepth 100000 in
set_option maxHeartbeats 4000000 in
theorem filter_any (L p q : Int) (ao : Option Addr) (ds : List Int) (cap : Nat) (w : World) (hc : Cells w ao (ds.map (Value.int .i64))) (hl : ds.length <= 9223372036854775807) :
 Calls Tryz.prog 23 #[.int .i64 L, .agg #[.int .i64 p, .int .i64 q], .slice ao ds.length cap] w fun e w' => (∃ b c, e = .returned (.tuple #[.slice b (filR L p q ds).length c, .int .i64 (filE L p q ds)]) /\ Cells w' b ((filR L p q ds).map (Value.int .i64))) /\ Below w.heap.size w w' := by
 have HC := Lib.hid hc; clear hc
 obtain ⟨Z, hZ⟩ : ∃ Z, Z = shp 0 (smp 0 0 0) := ⟨_, rfl⟩
 have z : Tryz.zeroCells129 = Z := by rw [hZ]; exact zero101
 have hZs : Z.size = 65 := by rw [hZ, shp_size, smp_length]
 have hw := fun w => wave_any L p q w
 have hVs := waveV_size L p q
 have hV1 := waveV_one L p q
 have hVe : waveOK L p q = true -> waveV L p q = shp L (wav L p q) := fun h => by simp [waveV, h]
 generalize waveV L p q = V at hw hVs hV1 hVe
 have hne : ¬ V = #[] := by intro h; rw [h] at hVs; simp at hVs
 have hst : ∀ wx : World, (storeCells ⟨wx.heap.size, 0, none⟩ V.toList 0).run Tryz.prog (wx.alloc (.cells Z 129)) = .ok () (wx.alloc (.cells V 129)) := fun wx => by
  rw [run_storeCells_row _ _ 129 Z _ (heap_alloc_new _ _) (by rw [hZs, Array.length_toList, hVs]) hV1, Array.toArray_toList]
  congr 1
  exact World.setRow_alloc_new _ _ _ _
 have hi : (Tryz.prog.info? 129).map (·.size) = some V.size := by rw [hVs]; kernel_rfl
 have HI := Lib.hid hi; clear hi
 have HW := Lib.hid hw; clear hw
 have HVE := Lib.hid hVe; clear hVe
 have HV1 := Lib.hid hV1; clear hV1
 clear hZ
 cases h1 : waveOK L p q
 · have he : filE L p q ds = 70 := by simp [filE, h1]
   have hr : filR L p q ds = [] := by simp [filR, he]
   have HE := Lib.hid he; clear he
   have HR := Lib.hid hr; clear hr
   have H1 := Lib.hid h1; clear h1
   go_enter Tryz.func23, Tryz.ntmps23
   go_wp2_with (go_at_call 63; refine (HW.out _).mono ?_; rintro e w1 ⟨rfl, hb1⟩; rw [H1.out])
   go_ret2
   exact ⟨⟨none, 0, by rw [HE.out, HR.out]; rfl, by rw [HR.out]; exact Cells.nil _ _⟩, (((Below.refl _ _).alloc (Nat.le_refl _) _).trans (hb1.mono (by simp))).alloc (by have := hb1.size; simp at this; omega) _⟩
 · have hv := waveOK_true h1
   have hVe := HVE.out h1
   cases h2 : dataOK ds
   · have he : filE L p q ds = 73 := by simp [filE, h1, h2]
     have hr : filR L p q ds = [] := by simp [filR, he]
     have HE := Lib.hid he; clear he
     have HR := Lib.hid hr; clear hr
     have H1 := Lib.hid h1; clear h1
     have H2 := Lib.hid h2; clear h2
     have HVE2 := Lib.hid hVe; clear hVe
     go_enter Tryz.func23, Tryz.ntmps23
     go_wp2_with (first
      | (go_at_call 63; refine (HW.out _).mono ?_; rintro e w1 ⟨rfl, hb1⟩; rw [H1.out])
      | (go_at_call 65; refine (dataOK_any ao ds cap _ (HC.out.below ((((Below.refl _ _).alloc (Nat.le_refl _) _).trans (hb1.mono (by simp))).alloc (by have := hb1.size; simp at this; omega) _) (Nat.le_refl _)) hl).mono ?_; rintro e w2 ⟨rfl, hb2⟩; rw [H2.out]))
     go_ret2
     have hb3 : Below w.heap.size w w2 := ((((Below.refl _ _).alloc (Nat.le_refl _) _).trans (hb1.mono (by simp))).alloc (by have := hb1.size; simp at this; omega) _).trans (hb2.mono (by have := hb1.size; simp at this ⊢; omega))
     exact ⟨⟨none, 0, by rw [HE.out, HR.out]; rfl, by rw [HR.out]; exact Cells.nil _ _⟩, hb3⟩
   · have hd := dataOK_true h2
     have he : filE L p q ds = 0 := by simp [filE, h1, h2]
     have hr : filR L p q ds = outs (wav L p q) ds L.toNat (nOut L.toNat ds.length) := by simp [filR, he]
     have hou : ∀ wx : World, Cells wx ao (ds.map (Value.int .i64)) -> Calls Tryz.prog 80 #[.agg V, .slice ao ds.length cap] wx fun e w' => (∃ b c, e = .returned (.slice b (filR L p q ds).length c) /\ Cells w' b ((filR L p q ds).map (Value.int .i64))) /\ Below wx.heap.size wx w' := fun wx hcx => by
      have := outputs_any L.toNat (wav L p q) ds ao cap wx (wav_length _ _ _) hcx (by omega) (by omega) hd.1 (wav_bd _ _ _) hd.2
      rw [hr, outs_length, hVe]
      rwa [show ((L.toNat : Nat) : Int) = L by omega] at this
     have HOU := Lib.hid hou; clear hou
     have HE := Lib.hid he; clear he
     have HR := Lib.hid hr; clear hr
     have H1 := Lib.hid h1; clear h1
     have H2 := Lib.hid h2; clear h2
     have HVE2 := Lib.hid hVe; clear hVe
     go_enter Tryz.func23, Tryz.ntmps23
     go_wp2_with (first
      | (go_at_call 63; refine (HW.out _).mono ?_; rintro e w1 ⟨rfl, hb1⟩; rw [H1.out])
      | (go_at_call 65; have hbb : Below w.heap.size w (w1.alloc (.cells V 129)) := (((Below.refl _ _).alloc (Nat.le_refl _) _).trans (hb1.mono (by simp))).alloc (by have := hb1.size; simp at this; omega) _; refine (dataOK_any ao ds cap _ (HC.out.below hbb (Nat.le_refl _)) hl).mono ?_; rintro e w2 ⟨rfl, hb2⟩; rw [H2.out]; have hb3 : Below w.heap.size w w2 := hbb.trans (hb2.mono hbb.size); have hrow : w2.heap[w1.heap.size]? = some (.cells V 129 (0, 0)) := (hb2.block _ (by simp)).trans (heap_alloc_new _ _); have HROW := Lib.hid hrow; clear hrow)
      | (refine wpList_load_row (by rfl) 129 _ (by rfl) w1.heap.size (by rfl) _ V _ _ HROW.out Tryz.underlying129 (by rfl) HI.out ?_)
      | (go_at_call 80; refine (HOU.out _ (HC.out.below hb3 (Nat.le_refl _))).mono ?_; rintro e w3 ⟨⟨g, c, rfl, hcs⟩, hb4⟩; have HCS := Lib.hid hcs; clear hcs))
     go_ret2
     exact ⟨⟨g, c, by rw [HE.out]; rfl, HCS.out⟩, hb3.trans (hb4.mono hb3.size)⟩
end Go.Proofs.YtdpjdifoonfcdaaGreatDoor

namespace Go.Proofs.YtdpjdifoonfcdaaGreatDoor
open Go.RowKit
def ovTo (xs ys : List Int) (s a : Int) : Nat -> Int
 | 0 => 0
 | n + 1 => ovTo xs ys s a n + xs.getD (a + n).toNat 0 * ys.getD (a + n + s).toNat 0
def ovl (xs ys : List Int) (L s : Int) : Int := ovTo xs ys s (max 0 (-s)) (min L (L - s) - max 0 (-s)).toNat
theorem ov_prod {x y : Int} (h1 : -127 <= x) (h2 : x <= 127) (h3 : -127 <= y) (h4 : y <= 127) : -16129 <= x * y /\ x * y <= 16129 := by
 have ha : x.natAbs <= 127 := by omega
 have hx : y.natAbs <= 127 := by omega
 have h := Nat.mul_le_mul ha hx
 rw [<- Int.natAbs_mul] at h
 omega
theorem ovTo_bd {xs ys : List Int} (h1 : ∀ x ∈ xs, -127 <= x /\ x <= 127) (h2 : ∀ x ∈ ys, -127 <= x /\ x <= 127) (s a : Int) (n : Nat) : -(16129 * (n : Int)) <= ovTo xs ys s a n /\ ovTo xs ys s a n <= 16129 * (n : Int) := by
 induction n with
 | zero => simp [ovTo]
 | succ n ih =>
   have g1 := getD_in (by omega) h1 (a + n).toNat
   have g2 := getD_in (by omega) h2 (a + n + s).toNat
   have := ov_prod g1.1 g1.2 g2.1 g2.2
   simp only [ovTo]
   push_cast
   omega
set_option maxRecDepth 100000 in
set_option maxHeartbeats 4000000 in
theorem overlap_any (L L2 : Int) (xs ys : List Int) (s : Int) (w : World) (hx : xs.length = 64) (hy : ys.length = 64) (hL1 : 1 <= L) (hL : L <= 64) (hs1 : -1000 <= s) (hs2 : s <= 1000)
 (h1 : ∀ x ∈ xs, -127 <= x /\ x <= 127) (h2 : ∀ x ∈ ys, -127 <= x /\ x <= 127) :
 Calls Tryz.prog 94 #[.agg (shp L xs), .agg (shp L2 ys), .int .i64 s] w fun e w' => e = .returned (.int .i64 (ovl xs ys L s)) /\ Below w.heap.size w w' := by
 have hcell : ∀ i x, xs[i]? = some x -> (shp L xs)[1 + i]? = some (.int .i64 x) := shp_succ L xs
 have hcell2 : ∀ i x, ys[i]? = some x -> (shp L2 ys)[1 + i]? = some (.int .i64 x) := shp_succ L2 ys
 have h0 : (shp L xs)[0]? = some (.int .i64 L) := shp_zero _ _
 generalize shp L xs = V at hcell h0
 generalize shp L2 ys = V2 at hcell2
 have hab : ∃ a b : Int, a = max 0 (-s) /\ b = min L (L - s) := ⟨_, _, rfl, rfl⟩
 obtain ⟨a, b, ha, hb⟩ := hab
 have ho : ovl xs ys L s = ovTo xs ys s a (b - a).toNat := by rw [ha, hb]; rfl
 have HO := Lib.hid ho; clear ho
 have HX := Lib.hid hcell; clear hcell
 have HY := Lib.hid hcell2; clear hcell2
 have H0 := Lib.hid h0; clear h0
 have H1 := Lib.hid h1; clear h1
 have H2 := Lib.hid h2; clear h2
 have hcase : (0 <= s /\ a = 0 /\ b = L - s) ∨ (s < 0 /\ a = -s /\ b = L) := by omega
 clear ha hb
 rcases hcase with ⟨hs, ha, hb⟩ | ⟨hs, ha, hb⟩
 all_goals
  have HA := Lib.hid ha; have HB := Lib.hid hb; clear ha hb
  go_enter Tryz.func94, Tryz.ntmps94
  go_wp2
  go_loopw [7, 8] (fun v i wr => ∃ n : Nat, n <= (b - a).toNat /\ i = .int .i64 (a + n) /\ v = .int .i64 (ovTo xs ys s a n) /\ Below (w.heap.size + 2) ((w.alloc (.cells V 129)).alloc (.cells V2 129)) wr) (fun _ i _ => (b - intOf i).toNat)
  case atStart => exact ⟨0, Nat.zero_le _, by rw [HA.out]; simp, rfl, Below.refl _ _⟩
  case round =>
   obtain ⟨n, hn, rfl, rfl, hbe⟩ := hrel
   have hbw : Below w.heap.size w wr := (((Below.refl _ _).alloc (Nat.le_refl _) _).alloc (by simp) _).trans (hbe.mono (by omega))
   have hV : wr.heap[w.heap.size]? = some (.cells V 129 (0, 0)) := (hbe.block _ (by omega)).trans (heap_alloc2_old _ _ _)
   have hV2 : wr.heap[w.heap.size + 1]? = some (.cells V2 129 (0, 0)) := (hbe.block _ (by omega)).trans (heap_alloc2_new _ _ _)
   have hc0 : wr.cell? ⟨w.heap.size, 0, none⟩ = some (.int .i64 L) := (cell_of_row wr _ _ _ _ _ hV).trans H0.out
   have bd := ovTo_bd H1.out H2.out s a n
   have ha := HA.out
   have hb := HB.out
   by_cases hlt : a + n < b
   · obtain ⟨x, hxx⟩ := get_of_lt (show (a + n).toNat < xs.length by omega)
     obtain ⟨y, hyy⟩ := get_of_lt (show (a + n + s).toNat < ys.length by omega)
     have hcell1 := (cell_of_row wr _ _ _ _ _ hV).trans (HX.out _ _ hxx)
     have hcell2 := (cell_of_row wr _ _ _ _ _ hV2).trans (HY.out _ _ hyy)
     have m1 := H1.out x (List.mem_of_getElem? hxx)
     have m2 := H2.out y (List.mem_of_getElem? hyy)
     have pd := ov_prod m1.1 m1.2 m2.1 m2.2
     have e1 : ovTo xs ys s a (n + 1) = ovTo xs ys s a n + x * y := by simp [ovTo, hxx, hyy]
     have E1 := Lib.hid e1; clear e1
     have g1 : 0 <= a + n := by omega
     have g2 : a + n < L - s := by omega
     have g3 : a + n < L := by omega
     have g4 : 0 <= a + n + s := by omega
     have g5 : a + n + s < 64 := by omega
     have q1 : IntKind.i64.wrap (x * y) = x * y := IntWalk.i64_in _ (by omega)
     have gn : n <= 64 := by omega
     have E2 := Lib.hid (show a + ((n + 1 : Nat) : Int) = a + n + 1 by push_cast; omega)
     have E3 := Lib.hid (show n + 1 <= (b - a).toNat by omega)
     clear hxx hyy hV hV2
     clear ha hb
     generalize a + (n : Int) = m at *
     go_wp2
     all_goals
      have q2 : IntKind.i64.wrap (m + s) = m + s := IntWalk.i64_in _ (by omega)
      have q3 : m < 64 := by omega
      have q7 : IntKind.i64.wrap (ovTo xs ys s a n + x * y) = ovTo xs ys s a n + x * y := IntWalk.i64_in _ (by omega)
      go_quiet (fail)
      clear q1 q2 q3 q7
      go_wp2
      go_roundw
      case rel => exact ⟨n + 1, E3.out, by rw [E2.out], by rw [E1.out], bel_drewN hbe _⟩
      case measure => simp [intOf]; omega
   · have e : (b - a).toNat = n := by omega
     have E := Lib.hid e; clear e
     have g2 : ¬ (a + n < L - s /\ a + n < L) := by omega
     have g0 : -100000 <= a + n /\ a + n <= 100000 := by omega
     clear ha hb hn hlt
     generalize a + (n : Int) = m at *
     go_wp2
     all_goals
      go_ret
      exact ⟨by rw [HO.out, E.out]; rfl, hbw⟩
end Go.Proofs.YtdpjdifoonfcdaaGreatDoor
