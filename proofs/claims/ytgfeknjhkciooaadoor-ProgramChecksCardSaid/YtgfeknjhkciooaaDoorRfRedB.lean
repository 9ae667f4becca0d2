/-
  The reference's Reduce, cut: what is needed, which constants (statements 7 to 9). (Printed by wip/tools/refred.py.)
  The facts that the parts ahead leave.
-/
import Derived.Test.YtgfeknjhkciooaaDoorRfRedA
namespace Go.Proofs.YtgfeknjhkciooaaDoor
open Go.RowKit Go.Deep
set_option linter.unusedVariables false

set_option maxRecDepth 1000000 in
set_option maxHeartbeats 8000000 in
theorem rr_need (R : Code) (w w8 w5 : World) (NB : Nat) (gR N cv co cC : Nat) (c C : List Ins) (o vs : List Int) (av ao aC : Option Addr)
    (HRE : Hid (RE w.heap.size gR N c.length C o vs av ao aC cv co cC w8)) (HN0 : Hid (NR w8 NB (N + C.length) (nd0 vs []) w5)) (HOE : Hid (∀ k ∈ o, 0 ≤ k ∧ k < (N : Int) + c.length))
    (HFv : Hid (∀ k ∈ o, -2 ≤ vs.getD k.toNat 0 ∧ vs.getD k.toNat 0 < ((N + C.length : Nat) : Int))) (HCI : Hid (CInv N C))
    (hC1 : C.length ≤ cC) (hC2 : cC ≤ 9223372036854775807) (f2 : C.length ≤ c.length) (hvl : vs.length = N + c.length) (hN24 : N ≤ 24) (hc6 : c.length ≤ 65536) (ho6 : o.length ≤ 65536) (ho1 : o.length ≤ co) (ho2 : co ≤ 9223372036854775807)
    (h : ∀ (w9 : World) (v0 v5 v7 v8 v9 v13 v14 v15 v16 v17 v18 v19 v20 v21 v22 v23 v24 v25 v26 v27 v28 v29 v30 v31 v32 v33 v34 v35 v36 v37 v38 v39 v40 v41 v42 v43 v44 v45 v46 v47 v48 v49 v50 v51 v52 v53 v54 v55 v56 v57 v58 v59 v60 v61 v62 v63 v64 v65 v66 v67 v68 v69 v70 v71 v72 v73 v74 v75 v76 v77 v78 v79 v80 v81 v82 v83 v84 v85 v86 v87 v88 v89 v90 v91 v92 v93 v94 v95 v96 v97 v98 v99 v100 v101 v102 v103 v104 v105 v106 v107 v108 v109 v110 v111 v112 v113 v114 v115 v116 v117 v118 v119 v120 v121 v122 v123 v124 v125 v126 v127 v128 v129 v130 v131 v132 v133 v134 v135 v136 v137 v138 v139 v140 v141 v142 v143 v144 v145 v146 v147 v148 v149 v150 v151 v152 v153 v154 v155 v156 v157 v158 v159 v160 v161 v162 v163 v164 v165 v166 v167 v168 v169 v170 v171 v172 v173 v174 v175 v176 v177 v178 v179 v180 v181 v182 v183 v184 v185 v186 v187 v188 v189 v190 v191 v192 v193 v194 v195 v196 v197 v198 v199 v200 v201 v202 v203 v204 v205 v206 v207 v208 v209 v210 v211 v212 v213 v214 v215 v216 v217 v218 v219 v220 v221 v222 v223 v224 v225 v226 v227 v228 v229 v230 v231 v232 v233 v234 v235 v236 v237 v238 v239 v240 v241 v242 v243 v244 v245 v246 v247 v248 v249 v250 v251 v252 v253 v254 v255 v256 v257 v258 v259 v260 v261 v262 v263 v264 v265 v266 v267 v268 v269 v270 v271 v272 v273 v274 v275 v276 v277 v278 v279 v280 v281 v282 v283 v284 v285 v286 v287 v288 : Value), Hid (NR w8 NB (N + C.length) (ndAll N C vs o) w9) → Code.wp Tryd.prog R (bodyPost Tryd.prog Tryd.f15 (RPost N c o w)) ⟨#[v0, .pointer (some ⟨w.heap.size, 0, none⟩), .pointer (some ⟨w.heap.size + 1, 0, none⟩), .int .i64 0, .slice av (N + c.length) cv, v5, .pointer (some ⟨gR, 0, none⟩), v7, v8, v9, .slice (some ⟨NB, 0, none⟩) (N + C.length) (N + C.length), .bool (hasV vs o (-2)), .bool (hasV vs o (-1)), v13, v14, v15, v16, v17, v18, v19, v20, v21, v22, v23, v24, v25, v26, v27, v28, v29, v30, v31, v32, v33, v34, v35, v36, v37, v38, v39, v40, v41, v42, v43, v44, v45, v46, v47, v48, v49, v50, v51, v52, v53, v54, v55, v56, v57, v58, v59, v60, v61, v62, v63, v64, v65, v66, v67, v68, v69, v70, v71, v72, v73, v74, v75, v76, v77, v78, v79, v80, v81, v82, v83, v84, v85, v86, v87, v88, v89, v90, v91, v92, v93, v94, v95, v96, v97, v98, v99, v100, v101, v102, v103, v104, v105, v106, v107, v108, v109, v110, v111, v112, v113, v114, v115, v116, v117, v118, v119, v120, v121, v122, v123, v124, v125, v126, v127, v128, v129, v130, v131, v132, v133, v134, v135, v136, v137, v138, v139, v140, v141, v142, v143, v144, v145, v146, v147, v148, v149, v150, v151, v152, v153, v154, v155, v156, v157, v158, v159, v160, v161, v162, v163, v164, v165, v166, v167, v168, v169, v170, v171, v172, v173, v174, v175, v176, v177, v178, v179, v180, v181, v182, v183, v184, v185, v186, v187, v188, v189, v190, v191, v192, v193, v194, v195, v196, v197, v198, v199, v200, v201, v202, v203, v204, v205, v206, v207, v208, v209, v210, v211, v212, v213, v214, v215, v216, v217, v218, v219, v220, v221, v222, v223, v224, v225, v226, v227, v228, v229, v230, v231, v232, v233, v234, v235, v236, v237, v238, v239, v240, v241, v242, v243, v244, v245, v246, v247, v248, v249, v250, v251, v252, v253, v254, v255, v256, v257, v258, v259, v260, v261, v262, v263, v264, v265, v266, v267, v268, v269, v270, v271, v272, v273, v274, v275, v276, v277, v278, v279, v280, v281, v282, v283, v284, v285, v286, v287, v288], []⟩ w9)
    (u0 u5 u7 u8 u9 u11 u12 u13 u14 u15 u16 u17 u18 u19 u20 u21 u22 u23 u24 u25 u26 u27 u28 u29 u30 u31 u32 u33 u34 u35 u36 u37 u38 u39 u40 u41 u42 u43 u44 u45 u46 u47 u48 u49 u50 u51 u52 u53 u54 u55 u56 u57 u58 u59 u60 u61 u62 u63 u64 u65 u66 u67 u68 u69 u70 u71 u72 u73 u74 u75 u76 u77 u78 u79 u80 u81 u82 u83 u84 u85 u86 u87 u88 u89 u90 u91 u92 u93 u94 u95 u96 u97 u98 u99 u100 u101 u102 u103 u104 u105 u106 u107 u108 u109 u110 u111 u112 u113 u114 u115 u116 u117 u118 u119 u120 u121 u122 u123 u124 u125 u126 u127 u128 u129 u130 u131 u132 u133 u134 u135 u136 u137 u138 u139 u140 u141 u142 u143 u144 u145 u146 u147 u148 u149 u150 u151 u152 u153 u154 u155 u156 u157 u158 u159 u160 u161 u162 u163 u164 u165 u166 u167 u168 u169 u170 u171 u172 u173 u174 u175 u176 u177 u178 u179 u180 u181 u182 u183 u184 u185 u186 u187 u188 u189 u190 u191 u192 u193 u194 u195 u196 u197 u198 u199 u200 u201 u202 u203 u204 u205 u206 u207 u208 u209 u210 u211 u212 u213 u214 u215 u216 u217 u218 u219 u220 u221 u222 u223 u224 u225 u226 u227 u228 u229 u230 u231 u232 u233 u234 u235 u236 u237 u238 u239 u240 u241 u242 u243 u244 u245 u246 u247 u248 u249 u250 u251 u252 u253 u254 u255 u256 u257 u258 u259 u260 u261 u262 u263 u264 u265 u266 u267 u268 u269 u270 u271 u272 u273 u274 u275 u276 u277 u278 u279 u280 u281 u282 u283 u284 u285 u286 u287 u288 : Value) :
    Code.wp Tryd.prog (withRest 3 (dropSeq 7 rrBody) R) (bodyPost Tryd.prog Tryd.f15 (RPost N c o w)) ⟨#[u0, .pointer (some ⟨w.heap.size, 0, none⟩), .pointer (some ⟨w.heap.size + 1, 0, none⟩), .int .i64 0, .slice av (N + c.length) cv, u5, .pointer (some ⟨gR, 0, none⟩), u7, u8, u9, .slice (some ⟨NB, 0, none⟩) (N + C.length) (N + C.length), u11, u12, u13, u14, u15, u16, u17, u18, u19, u20, u21, u22, u23, u24, u25, u26, u27, u28, u29, u30, u31, u32, u33, u34, u35, u36, u37, u38, u39, u40, u41, u42, u43, u44, u45, u46, u47, u48, u49, u50, u51, u52, u53, u54, u55, u56, u57, u58, u59, u60, u61, u62, u63, u64, u65, u66, u67, u68, u69, u70, u71, u72, u73, u74, u75, u76, u77, u78, u79, u80, u81, u82, u83, u84, u85, u86, u87, u88, u89, u90, u91, u92, u93, u94, u95, u96, u97, u98, u99, u100, u101, u102, u103, u104, u105, u106, u107, u108, u109, u110, u111, u112, u113, u114, u115, u116, u117, u118, u119, u120, u121, u122, u123, u124, u125, u126, u127, u128, u129, u130, u131, u132, u133, u134, u135, u136, u137, u138, u139, u140, u141, u142, u143, u144, u145, u146, u147, u148, u149, u150, u151, u152, u153, u154, u155, u156, u157, u158, u159, u160, u161, u162, u163, u164, u165, u166, u167, u168, u169, u170, u171, u172, u173, u174, u175, u176, u177, u178, u179, u180, u181, u182, u183, u184, u185, u186, u187, u188, u189, u190, u191, u192, u193, u194, u195, u196, u197, u198, u199, u200, u201, u202, u203, u204, u205, u206, u207, u208, u209, u210, u211, u212, u213, u214, u215, u216, u217, u218, u219, u220, u221, u222, u223, u224, u225, u226, u227, u228, u229, u230, u231, u232, u233, u234, u235, u236, u237, u238, u239, u240, u241, u242, u243, u244, u245, u246, u247, u248, u249, u250, u251, u252, u253, u254, u255, u256, u257, u258, u259, u260, u261, u262, u263, u264, u265, u266, u267, u268, u269, u270, u271, u272, u273, u274, u275, u276, u277, u278, u279, u280, u281, u282, u283, u284, u285, u286, u287, u288], []⟩ w5 := by
  have HH := hid h
  clear h
  have HUs := hid used_any
  conv => arg 2; whnf; arg 2; whnf; arg 2; whnf
  dsimp only
  go_upto_region 25 with fail
  go_loopw [11, 12, 13] (fun z1 z2 i wr => ∃ k : Nat, k ≤ o.length ∧ i = .int .i64 k ∧ z1 = .bool (hasV vs (o.take k) (-2)) ∧ z2 = .bool (hasV vs (o.take k) (-1)) ∧ NR w8 NB (N + C.length) (nd0 vs (o.take k)) wr) (fun _ _ i _ => o.length - (intOf i).toNat)
  case atStart => exact ⟨0, Nat.zero_le _, rfl, rfl, rfl, by rw [List.take_zero]; exact HN0.out⟩
  case round =>
    obtain ⟨k, hk, rfl, rfl, rfl, hN⟩ := hrel
    have HN := hid hN
    clear hN HN0
    have HR := hid (HRE.out.below HN.out.bel)
    have c2 := HR.out.c2
    rename World => wr
    by_cases hlt : k < o.length
    · obtain ⟨x, hx⟩ := some_of_lt hlt
      have HT := hid (show o.take (k + 1) = o.take k ++ [x] from take_snoc hx)
      have hxr := HOE.out x (List.mem_of_getElem? hx)
      have hvr := HFv.out x (List.mem_of_getElem? hx)
      obtain ⟨bo, oo, rfl, x0⟩ := HR.out.so.cell (ints_get hx)
      obtain ⟨gr, rfl, hgr, va⟩ := own_num (j := x.toNat) HR.out.ov (by omega)
      have hx0 := hxr.1
      have hx1 : x < (N : Int) + c.length := hxr.2
      generalize hV : vs.getD x.toNat 0 = V at va hvr
      have HV := hid hV
      clear hx hxr hV
      by_cases hV0 : V < 0
      · have hV2 : V = -2 ∨ V = -1 := by omega
        have HN8 := hid (HN.out.congr (nd' := nd0 vs (o.take k ++ [x])) (fun j _ => nd0_neg HV.out hV0 j))
        clear hvr hV0
        rcases hV2 with rfl | rfl
        · cases hz : hasV vs (o.take k) (-2) <;> cases hw : hasV vs (o.take k) (-1)
          all_goals
            go_wp2
            go_roundw
            case rel => exact ⟨k + 1, by omega, by go_num, by rw [HT.out, hasV_neg HV.out]; simp, by rw [HT.out, hasV_neg HV.out, hw]; rfl, by rw [HT.out]; exact HN8.out⟩
            case measure => simp [intOf]; omega
        · cases hz : hasV vs (o.take k) (-2) <;> cases hw : hasV vs (o.take k) (-1)
          all_goals
            go_wp2
            go_roundw
            case rel => exact ⟨k + 1, by omega, by go_num, by rw [HT.out, hasV_neg HV.out, hz]; rfl, by rw [HT.out, hasV_neg HV.out]; simp, by rw [HT.out]; exact HN8.out⟩
            case measure => simp [intOf]; omega
      · have hV0' : 0 ≤ V := by omega
        have hV1 : V.toNat < N + C.length := by omega
        have hV2 : V < (N : Int) + (C.length : Int) := by omega
        have q1 := HN.out.row.cell (i := V.toNat) hV1
        have q2 := HN.out.row.frozen V.toNat
        simp only [bolF] at q1
        have HN8 := hid ((HN.out.set V.toNat).congr (nd' := nd0 vs (o.take k ++ [x])) (fun j _ => nd0_pos HV.out hV0' j))
        have hE2 : (V == -2) = false := by simp; omega
        have hE1 : (V == -1) = false := by simp; omega
        have HE2 := hid (show decide (V = -2) = false by simp; omega)
        have HE1 := hid (show decide (V = -1) = false by simp; omega)
        cases hz : hasV vs (o.take k) (-2) <;> cases hw : hasV vs (o.take k) (-1)
        all_goals
          go_wp2
          go_roundw
          case rel => exact ⟨k + 1, by omega, by go_num, by rw [HT.out, hasV_neg HV.out, hz, HE2.out]; rfl, by rw [HT.out, hasV_neg HV.out, hw, HE1.out]; rfl, by rw [HT.out]; exact HN8.out⟩
          case measure => simp [intOf]; omega
    · have e : k = o.length := by omega
      subst e
      rw [take_all (Nat.le_refl _)] at *
      have g1 := HR.out.g1
      have hwl : IntKind.i64.wrap ((C.length : Int) - 1) = (C.length : Int) - 1 := IntWalk.i64_in _ (by omega)
      go_upto_region 32 with fail
      clear g1 hwl c2
      go_loopw [15] (fun i wr => ∃ r : Nat, r ≤ C.length ∧ i = .int .i64 ((r : Int) - 1) ∧ ∃ nd, NR w8 NB (N + C.length) nd wr ∧ Hid (ndFrom N C r nd = ndAll N C vs o)) (fun i _ => (intOf i + 1).toNat)
      case atStart => exact ⟨C.length, Nat.le_refl _, rfl, nd0 vs o, HN.out, hid rfl⟩
      case round =>
        obtain ⟨r, hr, rfl, nd, hN, Hnd⟩ := hrel
        clear HN HR
        have HN := hid hN
        clear hN
        have HR := hid (HRE.out.below HN.out.bel)
        rename World => wm
        by_cases hr0 : r = 0
        rotate_left
        · obtain ⟨i, rfl⟩ : ∃ i, r = i + 1 := ⟨r - 1, by omega⟩
          rw [show ((i + 1 : Nat) : Int) - 1 = (i : Int) by omega] at *
          clear hr0
          obtain ⟨x, hx⟩ := some_of_lt (l := C) (k := i) (by omega)
          have HX := hid hx
          have hok := HCI.out.ok i x hx
          have c0 := HR.out.c0
          have g1 := HR.out.g1
          obtain ⟨gc, rfl, _, x0, x1, x2⟩ := RS.ins (N := N) (RB := NB) (MB := NB) HR.out.oc hx
          clear hx
          obtain ⟨op, a, bb⟩ := x
          have hri : (i : Int) < (C.length : Int) := by omega
          have q1 := HN.out.row.cell (i := N + i) (by omega)
          simp only [bolF] at q1
          have hw1 : IntKind.i64.wrap ((N : Int) + (i : Int)) = (N : Int) + (i : Int) := IntWalk.i64_in _ (by omega)
          have hw0 : IntKind.i64.wrap ((i : Int) - 1) = (i : Int) - 1 := IntWalk.i64_in _ (by omega)
          have hi2 : (N : Int) + (i : Int) < (N : Int) + (C.length : Int) := by omega
          have hi3 : (0 : Int) ≤ (N : Int) + (i : Int) := by omega
          have hi4 : ((N : Int) + (i : Int)).toNat = N + i := by omega
          cases hnd : nd (N + i)
          · rw [hnd] at q1
            have HNn := hid (HN.out.congr (fun j _ => ndS_no (c := C) hnd j))
            clear hnd
            go_wp2
            go_roundw
            case rel => exact ⟨i, by omega, by go_num, _, HNn.out, Hnd⟩
            case measure => simp [intOf]
          · rw [hnd] at q1
            have HNd := hid hnd
            clear hnd
            obtain ⟨ha0, ha1, hb0, hb1⟩ := OkI.rng hok (show i < C.length by omega)
            have q2 := HN.out.row.cell (i := a.toNat) (by omega)
            have q3 := HN.out.row.frozen a.toNat
            simp only [bolF] at q2
            have HOk := hid hok
            clear hok
            go_upto_region 36 with fail
            obtain ⟨w9, hw9⟩ : ∃ w9, wm.setCell ⟨NB, a.toNat, none⟩ (.bool true) = w9 := ⟨_, rfl⟩
            have HN9 := hid (HN.out.set a.toNat)
            rw [hw9] at HN9 ⊢
            clear hw9 q1 q2 q3 x0 x1 x2 g1 c0 HR HN
            have HR9 := hid (HRE.out.below HN9.out.bel)
            have g1 := HR9.out.g1
            obtain ⟨gc', e', _, x0, x1, x2⟩ := RS.ins (N := N) (RB := NB) (MB := NB) HR9.out.oc HX.out
            simp only [Option.some.injEq, Addr.mk.injEq, and_true] at e'
            subst e'
            have HUx := hid (fun X => HUs.out op X)
            rcases HOk.out.two with ⟨rfl, rfl, hu, h2⟩ | ⟨hu, h2⟩
            · rw [hu] at HUx
              have HNn := hid (HN9.out.congr (fun j _ => ndS_one HX.out HNd.out h2 ha0 j))
              clear hu h2 hi2 hi3 hi4 hw1
              go_wp2_with (go_at_call 50; refine (HUx.out _).mono ?_; rintro e wu ⟨rfl, rfl⟩; try dsimp only)
              go_roundw
              case rel => exact ⟨i, by omega, by go_num, _, HNn.out, Hnd⟩
              case measure => simp [intOf]
            · rw [hu] at HUx
              have HNn := hid ((HN9.out.set bb.toNat).congr (fun j _ => ndS_two HX.out HNd.out h2 ha0 hb0 j))
              have q2 := HN9.out.row.cell (i := bb.toNat) (by omega)
              have q3 := HN9.out.row.frozen bb.toNat
              simp only [bolF] at q2
              clear hu h2 hi2 hi3 hi4 hw1
              go_wp2_with (go_at_call 50; refine (HUx.out _).mono ?_; rintro e wu ⟨rfl, rfl⟩; try dsimp only)
              go_roundw
              case rel => exact ⟨i, by omega, by go_num, _, HNn.out, Hnd⟩
              case measure => simp [intOf]
        · subst hr0
          rw [show ((0 : Nat) : Int) - 1 = -1 from rfl] at *
          have hnd : nd = ndAll N C vs o := Hnd.out
          subst hnd
          clear Hnd hr
          go_wp2_with fail
          exact HH.out _ _ _ _ _ _ _ _ _ _ _ _ _ _ _ _ _ _ _ _ _ _ _ _ _ _ _ _ _ _ _ _ _ _ _ _ _ _ _ _ _ _ _ _ _ _ _ _ _ _ _ _ _ _ _ _ _ _ _ _ _ _ _ _ _ _ _ _ _ _ _ _ _ _ _ _ _ _ _ _ _ _ _ _ _ _ _ _ _ _ _ _ _ _ _ _ _ _ _ _ _ _ _ _ _ _ _ _ _ _ _ _ _ _ _ _ _ _ _ _ _ _ _ _ _ _ _ _ _ _ _ _ _ _ _ _ _ _ _ _ _ _ _ _ _ _ _ _ _ _ _ _ _ _ _ _ _ _ _ _ _ _ _ _ _ _ _ _ _ _ _ _ _ _ _ _ _ _ _ _ _ _ _ _ _ _ _ _ _ _ _ _ _ _ _ _ _ _ _ _ _ _ _ _ _ _ _ _ _ _ _ _ _ _ _ _ _ _ _ _ _ _ _ _ _ _ _ _ _ _ _ _ _ _ _ _ _ _ _ _ _ _ _ _ _ _ _ _ _ _ _ _ _ _ _ _ _ _ _ _ _ _ _ _ _ _ _ _ _ _ _ _ _ _ _ _ _ _ _ _ _ _ HN
end Go.Proofs.YtgfeknjhkciooaaDoor
