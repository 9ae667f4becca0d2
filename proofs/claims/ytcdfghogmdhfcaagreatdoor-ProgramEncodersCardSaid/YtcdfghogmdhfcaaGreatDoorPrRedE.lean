/-
  program.Reduce, cut: what is needed, which constants (statements 7 to 10).
  The facts that the parts ahead leave.
-/
import Derived.Test.YtcdfghogmdhfcaaGreatDoorPrRedD
namespace Go.Proofs.YtcdfghogmdhfcaaGreatDoor
open Go.RowKit Go.Deep
set_option linter.unusedVariables false

set_option maxRecDepth 1000000 in
set_option maxHeartbeats 8000000 in
theorem red_need (R : Code) (w w1 wm w4 : World) (g N cv co cC : Nat) (c C : List Ins) (o vs : List Int) (av ao aC : Option Addr)
    (HO : Hid (Sl 1 w (.slice ao o.length co) o.length (ints o))) (HB7 : Hid (Below w.heap.size w wm)) (HOE : Hid (∀ k ∈ o, 0 ≤ k ∧ k < (N : Int) + c.length))
    (HFv : Hid (∀ k ∈ o, -2 ≤ vs.getD k.toNat 0 ∧ vs.getD k.toNat 0 < ((N + C.length : Nat) : Int))) (HCI : Hid (CInv N C))
    (HVal : Hid (wm.ownsRow (w1.heap.size + 2) 3 1 (.slice av (N + c.length) cv) (N + c.length) (ints vs)))
    (HCo : Hid (wm.ownsRow (w1.heap.size + 2) 47 3 (.slice aC C.length cC) C.length (icells C)))
    (HDm : Hid (wm.cell? ⟨w.heap.size, 0, none⟩ = some (.int .i64 N) ∧ wm.cell? ⟨w.heap.size, 2, none⟩ = some (.slice ao o.length co) ∧ wm.cell? ⟨w1.heap.size + 1, 1, none⟩ = some (.slice aC C.length cC)))
    (hC1 : C.length ≤ cC) (hC2 : cC ≤ 9223372036854775807) (f2 : C.length ≤ c.length) (hvl : vs.length = N + c.length) (hN24 : N ≤ 24) (hc6 : c.length ≤ 65536) (ho6 : o.length ≤ 65536) (ho1 : o.length ≤ co) (ho2 : co ≤ 9223372036854775807)
    (HOp4 : Hid (Ops w4 g)) (HB4 : Hid (Below wm.heap.size wm w4)) (hlg : wm.heap.size ≤ g) (hlt4 : g < w4.heap.size)
    (h : ∀ (NB : Nat) (w8 : World) (v0 v6 v7 v8 v9 v10 v11 v15 v16 v17 v18 v19 v20 v21 v22 v23 v24 v25 v26 v27 v28 v29 v30 v31 v32 v33 v34 v35 v36 v37 v38 v39 v40 v41 v42 v43 v44 v45 v46 v47 v48 v49 v50 v51 v52 v53 v54 v55 v56 v57 v58 v59 v60 v61 v62 v63 v64 v65 v66 v67 v68 v69 v70 v71 v72 v73 v74 v75 v76 v77 v78 v79 v80 v81 v82 v83 v84 v85 v86 v87 v88 v89 v90 v91 v92 v93 v94 v95 v96 v97 v98 v99 v100 v101 v102 v103 v104 v105 v106 v107 v108 v109 v110 v111 v112 v113 v114 v115 v116 v117 v118 v119 v120 v121 v122 v123 v124 v125 v126 v127 v128 v129 v130 v131 v132 v133 v134 v135 v136 v137 v138 v139 v140 v141 v142 v143 v144 v145 v146 v147 v148 v149 v150 v151 v152 v153 v154 v155 v156 v157 v158 v159 v160 v161 v162 v163 v164 v165 v166 v167 v168 v169 v170 v171 v172 v173 v174 v175 v176 v177 v178 v179 v180 v181 v182 v183 v184 v185 v186 v187 v188 v189 v190 v191 v192 v193 v194 v195 v196 v197 v198 v199 v200 v201 v202 v203 v204 v205 v206 v207 v208 v209 v210 v211 v212 v213 v214 v215 v216 v217 v218 v219 v220 v221 v222 v223 v224 v225 v226 v227 v228 v229 v230 v231 v232 v233 v234 v235 v236 v237 v238 v239 v240 v241 v242 v243 v244 v245 v246 v247 v248 v249 v250 v251 v252 v253 v254 v255 v256 v257 v258 v259 v260 v261 v262 v263 v264 v265 v266 v267 v268 v269 v270 v271 v272 v273 v274 v275 v276 v277 v278 v279 v280 v281 : Value), Hid (NS wm g NB (NB + 1) (N + C.length) o.length (ndAll N C vs o) (cfK vs o) w8) → Code.wp Tryz.prog R (bodyPost Tryz.prog Tryz.f18 (RPost N c o w)) ⟨#[v0, .pointer (some ⟨w.heap.size, 0, none⟩), .pointer (some ⟨w.heap.size + 1, 0, none⟩), .int .i64 0, .pointer (some ⟨w1.heap.size + 1, 0, none⟩), .slice av (N + c.length) cv, v6, v7, v8, v9, v10, v11, .pointer (some ⟨g, 0, none⟩), .slice (some ⟨NB, 0, none⟩) (N + C.length) (N + C.length), .map (some (NB + 1)), v15, v16, v17, v18, v19, v20, v21, v22, v23, v24, v25, v26, v27, v28, v29, v30, v31, v32, v33, v34, v35, v36, v37, v38, v39, v40, v41, v42, v43, v44, v45, v46, v47, v48, v49, v50, v51, v52, v53, v54, v55, v56, v57, v58, v59, v60, v61, v62, v63, v64, v65, v66, v67, v68, v69, v70, v71, v72, v73, v74, v75, v76, v77, v78, v79, v80, v81, v82, v83, v84, v85, v86, v87, v88, v89, v90, v91, v92, v93, v94, v95, v96, v97, v98, v99, v100, v101, v102, v103, v104, v105, v106, v107, v108, v109, v110, v111, v112, v113, v114, v115, v116, v117, v118, v119, v120, v121, v122, v123, v124, v125, v126, v127, v128, v129, v130, v131, v132, v133, v134, v135, v136, v137, v138, v139, v140, v141, v142, v143, v144, v145, v146, v147, v148, v149, v150, v151, v152, v153, v154, v155, v156, v157, v158, v159, v160, v161, v162, v163, v164, v165, v166, v167, v168, v169, v170, v171, v172, v173, v174, v175, v176, v177, v178, v179, v180, v181, v182, v183, v184, v185, v186, v187, v188, v189, v190, v191, v192, v193, v194, v195, v196, v197, v198, v199, v200, v201, v202, v203, v204, v205, v206, v207, v208, v209, v210, v211, v212, v213, v214, v215, v216, v217, v218, v219, v220, v221, v222, v223, v224, v225, v226, v227, v228, v229, v230, v231, v232, v233, v234, v235, v236, v237, v238, v239, v240, v241, v242, v243, v244, v245, v246, v247, v248, v249, v250, v251, v252, v253, v254, v255, v256, v257, v258, v259, v260, v261, v262, v263, v264, v265, v266, v267, v268, v269, v270, v271, v272, v273, v274, v275, v276, v277, v278, v279, v280, v281], []⟩ w8)
    (u0 u6 u7 u8 u9 u10 u11 u13 u14 u15 u16 u17 u18 u19 u20 u21 u22 u23 u24 u25 u26 u27 u28 u29 u30 u31 u32 u33 u34 u35 u36 u37 u38 u39 u40 u41 u42 u43 u44 u45 u46 u47 u48 u49 u50 u51 u52 u53 u54 u55 u56 u57 u58 u59 u60 u61 u62 u63 u64 u65 u66 u67 u68 u69 u70 u71 u72 u73 u74 u75 u76 u77 u78 u79 u80 u81 u82 u83 u84 u85 u86 u87 u88 u89 u90 u91 u92 u93 u94 u95 u96 u97 u98 u99 u100 u101 u102 u103 u104 u105 u106 u107 u108 u109 u110 u111 u112 u113 u114 u115 u116 u117 u118 u119 u120 u121 u122 u123 u124 u125 u126 u127 u128 u129 u130 u131 u132 u133 u134 u135 u136 u137 u138 u139 u140 u141 u142 u143 u144 u145 u146 u147 u148 u149 u150 u151 u152 u153 u154 u155 u156 u157 u158 u159 u160 u161 u162 u163 u164 u165 u166 u167 u168 u169 u170 u171 u172 u173 u174 u175 u176 u177 u178 u179 u180 u181 u182 u183 u184 u185 u186 u187 u188 u189 u190 u191 u192 u193 u194 u195 u196 u197 u198 u199 u200 u201 u202 u203 u204 u205 u206 u207 u208 u209 u210 u211 u212 u213 u214 u215 u216 u217 u218 u219 u220 u221 u222 u223 u224 u225 u226 u227 u228 u229 u230 u231 u232 u233 u234 u235 u236 u237 u238 u239 u240 u241 u242 u243 u244 u245 u246 u247 u248 u249 u250 u251 u252 u253 u254 u255 u256 u257 u258 u259 u260 u261 u262 u263 u264 u265 u266 u267 u268 u269 u270 u271 u272 u273 u274 u275 u276 u277 u278 u279 u280 u281 : Value) :
    Code.wp Tryz.prog (withRest 4 (dropSeq 7 redBody) R) (bodyPost Tryz.prog Tryz.f18 (RPost N c o w)) ⟨#[u0, .pointer (some ⟨w.heap.size, 0, none⟩), .pointer (some ⟨w.heap.size + 1, 0, none⟩), .int .i64 0, .pointer (some ⟨w1.heap.size + 1, 0, none⟩), .slice av (N + c.length) cv, u6, u7, u8, u9, u10, u11, .pointer (some ⟨g, 0, none⟩), u13, u14, u15, u16, u17, u18, u19, u20, u21, u22, u23, u24, u25, u26, u27, u28, u29, u30, u31, u32, u33, u34, u35, u36, u37, u38, u39, u40, u41, u42, u43, u44, u45, u46, u47, u48, u49, u50, u51, u52, u53, u54, u55, u56, u57, u58, u59, u60, u61, u62, u63, u64, u65, u66, u67, u68, u69, u70, u71, u72, u73, u74, u75, u76, u77, u78, u79, u80, u81, u82, u83, u84, u85, u86, u87, u88, u89, u90, u91, u92, u93, u94, u95, u96, u97, u98, u99, u100, u101, u102, u103, u104, u105, u106, u107, u108, u109, u110, u111, u112, u113, u114, u115, u116, u117, u118, u119, u120, u121, u122, u123, u124, u125, u126, u127, u128, u129, u130, u131, u132, u133, u134, u135, u136, u137, u138, u139, u140, u141, u142, u143, u144, u145, u146, u147, u148, u149, u150, u151, u152, u153, u154, u155, u156, u157, u158, u159, u160, u161, u162, u163, u164, u165, u166, u167, u168, u169, u170, u171, u172, u173, u174, u175, u176, u177, u178, u179, u180, u181, u182, u183, u184, u185, u186, u187, u188, u189, u190, u191, u192, u193, u194, u195, u196, u197, u198, u199, u200, u201, u202, u203, u204, u205, u206, u207, u208, u209, u210, u211, u212, u213, u214, u215, u216, u217, u218, u219, u220, u221, u222, u223, u224, u225, u226, u227, u228, u229, u230, u231, u232, u233, u234, u235, u236, u237, u238, u239, u240, u241, u242, u243, u244, u245, u246, u247, u248, u249, u250, u251, u252, u253, u254, u255, u256, u257, u258, u259, u260, u261, u262, u263, u264, u265, u266, u267, u268, u269, u270, u271, u272, u273, u274, u275, u276, u277, u278, u279, u280, u281], []⟩ w4 := by
  have HH := hid h
  clear h
  have hmm := @run_makeMap Tryz.prog
  obtain ⟨d0, d2, e1⟩ := HDm.out
  have e1 := keeps HB4.out e1
  have d0 := keeps HB4.out d0
  have d2 := keeps HB4.out d2
  conv => arg 2; whnf; arg 2; whnf; arg 2; whnf; arg 2; whnf
  have hmk2 : ∀ w, (Instr.makeSlice 100 (.int .i64 ((N : Int) + (C.length : Int))) (.int .i64 ((N : Int) + (C.length : Int)))).run Tryz.prog w = .ok (.slice (some ⟨w.heap.size, 0, none⟩) (N + C.length) (N + C.length)) (w.alloc (.cells (madeCells #[.bool false] (N + C.length)) 4)) := fun w => by
    have := run_make_row' (P := Tryz.prog) 100 4 (.bool false) 1 Tryz.underlying100 Tryz.infoBool rfl .i64 .i64 (N + C.length) (by omega) (by omega) w
    rw [Int.natCast_add] at this
    exact this
  go_upto_region 29 with fail
  dsimp only
  have hwr : IntKind.i64.wrap ((N : Int) + (C.length : Int)) = (N : Int) + (C.length : Int) := IntWalk.i64_in _ (by omega)
  go_cut [13] (fun v w' => v = .slice (some ⟨w4.heap.size, 0, none⟩) (N + C.length) (N + C.length) ∧ w'.rowIs w4.heap.size 4 (N + C.length) (fun _ => .bool false) ∧ Below w4.heap.size w4 w' ∧ w'.heap.size = w4.heap.size + 1)
  case first =>
    go_region
    all_goals
      go_wp2_with fail
      go_meet
      exact ⟨rfl, (World.rowIs_made w4 (.bool false) (N + C.length) 4).drew, bel_ad, by simp⟩
  case rest =>
    obtain ⟨rfl, hrow5, hb5, hs5⟩ := hcut
    have HN0 := hid (NS.start HB4.out HOp4.out hlg hlt4 hb5 hrow5 hs5 vs)
    have d0 := keeps hb5 d0
    have d2 := keeps hb5 d2
    have e1 := keeps hb5 e1
    clear hrow5 hmk2 HOp4 hwr
    go_upto_region 31 with fail
    obtain ⟨w6, hw6⟩ : ∃ w6, wc.alloc (.map #[] 0) = w6 := ⟨_, rfl⟩
    rw [hw6] at HN0 ⊢
    have hb6 : Below wc.heap.size wc w6 := by rw [← hw6]; exact bel_alloc _ _
    have d0 := keeps hb6 d0
    have d2 := keeps hb6 d2
    have e1 := keeps hb6 e1
    clear hw6 hb6 hs5 hb5
    have HD := hid (And.intro d0 (And.intro d2 e1))
    obtain ⟨NB, hNB⟩ : ∃ NB, w4.heap.size = NB := ⟨_, rfl⟩
    rw [hNB] at HN0 ⊢
    have HB67 := hid HB7.out
    go_upto_region 32 with fail
    go_loopw [116] (fun i wr => ∃ k : Nat, k ≤ o.length ∧ i = .int .i64 k ∧ NS wm g NB (NB + 1) (N + C.length) k (nd0 vs (o.take k)) (cfK vs (o.take k)) wr) (fun i _ => o.length - (intOf i).toNat)
    case atStart => exact ⟨0, Nat.zero_le _, rfl, by rw [List.take_zero]; exact HN0.out⟩
    case round =>
      obtain ⟨k, hk, rfl, hN⟩ := hrel
      have HN := hid hN
      clear hN HN0
      by_cases hlt : k < o.length
      · obtain ⟨x, hx⟩ := some_of_lt hlt
        have HT := hid (show o.take (k + 1) = o.take k ++ [x] from take_snoc hx)
        have hxr := HOE.out x (List.mem_of_getElem? hx)
        have hvr := HFv.out x (List.mem_of_getElem? hx)
        obtain ⟨bo, oo, rfl, x0⟩ := ((HO.out.below HB7.out).below (HN.out.bel.mono HB7.out.size |> fun h => (HN.out.bel))).cell (show (ints o)[k]? = some (.int .i64 x) by simp [ints, hx])
        obtain ⟨gr, rfl, hgr, va⟩ := own_num (j := x.toNat) (own_below HVal.out HN.out.bel) (by omega)
        have hx0 := hxr.1
        have hx1 : x < (N : Int) + c.length := hxr.2
        have hvE : vs.getD x.toNat 0 = vs.getD x.toNat 0 := rfl
        generalize hV : vs.getD x.toNat 0 = V at va hvr
        have HV := hid hV
        clear hx hxr hvE hV
        by_cases hV0 : V < 0
        · obtain ⟨w8, hrun8, hm8, hg8⟩ := HN.out.map.store (by omega) V (by unfold Ok64; omega)
          have HN8 := hid ((HN.out.put hg8 hm8).congr (fun j _ => nd0_neg HV.out hV0 j) (fun t => cfK_neg HV.out hV0 t))
          clear hm8 hg8
          go_wp2
          go_roundw
          case rel => exact ⟨k + 1, by omega, by go_num, by rw [HT.out]; exact HN8.out⟩
          case measure => simp [intOf]; omega
        · have hV0' : 0 ≤ V := by omega
          have hV1 : V.toNat < N + C.length := by omega
          have hV2 : V < (N : Int) + (C.length : Int) := by omega
          have q1 := HN.out.row.cell (i := V.toNat) hV1
          have q2 := HN.out.row.frozen V.toNat
          simp only [bolF] at q1
          have HN8 := hid (((HN.out.set V.toNat).congr (fun j _ => nd0_pos HV.out hV0' j) (fun t => cfK_pos HV.out hV0' t)).mono (Nat.le_succ k))
          go_wp2
          go_roundw
          case rel => exact ⟨k + 1, by omega, by go_num, by rw [HT.out]; exact HN8.out⟩
          case measure => simp [intOf]; omega
      · have e : k = o.length := by omega
        subst e
        rw [take_all (Nat.le_refl _)] at HN
        have HOk := hid HN.out.bel.size
        clear HD
        have HD := hid (show ∀ X, Below wm.heap.size wm X → X.cell? ⟨w.heap.size, 0, none⟩ = some (.int .i64 N) ∧ X.cell? ⟨w.heap.size, 2, none⟩ = some (.slice ao o.length co) ∧ X.cell? ⟨w1.heap.size + 1, 1, none⟩ = some (.slice aC C.length cC) from fun X hX => ⟨keeps hX HDm.out.1, keeps hX HDm.out.2.1, keeps hX HDm.out.2.2⟩)
        have e1 := (HD.out _ HN.out.bel).2.2
        have hwl : IntKind.i64.wrap ((C.length : Int) - 1) = (C.length : Int) - 1 := IntWalk.i64_in _ (by omega)
        go_upto_region 40 with fail
        clear e1 hwl
        go_loopw [18] (fun i wr => ∃ r : Nat, r ≤ C.length ∧ i = .int .i64 ((r : Int) - 1) ∧ ∃ nd, NS wm g NB (NB + 1) (N + C.length) o.length nd (cfK vs o) wr ∧ Hid (ndFrom N C r nd = ndAll N C vs o)) (fun i _ => (intOf i + 1).toNat)
        case atStart => exact ⟨C.length, Nat.le_refl _, rfl, nd0 vs o, HN.out, hid rfl⟩
        case round =>
          obtain ⟨r, hr, rfl, nd, hN, Hnd⟩ := hrel
          clear HN
          have HN := hid hN
          clear hN
          by_cases hr0 : r = 0
          rotate_left
          · obtain ⟨i, rfl⟩ : ∃ i, r = i + 1 := ⟨r - 1, by omega⟩
            rw [show ((i + 1 : Nat) : Int) - 1 = (i : Int) by omega] at *
            clear hr0
            obtain ⟨x, hx⟩ := some_of_lt (l := C) (k := i) (by omega)
            have HX := hid hx
            have hok := HCI.out.ok i x hx
            have hd := HD.out _ HN.out.bel
            obtain ⟨d0, _, e1⟩ := hd
            obtain ⟨g1, rfl, hg1, x0, x1, x2⟩ := RS.ins (N := N) (RB := NB) (MB := NB) (own_below HCo.out HN.out.bel) hx
            clear hx
            obtain ⟨op, a, bb⟩ := x
            have hri : (i : Int) < (C.length : Int) := by omega
            go_upto_region 43 with fail
            obtain ⟨wx, hwx⟩ : ∃ wx, wr.alloc (.cells #[.int .i64 op, .int .i64 a, .int .i64 bb] 47) = wx := ⟨_, rfl⟩
            obtain ⟨hbx, y0, y1, y2⟩ := boxI' hwx
            rw [hwx]
            have HNx := hid (HN.out.keep hbx)
            have d0 := keeps hbx d0
            have hgx : ¬ wr.heap.size = NB := by have := HN.out.row.lt; omega
            clear hwx hbx x0 x1 x2 e1 HN
            generalize wr.heap.size = gx at *
            have q1 := HNx.out.row.cell (i := N + i) (by omega)
            simp only [bolF] at q1
            have hw1 : IntKind.i64.wrap ((N : Int) + (i : Int)) = (N : Int) + (i : Int) := IntWalk.i64_in _ (by omega)
            have hw0 : IntKind.i64.wrap ((i : Int) - 1) = (i : Int) - 1 := IntWalk.i64_in _ (by omega)
            have hi2 : (N : Int) + (i : Int) < (N : Int) + (C.length : Int) := by omega
            have hi3 : (0 : Int) ≤ (N : Int) + (i : Int) := by omega
            have hi4 : ((N : Int) + (i : Int)).toNat = N + i := by omega
            cases hnd : nd (N + i)
            · rw [hnd] at q1
              have HNn := hid (HNx.out.congr (fun j _ => ndS_no (c := C) hnd j) (fun _ => rfl))
              clear hnd
              go_upto_region 44 with fail
              go_wp2
              go_roundw
              case rel => exact ⟨i, by omega, by go_num, _, HNn.out, Hnd⟩
              case measure => simp [intOf]
            · rw [hnd] at q1
              rcases hok with ⟨h1, h2, h3, h4, _⟩ | ⟨h1, h2, h3, h4⟩
              · simp only at h1 h2 h3 h4
                subst h1 h4
                have HNn := hid ((HNx.out.set a.toNat).congr (fun j _ => ndS_one HX.out hnd rfl h2 j) (fun _ => rfl))
                have q2 := HNx.out.row.cell (i := a.toNat) (by omega)
                have q3 := HNx.out.row.frozen a.toNat
                simp only [bolF] at q2
                have q4 := HNx.out.ops.at' (j := 16) (v := .int .i64 1) rfl
                have hng := HNx.out.ng
                have ha1 : a < (N : Int) + (C.length : Int) := by omega
                clear hnd
                go_wp2
                go_roundw
                case rel => exact ⟨i, by omega, by go_num, _, HNn.out, Hnd⟩
                case measure => simp [intOf]
              · simp only at h1 h2 h3 h4
                have hb0 : 0 ≤ bb := by omega
                have ha1 : a < (N : Int) + (C.length : Int) := by omega
                have hb1 : bb < (N : Int) + (C.length : Int) := by omega
                have q2 := HNx.out.row.cell (i := a.toNat) (by omega)
                have q3 := HNx.out.row.frozen a.toNat
                simp only [bolF] at q2
                have HNn := hid (((HNx.out.set a.toNat).set bb.toNat).congr (fun j _ => ndS_two HX.out hnd (two_of h1) h2 hb0 j) (fun _ => rfl))
                clear hnd
                go_upto_region 45 with fail
                obtain ⟨w8, hw8⟩ : ∃ w8, wx.setCell ⟨NB, a.toNat, none⟩ (.bool true) = w8 := ⟨_, rfl⟩
                have HN8 := hid (HNx.out.set a.toNat)
                have y0 : w8.cell? ⟨gx, 0, none⟩ = some (.int .i64 op) := by rw [← hw8, World.cell?_setCell_other _ _ _ _ (fun h => hgx (congrArg Addr.block h).symm)]; exact y0
                have y2 : w8.cell? ⟨gx, 2, none⟩ = some (.int .i64 bb) := by rw [← hw8, World.cell?_setCell_other _ _ _ _ (fun h => hgx (congrArg Addr.block h).symm)]; exact y2
                rw [hw8] at HN8 HNn ⊢
                clear hw8 q1 q2 q3 y1 d0 HNx
                have q2 := HN8.out.row.cell (i := bb.toNat) (by omega)
                have q3 := HN8.out.row.frozen bb.toNat
                simp only [bolF] at q2
                rcases h1 with rfl | rfl
                · have q4 := HN8.out.ops.at' (j := 10) (v := .int .i64 2) rfl
                  go_wp2
                  go_roundw
                  case rel => exact ⟨i, by omega, by go_num, _, HNn.out, Hnd⟩
                  case measure => simp [intOf]
                · have q4 := HN8.out.ops.at' (j := 13) (v := .int .i64 2) rfl
                  go_wp2
                  go_roundw
                  case rel => exact ⟨i, by omega, by go_num, _, HNn.out, Hnd⟩
                  case measure => simp [intOf]
          · subst hr0
            rw [show ((0 : Nat) : Int) - 1 = -1 from rfl] at *
            have hnd : nd = ndAll N C vs o := Hnd.out
            subst hnd
            clear Hnd hr
            go_wp2_with fail
            exact HH.out _ _ _ _ _ _ _ _ _ _ _ _ _ _ _ _ _ _ _ _ _ _ _ _ _ _ _ _ _ _ _ _ _ _ _ _ _ _ _ _ _ _ _ _ _ _ _ _ _ _ _ _ _ _ _ _ _ _ _ _ _ _ _ _ _ _ _ _ _ _ _ _ _ _ _ _ _ _ _ _ _ _ _ _ _ _ _ _ _ _ _ _ _ _ _ _ _ _ _ _ _ _ _ _ _ _ _ _ _ _ _ _ _ _ _ _ _ _ _ _ _ _ _ _ _ _ _ _ _ _ _ _ _ _ _ _ _ _ _ _ _ _ _ _ _ _ _ _ _ _ _ _ _ _ _ _ _ _ _ _ _ _ _ _ _ _ _ _ _ _ _ _ _ _ _ _ _ _ _ _ _ _ _ _ _ _ _ _ _ _ _ _ _ _ _ _ _ _ _ _ _ _ _ _ _ _ _ _ _ _ _ _ _ _ _ _ _ _ _ _ _ _ _ _ _ _ _ _ _ _ _ _ _ _ _ _ _ _ _ _ _ _ _ _ _ _ _ _ _ _ _ _ _ _ _ _ _ _ _ _ _ _ _ _ _ _ _ _ _ _ _ _ _ _ _ _ HN
end Go.Proofs.YtcdfghogmdhfcaaGreatDoor
