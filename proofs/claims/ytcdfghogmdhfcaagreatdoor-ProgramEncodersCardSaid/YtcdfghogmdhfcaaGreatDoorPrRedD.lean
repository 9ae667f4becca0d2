/-
  program.Reduce, cut: the new program and its places (statements 11 to 14).
  The facts that the parts ahead leave.
-/
import Derived.Test.YtcdfghogmdhfcaaGreatDoorPrRedC
namespace Go.Proofs.YtcdfghogmdhfcaaGreatDoor
open Go.RowKit Go.Deep
set_option linter.unusedVariables false

/-- The same, the n-th right part put off for another code. -/
def withRest : Nat → Code → Code → Code
  | 0, _, R => R
  | n + 1, .seq a b, R => .seq a (withRest n b R)
  | _ + 1, c, _ => c

set_option maxRecDepth 1000000 in
set_option maxHeartbeats 8000000 in
theorem red_mid (R : Code) (w w1 wm w8 : World) (N g NB cv co cC : Nat) (c C : List Ins) (o vs : List Int) (nd : Nat → Bool) (av ao aC : Option Addr)
    (HN : Hid (NS wm g NB (NB + 1) (N + C.length) o.length nd (cfK vs o) w8)) (HCI : Hid (CInv N C))
    (HCo : Hid (wm.ownsRow (w1.heap.size + 2) 47 3 (.slice aC C.length cC) C.length (icells C)))
    (HD8 : Hid (∀ X, Below w8.heap.size w8 X → X.cell? ⟨w.heap.size, 0, none⟩ = some (.int .i64 N) ∧ X.cell? ⟨w.heap.size, 2, none⟩ = some (.slice ao o.length co) ∧ X.cell? ⟨w1.heap.size + 1, 1, none⟩ = some (.slice aC C.length cC)))
    (hC1 : C.length ≤ cC) (hC2 : cC ≤ 9223372036854775807) (f2 : C.length ≤ c.length) (hN24 : N ≤ 24) (hc6 : c.length ≤ 65536)
    (h : ∀ (va : Value) (wr : World) (v0 v4 v6 v7 v8 v9 v10 v11 v12 v13 v15 v16 v17 v18 v19 v22 v23 v24 v25 v26 v27 v28 v29 v30 v31 v32 v33 v34 v35 v36 v37 v38 v39 v40 v41 v42 v43 v44 v45 v46 v47 v48 v49 v50 v51 v52 v53 v54 v55 v56 v57 v58 v59 v60 v61 v62 v63 v64 v65 v66 v67 v68 v69 v70 v71 v72 v73 v74 v75 v76 v77 v78 v79 v80 v81 v82 v83 v84 v85 v86 v87 v88 v89 v90 v91 v92 v93 v94 v95 v96 v97 v98 v99 v100 v101 v102 v103 v104 v105 v106 v107 v108 v109 v110 v111 v112 v113 v114 v115 v116 v117 v118 v119 v120 v121 v122 v123 v124 v125 v126 v127 v128 v129 v130 v131 v132 v133 v134 v135 v136 v137 v138 v139 v140 v141 v142 v143 v144 v145 v146 v147 v148 v149 v150 v151 v152 v153 v154 v155 v156 v157 v158 v159 v160 v161 v162 v163 v164 v165 v166 v167 v168 v169 v170 v171 v172 v173 v174 v175 v176 v177 v178 v179 v180 v181 v182 v183 v184 v185 v186 v187 v188 v189 v190 v191 v192 v193 v194 v195 v196 v197 v198 v199 v200 v201 v202 v203 v204 v205 v206 v207 v208 v209 v210 v211 v212 v213 v214 v215 v216 v217 v218 v219 v220 v221 v222 v223 v224 v225 v226 v227 v228 v229 v230 v231 v232 v233 v234 v235 v236 v237 v238 v239 v240 v241 v242 v243 v244 v245 v246 v247 v248 v249 v250 v251 v252 v253 v254 v255 v256 v257 v258 v259 v260 v261 v262 v263 v264 v265 v266 v267 v268 v269 v270 v271 v272 v273 v274 v275 v276 v277 v278 v279 v280 v281 : Value), Hid (QS w8 N (packS N C nd C.length).1 [] (N + C.length) (plZ (packS N C nd C.length).2) va (.slice none 0 0) wr) → Code.wp Tryz.prog R (bodyPost Tryz.prog Tryz.f18 (RPost N c o w)) ⟨#[v0, .pointer (some ⟨w.heap.size, 0, none⟩), .pointer (some ⟨w.heap.size + 1, 0, none⟩), .int .i64 0, v4, .slice av (N + c.length) cv, v6, v7, v8, v9, v10, v11, v12, v13, .map (some (NB + 1)), v15, v16, v17, v18, v19, .pointer (some ⟨w8.heap.size, 0, none⟩), .map (some (w8.heap.size + 1)), v22, v23, v24, v25, v26, v27, v28, v29, v30, v31, v32, v33, v34, v35, v36, v37, v38, v39, v40, v41, v42, v43, v44, v45, v46, v47, v48, v49, v50, v51, v52, v53, v54, v55, v56, v57, v58, v59, v60, v61, v62, v63, v64, v65, v66, v67, v68, v69, v70, v71, v72, v73, v74, v75, v76, v77, v78, v79, v80, v81, v82, v83, v84, v85, v86, v87, v88, v89, v90, v91, v92, v93, v94, v95, v96, v97, v98, v99, v100, v101, v102, v103, v104, v105, v106, v107, v108, v109, v110, v111, v112, v113, v114, v115, v116, v117, v118, v119, v120, v121, v122, v123, v124, v125, v126, v127, v128, v129, v130, v131, v132, v133, v134, v135, v136, v137, v138, v139, v140, v141, v142, v143, v144, v145, v146, v147, v148, v149, v150, v151, v152, v153, v154, v155, v156, v157, v158, v159, v160, v161, v162, v163, v164, v165, v166, v167, v168, v169, v170, v171, v172, v173, v174, v175, v176, v177, v178, v179, v180, v181, v182, v183, v184, v185, v186, v187, v188, v189, v190, v191, v192, v193, v194, v195, v196, v197, v198, v199, v200, v201, v202, v203, v204, v205, v206, v207, v208, v209, v210, v211, v212, v213, v214, v215, v216, v217, v218, v219, v220, v221, v222, v223, v224, v225, v226, v227, v228, v229, v230, v231, v232, v233, v234, v235, v236, v237, v238, v239, v240, v241, v242, v243, v244, v245, v246, v247, v248, v249, v250, v251, v252, v253, v254, v255, v256, v257, v258, v259, v260, v261, v262, v263, v264, v265, v266, v267, v268, v269, v270, v271, v272, v273, v274, v275, v276, v277, v278, v279, v280, v281], []⟩ wr)
    (u0 u6 u7 u8 u9 u10 u11 u15 u16 u17 u18 u19 u20 u21 u22 u23 u24 u25 u26 u27 u28 u29 u30 u31 u32 u33 u34 u35 u36 u37 u38 u39 u40 u41 u42 u43 u44 u45 u46 u47 u48 u49 u50 u51 u52 u53 u54 u55 u56 u57 u58 u59 u60 u61 u62 u63 u64 u65 u66 u67 u68 u69 u70 u71 u72 u73 u74 u75 u76 u77 u78 u79 u80 u81 u82 u83 u84 u85 u86 u87 u88 u89 u90 u91 u92 u93 u94 u95 u96 u97 u98 u99 u100 u101 u102 u103 u104 u105 u106 u107 u108 u109 u110 u111 u112 u113 u114 u115 u116 u117 u118 u119 u120 u121 u122 u123 u124 u125 u126 u127 u128 u129 u130 u131 u132 u133 u134 u135 u136 u137 u138 u139 u140 u141 u142 u143 u144 u145 u146 u147 u148 u149 u150 u151 u152 u153 u154 u155 u156 u157 u158 u159 u160 u161 u162 u163 u164 u165 u166 u167 u168 u169 u170 u171 u172 u173 u174 u175 u176 u177 u178 u179 u180 u181 u182 u183 u184 u185 u186 u187 u188 u189 u190 u191 u192 u193 u194 u195 u196 u197 u198 u199 u200 u201 u202 u203 u204 u205 u206 u207 u208 u209 u210 u211 u212 u213 u214 u215 u216 u217 u218 u219 u220 u221 u222 u223 u224 u225 u226 u227 u228 u229 u230 u231 u232 u233 u234 u235 u236 u237 u238 u239 u240 u241 u242 u243 u244 u245 u246 u247 u248 u249 u250 u251 u252 u253 u254 u255 u256 u257 u258 u259 u260 u261 u262 u263 u264 u265 u266 u267 u268 u269 u270 u271 u272 u273 u274 u275 u276 u277 u278 u279 u280 u281 : Value) :
    Code.wp Tryz.prog (withRest 4 (dropSeq 11 redBody) R) (bodyPost Tryz.prog Tryz.f18 (RPost N c o w)) ⟨#[u0, .pointer (some ⟨w.heap.size, 0, none⟩), .pointer (some ⟨w.heap.size + 1, 0, none⟩), .int .i64 0, .pointer (some ⟨w1.heap.size + 1, 0, none⟩), .slice av (N + c.length) cv, u6, u7, u8, u9, u10, u11, .pointer (some ⟨g, 0, none⟩), .slice (some ⟨NB, 0, none⟩) (N + C.length) (N + C.length), .map (some (NB + 1)), u15, u16, u17, u18, u19, u20, u21, u22, u23, u24, u25, u26, u27, u28, u29, u30, u31, u32, u33, u34, u35, u36, u37, u38, u39, u40, u41, u42, u43, u44, u45, u46, u47, u48, u49, u50, u51, u52, u53, u54, u55, u56, u57, u58, u59, u60, u61, u62, u63, u64, u65, u66, u67, u68, u69, u70, u71, u72, u73, u74, u75, u76, u77, u78, u79, u80, u81, u82, u83, u84, u85, u86, u87, u88, u89, u90, u91, u92, u93, u94, u95, u96, u97, u98, u99, u100, u101, u102, u103, u104, u105, u106, u107, u108, u109, u110, u111, u112, u113, u114, u115, u116, u117, u118, u119, u120, u121, u122, u123, u124, u125, u126, u127, u128, u129, u130, u131, u132, u133, u134, u135, u136, u137, u138, u139, u140, u141, u142, u143, u144, u145, u146, u147, u148, u149, u150, u151, u152, u153, u154, u155, u156, u157, u158, u159, u160, u161, u162, u163, u164, u165, u166, u167, u168, u169, u170, u171, u172, u173, u174, u175, u176, u177, u178, u179, u180, u181, u182, u183, u184, u185, u186, u187, u188, u189, u190, u191, u192, u193, u194, u195, u196, u197, u198, u199, u200, u201, u202, u203, u204, u205, u206, u207, u208, u209, u210, u211, u212, u213, u214, u215, u216, u217, u218, u219, u220, u221, u222, u223, u224, u225, u226, u227, u228, u229, u230, u231, u232, u233, u234, u235, u236, u237, u238, u239, u240, u241, u242, u243, u244, u245, u246, u247, u248, u249, u250, u251, u252, u253, u254, u255, u256, u257, u258, u259, u260, u261, u262, u263, u264, u265, u266, u267, u268, u269, u270, u271, u272, u273, u274, u275, u276, u277, u278, u279, u280, u281], []⟩ w8 := by
  have HH := hid h
  clear h
  have hmm := @run_makeMap Tryz.prog
  conv => arg 2; whnf; arg 2; whnf; arg 2; whnf; arg 2; whnf
  obtain ⟨d0, _, e1⟩ := HD8.out _ (Below.refl _ _)
  have HQ0 := hid ((QS.start w8 N).congr (pl' := plZ fun j => if j < 0 then (j : Int) else 0) fun s => by unfold plZ; split <;> simp)
  go_upto_region 48 with fail
  have d0 : (w8.alloc (.cells #[.int .i64 N, .slice none 0 0, .slice none 0 0] 28)).cell? ⟨w.heap.size, 0, none⟩ = some (.int .i64 N) := keeps (bel_alloc _ _) d0
  have d0' : ((w8.alloc (.cells #[.int .i64 N, .slice none 0 0, .slice none 0 0] 28)).alloc (.map #[] 0)).cell? ⟨w.heap.size, 0, none⟩ = some (.int .i64 N) := keeps (bel_alloc _ _) d0
  go_upto_region 50 with fail
  clear d0 d0' e1
  go_loopw [176] (fun i wr => ∃ k : Nat, k ≤ N ∧ i = .int .i64 k ∧ QS w8 N [] [] k (plZ fun j => if j < k then (j : Int) else 0) (.slice none 0 0) (.slice none 0 0) wr) (fun i _ => N - (intOf i).toNat)
  case atStart => exact ⟨0, Nat.zero_le _, rfl, HQ0.out⟩
  case round =>
    obtain ⟨k, hk, rfl, hQ⟩ := hrel
    have HQ := hid hQ
    clear hQ HQ0
    by_cases hlt : k < N
    · obtain ⟨w9, hrun9, hm9, hg9⟩ := HQ.out.map.store (by omega) (k : Int) (k : Int) (by unfold Ok64; omega) (by unfold Ok64; omega)
      have HQ9 := hid ((HQ.out.put hg9 hm9).congr (plZ_init k))
      clear hm9 hg9
      go_wp2
      go_roundw
      case rel => exact ⟨k + 1, by omega, by go_num, HQ9.out⟩
      case measure => simp [intOf]; omega
    · have e : N = k := by omega
      subst e
      have e1 := (HD8.out _ HQ.out.bel).2.2
      go_upto_region 55 with fail
      clear e1
      have HQ1 := hid (show QS w8 N (packS N C nd 0).1 [] (N + 0) (plZ (packS N C nd 0).2) (.slice none 0 0) (.slice none 0 0) wr from HQ.out)
      go_loopw [188] (fun i wr => ∃ k : Nat, k ≤ C.length ∧ i = .int .i64 k ∧ ∃ va, QS w8 N (packS N C nd k).1 [] (N + k) (plZ (packS N C nd k).2) va (.slice none 0 0) wr) (fun i _ => C.length - (intOf i).toNat)
      case atStart => exact ⟨0, Nat.zero_le _, rfl, _, HQ1.out⟩
      case round =>
        obtain ⟨k, hk, rfl, va, hQ⟩ := hrel
        clear HQ HQ1
        have HQ := hid hQ
        clear hQ
        by_cases hlt : k < C.length
        · obtain ⟨x, hx⟩ := some_of_lt hlt
          have HX := hid hx
          have hok := HCI.out.ok k x hx
          obtain ⟨d0, _, e1⟩ := HD8.out _ HQ.out.bel
          have hpl := pack_len N C nd k
          obtain ⟨g1, rfl, hg1, x0, x1, x2⟩ := RS.ins (N := N) (RB := NB) (MB := NB) (own_below HCo.out (HN.out.bel.trans (HQ.out.bel.mono HN.out.bel.size))) hx
          clear hx
          obtain ⟨op, a, bb⟩ := x
          go_upto_region 57 with fail
          obtain ⟨wx, hwx⟩ : ∃ wx, wr.alloc (.cells #[.int .i64 op, .int .i64 a, .int .i64 bb] 47) = wx := ⟨_, rfl⟩
          obtain ⟨hbx, y0, y1, y2⟩ := boxI' hwx
          have z1 := boxF hwx 1
          have z2 := boxF hwx 2
          rw [hwx]
          have HBx := hid hbx
          have HNx := hid ((HN.out.keep HQ.out.bel).keep hbx)
          have d0 := keeps hbx d0
          have hgx : ¬ wr.heap.size = NB := by have := (HN.out.keep HQ.out.bel).row.lt; omega
          clear hwx hbx x0 x1 x2 e1
          obtain ⟨gx, hgxE⟩ : ∃ gx, wr.heap.size = gx := ⟨_, rfl⟩
          rw [hgxE] at y0 y1 y2 z1 z2 hgx ⊢
          have HgxE := hid hgxE
          clear hgxE
          have q1 := HNx.out.row.cell (i := N + k) (by omega)
          simp only [bolF] at q1
          have hw1 : IntKind.i64.wrap ((N : Int) + (k : Int)) = (N : Int) + (k : Int) := IntWalk.i64_in _ (by omega)
          have hi2 : (N : Int) + (k : Int) < (N : Int) + (C.length : Int) := by omega
          have hi3 : (0 : Int) ≤ (N : Int) + (k : Int) := by omega
          have hi4 : ((N : Int) + (k : Int)).toNat = N + k := by omega
          cases hnd : nd (N + k)
          · rw [hnd] at q1
            have HQx := hid ((HQ.out.keep HBx.out).mono (show N + k ≤ N + (k + 1) by omega))
            rw [← pack_no (c := C) hnd] at HQx
            clear hnd
            go_wp2
            go_roundw
            case rel => exact ⟨k + 1, by omega, by go_num, _, HQx.out⟩
            case measure => simp [intOf]; omega
          · rw [hnd] at q1
            have HPk := hid (pack_yes (N := N) HX.out hnd)
            clear hnd
            have HQx := hid (HQ.out.keep HBx.out)
            generalize hpk : packS N C nd k = PK at *
            clear hpk
            obtain ⟨oc, pl⟩ := PK
            simp only at hpl HPk HQx HQ
            rcases hok with ⟨h1, h2, h3, h4, _⟩ | ⟨h1, h2, h3, h4⟩
            · simp only at h1 h2 h3 h4
              subst h1 h4
              have hlook := HQx.out.map.look a (by unfold Ok64; omega)
              rw [plZ_nat h2] at hlook
              have q4 := HNx.out.ops.at' (j := 16) (v := .int .i64 1) rfl
              go_upto_region 61 with fail
              obtain ⟨w9, hw9⟩ : ∃ w9, wx.setCell ⟨gx, 1, none⟩ (.int .i64 (pl a.toNat)) = w9 := ⟨_, rfl⟩
              have hb9 : Below wr.heap.size wr w9 := by rw [← hw9]; exact HBx.out.setCell (by show wr.heap.size ≤ gx; have := HgxE.out; omega) _
              have HQ9 := hid (HQ.out.keep hb9)
              have d0 := (HD8.out _ HQ9.out.bel).1
              have y0 : w9.cell? ⟨gx, 0, none⟩ = some (.int .i64 5) := by rw [← hw9, World.cell?_setCell_other _ _ _ _ (by simp)]; exact y0
              have y2 : w9.cell? ⟨gx, 2, none⟩ = some (.int .i64 0) := by rw [← hw9, World.cell?_setCell_other _ _ _ _ (by simp)]; exact y2
              have y1 : w9.cell? ⟨gx, 1, none⟩ = some (.int .i64 (pl a.toNat)) := by rw [← hw9]; exact World.cell?_setCell_same _ _ _ y1
              rw [hw9]
              clear hw9 hb9 q1 q4 hlook z1 z2 HNx HBx HQx
              obtain ⟨aq, cq, rfl⟩ := own_slice HQ9.out.c
              obtain ⟨_, k1, _, kf, _⟩ := HQ9.out.cells
              have hlenq : oc.length ≤ 70000 := by omega
              have hw2 : IntKind.i64.wrap ((N : Int) + (oc.length : Int)) = (N : Int) + (oc.length : Int) := IntWalk.i64_in _ (by omega)
              obtain ⟨w10, hrun10, hm10, hg10⟩ := HQ9.out.map.store (by omega) ((N : Int) + (k : Int)) ((N : Int) + (oc.length : Int)) (by unfold Ok64; omega) (by unfold Ok64; omega)
              have HQ10 := hid ((HQ9.out.put hg10 hm10).congr (pl' := plZ (plU pl (N + k) ((N + oc.length : Nat) : Int))) fun t => by have := plZ_up pl (N + k) ((N + oc.length : Nat) : Int) t; rw [Int.natCast_add, Int.natCast_add] at this; exact this)
              have hgq : ¬ gx = w8.heap.size + 1 := by have := HQ.out.hi; have := HgxE.out; omega
              have HY10 := hid (show ∀ j v, w9.cell? ⟨gx, j, none⟩ = some v → w10.cell? ⟨gx, j, none⟩ = some v from fun j v hv => (World.cell?_of_block (hg10.block _ (World.block_lt_of_cell? _ _ hv) (by simp only [ne_eq, Option.some.injEq]; exact hgq))).trans hv)
              have Y0 := HY10.out 0 _ y0
              have Y1 := HY10.out 1 _ y1
              have Y2 := HY10.out 2 _ y2
              obtain ⟨_, K1, _, _, _⟩ := HQ10.out.cells
              have hhi := HQ10.out.hi
              clear hm10 hg10 HY10
              go_wp2_with (at_builtin; refine wpList_push w10 rfl _ _ 25 rfl (w8.heap.size + 2) 47 (.agg #[.int .i64 0, .int .i64 0, .int .i64 0]) 3 24 Tryz.underlying25 Tryz.infoInstr rfl (by decide) (.slice aq oc.length cq) oc.length (icells oc) rfl HQ10.out.c #[.int .i64 5, .int .i64 (pl a.toNat), .int .i64 0] rfl (by intro u hu; simp at hu; rcases hu with rfl | rfl | rfl <;> rfl) rfl (by unfold maxLen; omega) (by omega) hhi ?_; intro gv capv w11 hown11 hg11 hb11; have hq11 := row_grown HQ10.out.q hg11 (row_ne_low53 HQ10.out.c (by omega)); have k11 := hq11.cell (i := 1) (by omega); have kf11 := hq11.frozen 1)
              have HQ11 := hid (HQ10.out.pushC (x := ⟨5, (pl a.toNat), 0⟩) hg11 hown11)
              clear hown11 hg11 hb11 hq11 k11 kf11 hrun10
              go_roundw
              case rel => exact ⟨k + 1, by omega, by go_num, _, by rw [HPk.out]; exact HQ11.out⟩
              case measure => simp [intOf]; omega
            · simp only at h1 h2 h3 h4
              have hb0 : 0 ≤ bb := by omega
              have hlook := HQx.out.map.look a (by unfold Ok64; omega)
              rw [plZ_nat h2] at hlook
              go_upto_region 59 with fail
              obtain ⟨w9, hw9⟩ : ∃ w9, wx.setCell ⟨gx, 1, none⟩ (.int .i64 (pl a.toNat)) = w9 := ⟨_, rfl⟩
              have hb9 : Below wr.heap.size wr w9 := by rw [← hw9]; exact HBx.out.setCell (by show wr.heap.size ≤ gx; have := HgxE.out; omega) _
              have HB9 := hid hb9
              have HNx := hid ((HN.out.keep HQ.out.bel).keep hb9)
              have HQ9a := hid (HQ.out.keep hb9)
              have d0 := (HD8.out _ HQ9a.out.bel).1
              have y0 : w9.cell? ⟨gx, 0, none⟩ = some (.int .i64 op) := by rw [← hw9, World.cell?_setCell_other _ _ _ _ (by simp)]; exact y0
              have y2 : w9.cell? ⟨gx, 2, none⟩ = some (.int .i64 bb) := by rw [← hw9, World.cell?_setCell_other _ _ _ _ (by simp)]; exact y2
              have y1 : w9.cell? ⟨gx, 1, none⟩ = some (.int .i64 (pl a.toNat)) := by rw [← hw9]; exact World.cell?_setCell_same _ _ _ y1
              have z2 : w9.frozen? ⟨gx, 2, none⟩ = false := by rw [← hw9, World.frozen?_setCell]; exact z2
              rw [hw9]
              clear hw9 hb9 q1 hlook z1 HBx HQx
              have hlook := HQ9a.out.map.look bb (by unfold Ok64; omega)
              rw [plZ_nat hb0] at hlook
              obtain ⟨w9b, hw9⟩ : ∃ w9b, w9.setCell ⟨gx, 2, none⟩ (.int .i64 (pl bb.toNat)) = w9b := ⟨_, rfl⟩
              have hb9 : Below wr.heap.size wr w9b := by rw [← hw9]; exact HB9.out.setCell (by show wr.heap.size ≤ gx; have := HgxE.out; omega) _
              have HQ9 := hid (HQ.out.keep hb9)
              have HW9 := hid hw9
              clear hb9 hw9
              rcases h1 with rfl | rfl
              · have q4 := HNx.out.ops.at' (j := 10) (v := .int .i64 2) rfl
                go_upto_region 61 with fail
                have hw9 := HW9.out
                have d0 := (HD8.out _ HQ9.out.bel).1
                have y0 : w9b.cell? ⟨gx, 0, none⟩ = some (.int .i64 3) := by rw [← hw9, World.cell?_setCell_other _ _ _ _ (by simp)]; exact y0
                have y1 : w9b.cell? ⟨gx, 1, none⟩ = some (.int .i64 (pl a.toNat)) := by rw [← hw9, World.cell?_setCell_other _ _ _ _ (by simp)]; exact y1
                have y2 : w9b.cell? ⟨gx, 2, none⟩ = some (.int .i64 (pl bb.toNat)) := by rw [← hw9]; exact World.cell?_setCell_same _ _ _ y2
                rw [hw9]
                clear hw9 HW9 q4 hlook z2 HNx HQ9a HB9
                obtain ⟨aq, cq, rfl⟩ := own_slice HQ9.out.c
                obtain ⟨_, k1, _, kf, _⟩ := HQ9.out.cells
                have hlenq : oc.length ≤ 70000 := by omega
                have hw2 : IntKind.i64.wrap ((N : Int) + (oc.length : Int)) = (N : Int) + (oc.length : Int) := IntWalk.i64_in _ (by omega)
                obtain ⟨w10, hrun10, hm10, hg10⟩ := HQ9.out.map.store (by omega) ((N : Int) + (k : Int)) ((N : Int) + (oc.length : Int)) (by unfold Ok64; omega) (by unfold Ok64; omega)
                have HQ10 := hid ((HQ9.out.put hg10 hm10).congr (pl' := plZ (plU pl (N + k) ((N + oc.length : Nat) : Int))) fun t => by have := plZ_up pl (N + k) ((N + oc.length : Nat) : Int) t; rw [Int.natCast_add, Int.natCast_add] at this; exact this)
                have hgq : ¬ gx = w8.heap.size + 1 := by have := HQ.out.hi; have := HgxE.out; omega
                have HY10 := hid (show ∀ j v, w9b.cell? ⟨gx, j, none⟩ = some v → w10.cell? ⟨gx, j, none⟩ = some v from fun j v hv => (World.cell?_of_block (hg10.block _ (World.block_lt_of_cell? _ _ hv) (by simp only [ne_eq, Option.some.injEq]; exact hgq))).trans hv)
                have Y0 := HY10.out 0 _ y0
                have Y1 := HY10.out 1 _ y1
                have Y2 := HY10.out 2 _ y2
                obtain ⟨_, K1, _, _, _⟩ := HQ10.out.cells
                have hhi := HQ10.out.hi
                clear hm10 hg10 HY10
                go_wp2_with (at_builtin; refine wpList_push w10 rfl _ _ 25 rfl (w8.heap.size + 2) 47 (.agg #[.int .i64 0, .int .i64 0, .int .i64 0]) 3 24 Tryz.underlying25 Tryz.infoInstr rfl (by decide) (.slice aq oc.length cq) oc.length (icells oc) rfl HQ10.out.c #[.int .i64 3, .int .i64 (pl a.toNat), .int .i64 (pl bb.toNat)] rfl (by intro u hu; simp at hu; rcases hu with rfl | rfl | rfl <;> rfl) rfl (by unfold maxLen; omega) (by omega) hhi ?_; intro gv capv w11 hown11 hg11 hb11; have hq11 := row_grown HQ10.out.q hg11 (row_ne_low53 HQ10.out.c (by omega)); have k11 := hq11.cell (i := 1) (by omega); have kf11 := hq11.frozen 1)
                have HQ11 := hid (HQ10.out.pushC (x := ⟨3, (pl a.toNat), (pl bb.toNat)⟩) hg11 hown11)
                clear hown11 hg11 hb11 hq11 k11 kf11 hrun10
                go_roundw
                case rel => exact ⟨k + 1, by omega, by go_num, _, by rw [HPk.out]; exact HQ11.out⟩
                case measure => simp [intOf]; omega
              · have q4 := HNx.out.ops.at' (j := 13) (v := .int .i64 2) rfl
                go_upto_region 61 with fail
                have hw9 := HW9.out
                have d0 := (HD8.out _ HQ9.out.bel).1
                have y0 : w9b.cell? ⟨gx, 0, none⟩ = some (.int .i64 4) := by rw [← hw9, World.cell?_setCell_other _ _ _ _ (by simp)]; exact y0
                have y1 : w9b.cell? ⟨gx, 1, none⟩ = some (.int .i64 (pl a.toNat)) := by rw [← hw9, World.cell?_setCell_other _ _ _ _ (by simp)]; exact y1
                have y2 : w9b.cell? ⟨gx, 2, none⟩ = some (.int .i64 (pl bb.toNat)) := by rw [← hw9]; exact World.cell?_setCell_same _ _ _ y2
                rw [hw9]
                clear hw9 HW9 q4 hlook z2 HNx HQ9a HB9
                obtain ⟨aq, cq, rfl⟩ := own_slice HQ9.out.c
                obtain ⟨_, k1, _, kf, _⟩ := HQ9.out.cells
                have hlenq : oc.length ≤ 70000 := by omega
                have hw2 : IntKind.i64.wrap ((N : Int) + (oc.length : Int)) = (N : Int) + (oc.length : Int) := IntWalk.i64_in _ (by omega)
                obtain ⟨w10, hrun10, hm10, hg10⟩ := HQ9.out.map.store (by omega) ((N : Int) + (k : Int)) ((N : Int) + (oc.length : Int)) (by unfold Ok64; omega) (by unfold Ok64; omega)
                have HQ10 := hid ((HQ9.out.put hg10 hm10).congr (pl' := plZ (plU pl (N + k) ((N + oc.length : Nat) : Int))) fun t => by have := plZ_up pl (N + k) ((N + oc.length : Nat) : Int) t; rw [Int.natCast_add, Int.natCast_add] at this; exact this)
                have hgq : ¬ gx = w8.heap.size + 1 := by have := HQ.out.hi; have := HgxE.out; omega
                have HY10 := hid (show ∀ j v, w9b.cell? ⟨gx, j, none⟩ = some v → w10.cell? ⟨gx, j, none⟩ = some v from fun j v hv => (World.cell?_of_block (hg10.block _ (World.block_lt_of_cell? _ _ hv) (by simp only [ne_eq, Option.some.injEq]; exact hgq))).trans hv)
                have Y0 := HY10.out 0 _ y0
                have Y1 := HY10.out 1 _ y1
                have Y2 := HY10.out 2 _ y2
                obtain ⟨_, K1, _, _, _⟩ := HQ10.out.cells
                have hhi := HQ10.out.hi
                clear hm10 hg10 HY10
                go_wp2_with (at_builtin; refine wpList_push w10 rfl _ _ 25 rfl (w8.heap.size + 2) 47 (.agg #[.int .i64 0, .int .i64 0, .int .i64 0]) 3 24 Tryz.underlying25 Tryz.infoInstr rfl (by decide) (.slice aq oc.length cq) oc.length (icells oc) rfl HQ10.out.c #[.int .i64 4, .int .i64 (pl a.toNat), .int .i64 (pl bb.toNat)] rfl (by intro u hu; simp at hu; rcases hu with rfl | rfl | rfl <;> rfl) rfl (by unfold maxLen; omega) (by omega) hhi ?_; intro gv capv w11 hown11 hg11 hb11; have hq11 := row_grown HQ10.out.q hg11 (row_ne_low53 HQ10.out.c (by omega)); have k11 := hq11.cell (i := 1) (by omega); have kf11 := hq11.frozen 1)
                have HQ11 := hid (HQ10.out.pushC (x := ⟨4, (pl a.toNat), (pl bb.toNat)⟩) hg11 hown11)
                clear hown11 hg11 hb11 hq11 k11 kf11 hrun10
                go_roundw
                case rel => exact ⟨k + 1, by omega, by go_num, _, by rw [HPk.out]; exact HQ11.out⟩
                case measure => simp [intOf]; omega
        · have e : k = C.length := by omega
          subst e
          clear HCI HCo
          go_wp2_with fail
          exact HH.out _ _ _ _ _ _ _ _ _ _ _ _ _ _ _ _ _ _ _ _ _ _ _ _ _ _ _ _ _ _ _ _ _ _ _ _ _ _ _ _ _ _ _ _ _ _ _ _ _ _ _ _ _ _ _ _ _ _ _ _ _ _ _ _ _ _ _ _ _ _ _ _ _ _ _ _ _ _ _ _ _ _ _ _ _ _ _ _ _ _ _ _ _ _ _ _ _ _ _ _ _ _ _ _ _ _ _ _ _ _ _ _ _ _ _ _ _ _ _ _ _ _ _ _ _ _ _ _ _ _ _ _ _ _ _ _ _ _ _ _ _ _ _ _ _ _ _ _ _ _ _ _ _ _ _ _ _ _ _ _ _ _ _ _ _ _ _ _ _ _ _ _ _ _ _ _ _ _ _ _ _ _ _ _ _ _ _ _ _ _ _ _ _ _ _ _ _ _ _ _ _ _ _ _ _ _ _ _ _ _ _ _ _ _ _ _ _ _ _ _ _ _ _ _ _ _ _ _ _ _ _ _ _ _ _ _ _ _ _ _ _ _ _ _ _ _ _ _ _ _ _ _ _ _ _ _ _ _ _ _ _ _ _ _ _ _ _ _ _ _ _ _ _ _ _ _ _ HQ
end Go.Proofs.YtcdfghogmdhfcaaGreatDoor
