/-
  The reference's Reduce, cut: the instructions that are needed, and their places (statements 10 to 12). (Printed by wip/tools/refred.py.)
  The facts that the parts ahead leave.
-/
import Derived.Test.YtgfeknjhkciooaaDoorRfRedA
namespace Go.Proofs.YtgfeknjhkciooaaDoor
open Go.RowKit Go.Deep
set_option linter.unusedVariables false

def intF (f : Nat → Int) : Nat → Value := fun j => .int .i64 (f j)
/-- The row of places, the new program in its box. -/
structure PL (w9 : World) (PB gO N M : Nat) (f : Nat → Int) (L : List Ins) (vL : Value) (wr : World) : Prop where
  bel : Below w9.heap.size w9 wr
  row : wr.rowIs PB 3 M (intF f)
  box : wr.heap[gO]? = some (.cells #[.int .i64 N, vL, .slice none 0 0] 25 (0, 0))
  own : wr.ownsRow w9.heap.size 41 3 vL L.length (icells L)
  lp : w9.heap.size ≤ PB
  lo : w9.heap.size ≤ gO
section
variable {w9 wr w' : World} {PB gO N M : Nat} {f f' : Nat → Int} {L : List Ins} {vL : Value}
theorem PL.keep (h : PL w9 PB gO N M f L vL wr) (hb : Below wr.heap.size wr w') : PL w9 PB gO N M f L vL w' :=
  ⟨h.bel.trans (hb.mono h.bel.size), row_below h.row hb, (hb.block _ (Array.getElem?_eq_some_iff.1 h.box).1).trans h.box, own_below h.own hb, h.lp, h.lo⟩
theorem PL.congr (h : PL w9 PB gO N M f L vL wr) (h1 : ∀ j, j < M → f j = f' j) : PL w9 PB gO N M f' L vL wr :=
  ⟨h.bel, h.row.congr fun i hi => by show Value.int .i64 (f i) = _; rw [h1 i hi]; rfl, h.box, h.own, h.lp, h.lo⟩
theorem rowIs_blk {w : World} {b n : Nat} {e : TypeId} {g : Nat → Value} (h : w.rowIs b e n g) : ∃ cs, w.heap[b]? = some (.cells cs e (0, 0)) := by
  obtain ⟨cs, h1, _⟩ := h
  exact ⟨cs, h1⟩
theorem PL.set (h : PL w9 PB gO N M f L vL wr) (j : Nat) (v : Int) : PL w9 PB gO N M (plU f j v) L vL (wr.setCell ⟨PB, j, none⟩ (.int .i64 v)) := by
  obtain ⟨cs, hk⟩ := rowIs_blk h.row
  have hne : gO ≠ PB := fun e => by
    have := h.box
    rw [e, hk] at this
    simp only [Option.some.injEq, Obj.cells.injEq] at this
    exact absurd this.2.1 (by decide)
  refine ⟨h.bel.setCell h.lp _, (h.row.set j (.int .i64 v)).congr fun i hi => ?_, (Below.heap_setCell _ _ _ _ hne).trans h.box, own_set h.own (a := ⟨PB, j, none⟩) hk (by decide) _, h.lp, h.lo⟩
  unfold plU intF
  by_cases e : i = j
  · subst e; simp
  · simp [e]
/-- A box of an instruction that is no row of the program's: a store into it. -/
theorem PL.setBox (h : PL w9 PB gO N M f L vL wr) {gx : Nat} (h1 : w9.heap.size ≤ gx) (h2 : gx ≠ PB) (h3 : gx ≠ gO) (h4 : vL.ownBlock ≠ some gx) (j : Nat) (v : Value) : PL w9 PB gO N M f L vL (wr.setCell ⟨gx, j, none⟩ v) := by
  refine ⟨h.bel.setCell h1 _, h.row.of_block (Below.heap_setCell _ _ _ _ (Ne.symm h2)), (Below.heap_setCell _ _ _ _ (Ne.symm h3)).trans h.box, ?_, h.lp, h.lo⟩
  obtain ⟨h5, h6⟩ := h.own
  refine ⟨h5, ?_⟩
  rcases h6 with h6 | ⟨g, cap, cur, rfl, h8, h9, h10⟩
  · exact .inl h6
  · exact .inr ⟨g, cap, cur, rfl, h8, (Below.heap_setCell _ _ _ _ (fun e => h4 (by rw [e]; rfl))).trans h9, h10⟩
theorem PL.push (h : PL w9 PB gO N M f L vL wr) {w5 : World} {vL' : Value} {x : Ins} (hg : wr.grownBy w5 vL.ownBlock) (ho : w5.ownsRow w9.heap.size 41 3 vL' (L.length + 1) (icells (L ++ [x]))) :
    PL w9 PB gO N M f (L ++ [x]) vL' (w5.setCell ⟨gO, 1, none⟩ vL') := by
  obtain ⟨cs, hk⟩ := rowIs_blk h.row
  have hlt : gO < wr.heap.size := (Array.getElem?_eq_some_iff.1 h.box).1
  have hn1 : some gO ≠ vL.ownBlock := fun e => by
    obtain ⟨_, cur, hc⟩ := own_block h.own e.symm
    rw [h.box] at hc
    simp only [Option.some.injEq, Obj.cells.injEq] at hc
    exact absurd hc.2.1 (by decide)
  have hn2 : some PB ≠ vL.ownBlock := fun e => by
    obtain ⟨_, cur, hc⟩ := own_block h.own e.symm
    rw [hk] at hc
    simp only [Option.some.injEq, Obj.cells.injEq] at hc
    exact absurd hc.2.1 (by decide)
  have hne : PB ≠ gO := fun e => by
    have := h.box
    rw [← e, hk] at this
    simp only [Option.some.injEq, Obj.cells.injEq] at this
    exact absurd this.2.1 (by decide)
  have kb := (hg.block gO hlt hn1).trans h.box
  refine ⟨(h.bel.grown hg h.bel.size fun k hk => (own_block h.own hk).1).setCell h.lo _, (row_grown h.row hg hn2).of_block (Below.heap_setCell _ _ _ _ hne), by simp [World.setCell, Array.getElem?_modify, kb], ?_, h.lp, h.lo⟩
  rw [List.length_append]
  exact own_set ho (a := ⟨gO, 1, none⟩) kb (by decide) _
end
/-- Where the loop stands. -/
def plaS (N : Nat) (C : List Ins) (nd : Nat → Bool) (i : Nat) : List Ins × (Nat → Int) := if i ≤ N then ([], fun j => if j < i then (j : Int) else 0) else packS N C nd (i - N)
theorem plaS_zero (N : Nat) (C : List Ins) (nd : Nat → Bool) : plaS N C nd 0 = ([], fun _ => 0) := by
  unfold plaS
  rw [if_pos (Nat.zero_le _)]
  simp
theorem plaS_low {N i : Nat} (C : List Ins) (nd : Nat → Bool) (h : i < N) : (plaS N C nd (i + 1)).1 = (plaS N C nd i).1 ∧ ∀ j, plU (plaS N C nd i).2 i (i : Int) j = (plaS N C nd (i + 1)).2 j := by
  unfold plaS
  rw [if_pos (by omega), if_pos (by omega)]
  refine ⟨rfl, fun j => ?_⟩
  unfold plU
  simp only
  by_cases e : j = i
  · subst e; simp
  · by_cases e2 : j < i
    · simp [e, e2]; omega
    · rw [if_neg e, if_neg e2, if_neg (by omega)]
theorem plaS_high {N k : Nat} (C : List Ins) (nd : Nat → Bool) : plaS N C nd (N + k) = packS N C nd k := by
  unfold plaS
  by_cases e : k = 0
  · subst e; simp [packS]
  · rw [if_neg (by omega), Nat.add_sub_cancel_left]
theorem packS_yes {N k : Nat} {C : List Ins} {nd : Nat → Bool} {x : Ins} (hx : C[k]? = some x) (h : nd (N + k) = true) : packS N C nd (k + 1) = ((packS N C nd k).1 ++ [moved (packS N C nd k).2 x], plU (packS N C nd k).2 (N + k) ((N + (packS N C nd k).1.length : Nat) : Int)) := by
  rw [packS, if_pos h, List.getD_eq_getElem?_getD, hx]; rfl
theorem packS_no {N k : Nat} {C : List Ins} {nd : Nat → Bool} (h : nd (N + k) = false) : packS N C nd (k + 1) = packS N C nd k := by
  rw [packS, if_neg (by simp [h])]
theorem packS_len (N : Nat) (C : List Ins) (nd : Nat → Bool) (k : Nat) : (packS N C nd k).1.length ≤ k := by
  induction k with
  | zero => simp [packS]
  | succ k ih =>
    rw [packS]
    split
    · simp; omega
    · omega
set_option maxRecDepth 1000000 in
set_option maxHeartbeats 8000000 in
theorem rr_place (R : Code) (w w8 w9 : World) (gR NB N cv co cC : Nat) (c C : List Ins) (o vs : List Int) (nd : Nat → Bool) (av ao aC : Option Addr)
    (HRE : Hid (RE w.heap.size gR N c.length C o vs av ao aC cv co cC w8)) (HCI : Hid (CInv N C)) (HNR : Hid (NR w8 NB (N + C.length) nd w9))
    (hC1 : C.length ≤ cC) (hC2 : cC ≤ 9223372036854775807) (f2 : C.length ≤ c.length) (hN24 : N ≤ 24) (hc6 : c.length ≤ 65536)
    (h : ∀ (PB gO : Nat) (vL : Value) (w10 : World) (v0 v5 v7 v8 v9 v10 v13 v14 v15 v18 v19 v20 v21 v22 v23 v24 v25 v26 v27 v28 v29 v30 v31 v32 v33 v34 v35 v36 v37 v38 v39 v40 v41 v42 v43 v44 v45 v46 v47 v48 v49 v50 v51 v52 v53 v54 v55 v56 v57 v58 v59 v60 v61 v62 v63 v64 v65 v66 v67 v68 v69 v70 v71 v72 v73 v74 v75 v76 v77 v78 v79 v80 v81 v82 v83 v84 v85 v86 v87 v88 v89 v90 v91 v92 v93 v94 v95 v96 v97 v98 v99 v100 v101 v102 v103 v104 v105 v106 v107 v108 v109 v110 v111 v112 v113 v114 v115 v116 v117 v118 v119 v120 v121 v122 v123 v124 v125 v126 v127 v128 v129 v130 v131 v132 v133 v134 v135 v136 v137 v138 v139 v140 v141 v142 v143 v144 v145 v146 v147 v148 v149 v150 v151 v152 v153 v154 v155 v156 v157 v158 v159 v160 v161 v162 v163 v164 v165 v166 v167 v168 v169 v170 v171 v172 v173 v174 v175 v176 v177 v178 v179 v180 v181 v182 v183 v184 v185 v186 v187 v188 v189 v190 v191 v192 v193 v194 v195 v196 v197 v198 v199 v200 v201 v202 v203 v204 v205 v206 v207 v208 v209 v210 v211 v212 v213 v214 v215 v216 v217 v218 v219 v220 v221 v222 v223 v224 v225 v226 v227 v228 v229 v230 v231 v232 v233 v234 v235 v236 v237 v238 v239 v240 v241 v242 v243 v244 v245 v246 v247 v248 v249 v250 v251 v252 v253 v254 v255 v256 v257 v258 v259 v260 v261 v262 v263 v264 v265 v266 v267 v268 v269 v270 v271 v272 v273 v274 v275 v276 v277 v278 v279 v280 v281 v282 v283 v284 v285 v286 v287 v288 : Value), Hid (PL w9 PB gO N (N + C.length) (packS N C nd C.length).2 (packS N C nd C.length).1 vL w10) → Code.wp Tryd.prog R (bodyPost Tryd.prog Tryd.f15 (RPost N c o w)) ⟨#[v0, .pointer (some ⟨w.heap.size, 0, none⟩), .pointer (some ⟨w.heap.size + 1, 0, none⟩), .int .i64 0, .slice av (N + c.length) cv, v5, .pointer (some ⟨gR, 0, none⟩), v7, v8, v9, v10, .bool (hasV vs o (-2)), .bool (hasV vs o (-1)), v13, v14, v15, .slice (some ⟨PB, 0, none⟩) (N + C.length) (N + C.length), .pointer (some ⟨gO, 0, none⟩), v18, v19, v20, v21, v22, v23, v24, v25, v26, v27, v28, v29, v30, v31, v32, v33, v34, v35, v36, v37, v38, v39, v40, v41, v42, v43, v44, v45, v46, v47, v48, v49, v50, v51, v52, v53, v54, v55, v56, v57, v58, v59, v60, v61, v62, v63, v64, v65, v66, v67, v68, v69, v70, v71, v72, v73, v74, v75, v76, v77, v78, v79, v80, v81, v82, v83, v84, v85, v86, v87, v88, v89, v90, v91, v92, v93, v94, v95, v96, v97, v98, v99, v100, v101, v102, v103, v104, v105, v106, v107, v108, v109, v110, v111, v112, v113, v114, v115, v116, v117, v118, v119, v120, v121, v122, v123, v124, v125, v126, v127, v128, v129, v130, v131, v132, v133, v134, v135, v136, v137, v138, v139, v140, v141, v142, v143, v144, v145, v146, v147, v148, v149, v150, v151, v152, v153, v154, v155, v156, v157, v158, v159, v160, v161, v162, v163, v164, v165, v166, v167, v168, v169, v170, v171, v172, v173, v174, v175, v176, v177, v178, v179, v180, v181, v182, v183, v184, v185, v186, v187, v188, v189, v190, v191, v192, v193, v194, v195, v196, v197, v198, v199, v200, v201, v202, v203, v204, v205, v206, v207, v208, v209, v210, v211, v212, v213, v214, v215, v216, v217, v218, v219, v220, v221, v222, v223, v224, v225, v226, v227, v228, v229, v230, v231, v232, v233, v234, v235, v236, v237, v238, v239, v240, v241, v242, v243, v244, v245, v246, v247, v248, v249, v250, v251, v252, v253, v254, v255, v256, v257, v258, v259, v260, v261, v262, v263, v264, v265, v266, v267, v268, v269, v270, v271, v272, v273, v274, v275, v276, v277, v278, v279, v280, v281, v282, v283, v284, v285, v286, v287, v288], []⟩ w10)
    (u0 u5 u7 u8 u9 u13 u14 u15 u16 u17 u18 u19 u20 u21 u22 u23 u24 u25 u26 u27 u28 u29 u30 u31 u32 u33 u34 u35 u36 u37 u38 u39 u40 u41 u42 u43 u44 u45 u46 u47 u48 u49 u50 u51 u52 u53 u54 u55 u56 u57 u58 u59 u60 u61 u62 u63 u64 u65 u66 u67 u68 u69 u70 u71 u72 u73 u74 u75 u76 u77 u78 u79 u80 u81 u82 u83 u84 u85 u86 u87 u88 u89 u90 u91 u92 u93 u94 u95 u96 u97 u98 u99 u100 u101 u102 u103 u104 u105 u106 u107 u108 u109 u110 u111 u112 u113 u114 u115 u116 u117 u118 u119 u120 u121 u122 u123 u124 u125 u126 u127 u128 u129 u130 u131 u132 u133 u134 u135 u136 u137 u138 u139 u140 u141 u142 u143 u144 u145 u146 u147 u148 u149 u150 u151 u152 u153 u154 u155 u156 u157 u158 u159 u160 u161 u162 u163 u164 u165 u166 u167 u168 u169 u170 u171 u172 u173 u174 u175 u176 u177 u178 u179 u180 u181 u182 u183 u184 u185 u186 u187 u188 u189 u190 u191 u192 u193 u194 u195 u196 u197 u198 u199 u200 u201 u202 u203 u204 u205 u206 u207 u208 u209 u210 u211 u212 u213 u214 u215 u216 u217 u218 u219 u220 u221 u222 u223 u224 u225 u226 u227 u228 u229 u230 u231 u232 u233 u234 u235 u236 u237 u238 u239 u240 u241 u242 u243 u244 u245 u246 u247 u248 u249 u250 u251 u252 u253 u254 u255 u256 u257 u258 u259 u260 u261 u262 u263 u264 u265 u266 u267 u268 u269 u270 u271 u272 u273 u274 u275 u276 u277 u278 u279 u280 u281 u282 u283 u284 u285 u286 u287 u288 : Value) :
    Code.wp Tryd.prog (withRest 3 (dropSeq 10 rrBody) R) (bodyPost Tryd.prog Tryd.f15 (RPost N c o w)) ⟨#[u0, .pointer (some ⟨w.heap.size, 0, none⟩), .pointer (some ⟨w.heap.size + 1, 0, none⟩), .int .i64 0, .slice av (N + c.length) cv, u5, .pointer (some ⟨gR, 0, none⟩), u7, u8, u9, .slice (some ⟨NB, 0, none⟩) (N + C.length) (N + C.length), .bool (hasV vs o (-2)), .bool (hasV vs o (-1)), u13, u14, u15, u16, u17, u18, u19, u20, u21, u22, u23, u24, u25, u26, u27, u28, u29, u30, u31, u32, u33, u34, u35, u36, u37, u38, u39, u40, u41, u42, u43, u44, u45, u46, u47, u48, u49, u50, u51, u52, u53, u54, u55, u56, u57, u58, u59, u60, u61, u62, u63, u64, u65, u66, u67, u68, u69, u70, u71, u72, u73, u74, u75, u76, u77, u78, u79, u80, u81, u82, u83, u84, u85, u86, u87, u88, u89, u90, u91, u92, u93, u94, u95, u96, u97, u98, u99, u100, u101, u102, u103, u104, u105, u106, u107, u108, u109, u110, u111, u112, u113, u114, u115, u116, u117, u118, u119, u120, u121, u122, u123, u124, u125, u126, u127, u128, u129, u130, u131, u132, u133, u134, u135, u136, u137, u138, u139, u140, u141, u142, u143, u144, u145, u146, u147, u148, u149, u150, u151, u152, u153, u154, u155, u156, u157, u158, u159, u160, u161, u162, u163, u164, u165, u166, u167, u168, u169, u170, u171, u172, u173, u174, u175, u176, u177, u178, u179, u180, u181, u182, u183, u184, u185, u186, u187, u188, u189, u190, u191, u192, u193, u194, u195, u196, u197, u198, u199, u200, u201, u202, u203, u204, u205, u206, u207, u208, u209, u210, u211, u212, u213, u214, u215, u216, u217, u218, u219, u220, u221, u222, u223, u224, u225, u226, u227, u228, u229, u230, u231, u232, u233, u234, u235, u236, u237, u238, u239, u240, u241, u242, u243, u244, u245, u246, u247, u248, u249, u250, u251, u252, u253, u254, u255, u256, u257, u258, u259, u260, u261, u262, u263, u264, u265, u266, u267, u268, u269, u270, u271, u272, u273, u274, u275, u276, u277, u278, u279, u280, u281, u282, u283, u284, u285, u286, u287, u288], []⟩ w9 := by
  have HH := hid h
  clear h
  have HUs := hid used_any
  have HR9 := hid (HRE.out.below HNR.out.bel)
  have c0 := HR9.out.c0
  conv => arg 2; whnf; arg 2; whnf; arg 2; whnf
  have hmk2 : ∀ w, (Instr.makeSlice 23 (.int .i64 ((N : Int) + (C.length : Int))) (.int .i64 ((N : Int) + (C.length : Int)))).run Tryd.prog w = .ok (.slice (some ⟨w.heap.size, 0, none⟩) (N + C.length) (N + C.length)) (w.alloc (.cells (madeCells #[.int .i64 0] (N + C.length)) 3)) := fun w => by
    have := run_make_row' (P := Tryd.prog) 23 3 (.int .i64 0) 8 Tryd.underlying23 Tryd.infoInt rfl .i64 .i64 (N + C.length) (by omega) (by omega) w
    rw [Int.natCast_add] at this
    exact this
  have hcast : (((N + C.length : Nat) : Int)) = (N : Int) + (C.length : Int) := Int.natCast_add _ _
  dsimp only
  go_upto_region 39 with fail
  obtain ⟨w5, hw5⟩ : ∃ w5, w9.alloc (.cells (madeCells #[.int .i64 0] (N + C.length)) 3) = w5 := ⟨_, rfl⟩
  have hb5 : Below w9.heap.size w9 w5 := by rw [← hw5]; exact bel_alloc _ _
  have hr5 : w5.rowIs w9.heap.size 3 (N + C.length) (intF fun _ => 0) := by rw [← hw5]; exact (World.rowIs_made w9 (.int .i64 0) (N + C.length) 3).congr fun _ _ => rfl
  have hs5 : w5.heap.size = w9.heap.size + 1 := by rw [← hw5]; simp
  rw [hw5]
  have c0 := keeps hb5 c0
  clear hw5 hmk2
  go_upto_region 40 with fail
  obtain ⟨w6, hw6⟩ : ∃ w6, w5.alloc (.cells #[.int .i64 N, .slice none 0 0, .slice none 0 0] 25) = w6 := ⟨_, rfl⟩
  have HP0 := hid (show PL w9 w9.heap.size w5.heap.size N (N + C.length) (plaS N C nd 0).2 (plaS N C nd 0).1 (.slice none 0 0) w6 from by
    rw [plaS_zero]
    have hb6 : Below w5.heap.size w5 w6 := by rw [← hw6]; exact bel_alloc _ _
    exact ⟨hb5.trans (hb6.mono hb5.size), row_below hr5 hb6, by rw [← hw6]; exact heap_alloc_new w5 _, World.ownsRow_nil _ _ _ _, Nat.le_refl _, hb5.size⟩)
  rw [hw6]
  clear hw6 hr5 hb5 c0
  obtain ⟨gO, hgO⟩ : ∃ gO, w9.heap.size + 1 = gO := ⟨_, rfl⟩
  rw [hs5, hgO] at HP0
  rw [hgO]
  have HGO := hid (show w9.heap.size ≠ gO by omega)
  clear hgO hs5
  obtain ⟨PB, hPB⟩ : ∃ PB, w9.heap.size = PB := ⟨_, rfl⟩
  have HPB := hid hPB
  rw [hPB] at HGO
  have HP0 := hid (show PL w9 PB gO N (N + C.length) (plaS N C nd 0).2 (plaS N C nd 0).1 (.slice none 0 0) w6 by rw [← hPB]; exact HP0.out)
  rw [hPB]
  clear hPB
  go_upto_region 41 with fail
  go_loopw [18] (fun i wr => ∃ k : Nat, k ≤ N + C.length ∧ i = .int .i64 k ∧ ∃ vL, PL w9 PB gO N (N + C.length) (plaS N C nd k).2 (plaS N C nd k).1 vL wr) (fun i _ => N + C.length - (intOf i).toNat)
  case atStart => exact ⟨0, Nat.zero_le _, rfl, _, HP0.out⟩
  case round =>
    obtain ⟨k, hk, rfl, vL, hP⟩ := hrel
    have HP := hid hP
    clear HP0 hP HR9
    have HR := hid ((HRE.out.below HNR.out.bel).below HP.out.bel)
    have c0 := HR.out.c0
    rename World => wm
    by_cases hlt : k < N + C.length
    · have hkM : (k : Int) < (N : Int) + (C.length : Int) := by omega
      have hk0 : (0 : Int) ≤ (k : Int) := by omega
      by_cases hkN : k < N
      · obtain ⟨hl1, hl2⟩ := plaS_low C nd hkN
        have q1 := HP.out.row.cell (i := k) hlt
        have q2 := HP.out.row.frozen k
        simp only [intF] at q1
        have HP2 := hid (show PL w9 PB gO N (N + C.length) (plaS N C nd (k + 1)).2 (plaS N C nd (k + 1)).1 vL (wm.setCell ⟨PB, k, none⟩ (.int .i64 (k : Int))) by rw [hl1]; exact (HP.out.set k (k : Int)).congr fun j _ => hl2 j)
        clear hl1 hl2
        go_wp2
        go_roundw
        case rel => exact ⟨k + 1, by omega, by go_num, _, HP2.out⟩
        case measure => simp [intOf]; omega
      · obtain ⟨r, rfl⟩ : ∃ r, k = N + r := ⟨k - N, by omega⟩
        rw [plaS_high] at HP
        have hr : r < C.length := by omega
        have qn := ((HNR.out.row.cell (i := N + r) (by omega)))
        have qn := keeps HP.out.bel qn
        simp only [bolF] at qn
        have hnN : ¬ ((N + r : Nat) : Int) < (N : Int) := by omega
        have hcr : ((N + r : Nat) : Int) = (N : Int) + (r : Int) := Int.natCast_add _ _
        cases hnd : nd (N + r)
        · rw [hnd] at qn
          have HP2 := hid (show PL w9 PB gO N (N + C.length) (plaS N C nd (N + r + 1)).2 (plaS N C nd (N + r + 1)).1 vL wm by rw [show N + r + 1 = N + (r + 1) by omega, plaS_high, packS_no hnd]; exact HP.out)
          clear hnd
          go_wp2
          go_roundw
          case rel => exact ⟨N + r + 1, by omega, by go_num, _, HP2.out⟩
          case measure => simp [intOf]; omega
        · rw [hnd] at qn
          obtain ⟨x, hx⟩ := some_of_lt hr
          have HT := hid (packS_yes hx hnd)
          have hlen := packS_len N C nd r
          have hok := HCI.out.ok r x hx
          have g1 := HR.out.g1
          obtain ⟨gc, rfl, _, x0, x1, x2⟩ := RS.ins (N := N) (RB := NB) (MB := NB) HR.out.oc hx
          clear hx hnd
          obtain ⟨op, a, bb⟩ := x
          obtain ⟨ha0, ha1, hb0, hb1⟩ := OkI.rng hok hr
          have HOk := hid hok
          clear hok
          have hw1 : IntKind.i64.wrap ((N : Int) + (r : Int) - (N : Int)) = (r : Int) := (IntWalk.i64_in _ (by omega)).trans (by omega)
          go_upto_region 47 with fail
          obtain ⟨wx, hwx⟩ : ∃ wx, wm.alloc (.cells #[.int .i64 op, .int .i64 a, .int .i64 bb] 41) = wx := ⟨_, rfl⟩
          have hbx : Below wm.heap.size wm wx := by rw [← hwx]; exact bel_alloc _ _
          have hxk : wx.heap[wm.heap.size]? = some (.cells #[.int .i64 op, .int .i64 a, .int .i64 bb] 41 (0, 0)) := by rw [← hwx]; exact heap_alloc_new wm _
          rw [hwx]
          have HPx := hid (HP.out.keep hbx)
          have HGx := hid (show wm.heap.size ≠ PB ∧ wm.heap.size ≠ gO ∧ vL.ownBlock ≠ some wm.heap.size ∧ w9.heap.size ≤ wm.heap.size from ⟨by have := HP.out.row.lt; omega, by have := (Array.getElem?_eq_some_iff.1 HP.out.box).1; omega, fun e => by obtain ⟨_, cur, hcc⟩ := own_block HP.out.own e; have := (Array.getElem?_eq_some_iff.1 hcc).1; omega, HP.out.bel.size⟩)
          have qn := keeps hbx qn
          clear hwx hbx x0 x1 x2 g1 c0 HP HR hw1 qn
          generalize wm.heap.size = gx at *
          have y0 := blk_cell (j := 0) hxk rfl
          have y1 := blk_cell (j := 1) hxk rfl
          have y2 := blk_cell (j := 2) hxk rfl
          have yf := blk_frozen (j := 1) hxk
          have qa := HPx.out.row.cell (i := a.toNat) (by omega)
          simp only [intF] at qa
          generalize hA1 : (packS N C nd r).2 a.toNat = A1 at qa
          have HA1 := hid hA1
          have HUx := hid (fun X => HUs.out op X)
          clear hA1
          go_upto_region 48 with fail
          obtain ⟨w11, hw11⟩ : ∃ w11, wx.setCell ⟨gx, 1, none⟩ (.int .i64 A1) = w11 := ⟨_, rfl⟩
          have HX11 := hid (show w11.heap[gx]? = some (.cells #[.int .i64 op, .int .i64 A1, .int .i64 bb] 41 (0, 0)) by rw [← hw11]; simp [World.setCell, Array.getElem?_modify, hxk])
          have HP11 := hid (HPx.out.setBox HGx.out.2.2.2 HGx.out.1 HGx.out.2.1 HGx.out.2.2.1 1 (.int .i64 A1))
          rw [hw11] at HP11 ⊢
          clear hw11 hxk y0 y1 y2 yf qa HPx
          have y0 := blk_cell (j := 0) HX11.out rfl
          have y2 := blk_cell (j := 2) HX11.out rfl
          rcases HOk.out.two with ⟨rfl, rfl, hu, h2⟩ | ⟨hu, h2⟩
          · rw [hu] at HUx
            clear hu
            go_upto_region 50 with (go_at_call 50; refine (HUx.out _).mono ?_; rintro e wu ⟨rfl, rfl⟩; try dsimp only)
            clear y0 y2
            obtain ⟨aL, pL, rfl⟩ := own_slice HP11.out.own
            have c0 := ((HRE.out.below HNR.out.bel).below HP11.out.bel).c0
            have kO := blk_cell (j := 1) HP11.out.box rfl
            have qk := HP11.out.row.cell (i := N + r) (by omega)
            have qf := HP11.out.row.frozen (N + r)
            simp only [intF] at qk
            have hw2 : IntKind.i64.wrap ((N : Int) + ((packS N C nd r).1.length : Int)) = (N : Int) + ((packS N C nd r).1.length : Int) := IntWalk.i64_in _ (by omega)
            go_upto_region 51 with fail
            clear hw2 qk qf c0 kO
            obtain ⟨w20, hw20⟩ : ∃ w20, w11.setCell ⟨PB, N + r, none⟩ (.int .i64 ((N : Int) + ((packS N C nd r).1.length : Int))) = w20 := ⟨_, rfl⟩
            have HP20 := hid (HP11.out.set (N + r) ((N : Int) + ((packS N C nd r).1.length : Int)))
            have hx20 : w20.heap[gx]? = some (.cells #[.int .i64 5, .int .i64 A1, .int .i64 0] 41 (0, 0)) := by rw [← hw20]; exact (Below.heap_setCell _ _ _ _ HGx.out.1).trans HX11.out
            rw [hw20] at HP20 ⊢
            clear hw20
            have z0 := blk_cell (j := 0) hx20 rfl
            have z1 := blk_cell (j := 1) hx20 rfl
            have z2 := blk_cell (j := 2) hx20 rfl
            have kO := blk_cell (j := 1) HP20.out.box rfl
            have HS20 := hid HP20.out.bel.size
            have HT2 := hid (show packS N C nd (r + 1) = ((packS N C nd r).1 ++ [⟨5, A1, 0⟩], plU (packS N C nd r).2 (N + r) ((N + (packS N C nd r).1.length : Nat) : Int)) by rw [HT.out, moved, HA1.out, if_neg (by simp [h2])])
            clear hx20
            go_upto_region 42 with (at_builtin; refine wpList_push w20 rfl _ _ 22 rfl w9.heap.size 41 (.agg #[.int .i64 0, .int .i64 0, .int .i64 0]) 3 24 Tryd.underlying22 Tryd.infoInstr rfl (by decide) (.slice aL (packS N C nd r).1.length pL) (packS N C nd r).1.length (icells (packS N C nd r).1) rfl HP20.out.own #[.int .i64 5, .int .i64 A1, .int .i64 0] rfl (by intro u hu; simp at hu; rcases hu with rfl | rfl | rfl <;> rfl) rfl (by unfold maxLen; omega) (by omega) HS20.out ?_; intro gq capq w21 hown21 hg21 hb21; have HPf := hid (HP20.out.push (x := ⟨5, A1, 0⟩) (vL' := .slice (some ⟨gq, 0, none⟩) ((packS N C nd r).1.length + 1) capq) hg21 (by rw [icells_snoc]; exact hown21)); have kb := (hg21.block gO (Array.getElem?_eq_some_iff.1 HP20.out.box).1 (fun e => by obtain ⟨_, cur, hcc⟩ := own_block HP20.out.own e.symm; rw [HP20.out.box] at hcc; simp only [Option.some.injEq, Obj.cells.injEq] at hcc; exact absurd hcc.2.1 (by decide))).trans HP20.out.box; have k1 := blk_cell (j := 1) kb rfl; have f1 := blk_frozen (j := 1) kb; clear hown21 hg21 hb21 kb)
            go_wp2
            go_roundw
            case rel => exact ⟨N + r + 1, by omega, by go_num, _, by rw [show N + r + 1 = N + (r + 1) by omega, plaS_high, HT2.out]; simp only [Int.natCast_add]; exact HPf.out⟩
            case measure => simp [intOf]; omega
          · rw [hu] at HUx
            clear hu
            have qb := HP11.out.row.cell (i := bb.toNat) (by omega)
            simp only [intF] at qb
            generalize hB1 : (packS N C nd r).2 bb.toNat = B1 at qb
            have HB1 := hid hB1
            have yf := blk_frozen (j := 2) HX11.out
            clear hB1
            go_upto_region 50 with (go_at_call 50; refine (HUx.out _).mono ?_; rintro e wu ⟨rfl, rfl⟩; try dsimp only)
            obtain ⟨w12, hw12⟩ : ∃ w12, w11.setCell ⟨gx, 2, none⟩ (.int .i64 B1) = w12 := ⟨_, rfl⟩
            have HX12 := hid (show w12.heap[gx]? = some (.cells #[.int .i64 op, .int .i64 A1, .int .i64 B1] 41 (0, 0)) by rw [← hw12]; simp [World.setCell, Array.getElem?_modify, HX11.out])
            have HP12 := hid (HP11.out.setBox HGx.out.2.2.2 HGx.out.1 HGx.out.2.1 HGx.out.2.2.1 2 (.int .i64 B1))
            rw [hw12] at HP12 ⊢
            clear hw12 y0 y2 yf qb
            obtain ⟨aL, pL, rfl⟩ := own_slice HP12.out.own
            have c0 := ((HRE.out.below HNR.out.bel).below HP12.out.bel).c0
            have kO := blk_cell (j := 1) HP12.out.box rfl
            have qk := HP12.out.row.cell (i := N + r) (by omega)
            have qf := HP12.out.row.frozen (N + r)
            simp only [intF] at qk
            have hw2 : IntKind.i64.wrap ((N : Int) + ((packS N C nd r).1.length : Int)) = (N : Int) + ((packS N C nd r).1.length : Int) := IntWalk.i64_in _ (by omega)
            go_upto_region 51 with fail
            clear hw2 qk qf c0 kO
            obtain ⟨w20, hw20⟩ : ∃ w20, w12.setCell ⟨PB, N + r, none⟩ (.int .i64 ((N : Int) + ((packS N C nd r).1.length : Int))) = w20 := ⟨_, rfl⟩
            have HP20 := hid (HP12.out.set (N + r) ((N : Int) + ((packS N C nd r).1.length : Int)))
            have hx20 : w20.heap[gx]? = some (.cells #[.int .i64 op, .int .i64 A1, .int .i64 B1] 41 (0, 0)) := by rw [← hw20]; exact (Below.heap_setCell _ _ _ _ HGx.out.1).trans HX12.out
            rw [hw20] at HP20 ⊢
            clear hw20
            have z0 := blk_cell (j := 0) hx20 rfl
            have z1 := blk_cell (j := 1) hx20 rfl
            have z2 := blk_cell (j := 2) hx20 rfl
            have kO := blk_cell (j := 1) HP20.out.box rfl
            have HS20 := hid HP20.out.bel.size
            have HT2 := hid (show packS N C nd (r + 1) = ((packS N C nd r).1 ++ [⟨op, A1, B1⟩], plU (packS N C nd r).2 (N + r) ((N + (packS N C nd r).1.length : Nat) : Int)) by rw [HT.out, moved, HA1.out, if_pos h2, HB1.out])
            clear hx20
            go_upto_region 42 with (at_builtin; refine wpList_push w20 rfl _ _ 22 rfl w9.heap.size 41 (.agg #[.int .i64 0, .int .i64 0, .int .i64 0]) 3 24 Tryd.underlying22 Tryd.infoInstr rfl (by decide) (.slice aL (packS N C nd r).1.length pL) (packS N C nd r).1.length (icells (packS N C nd r).1) rfl HP20.out.own #[.int .i64 op, .int .i64 A1, .int .i64 B1] rfl (by intro u hu; simp at hu; rcases hu with rfl | rfl | rfl <;> rfl) rfl (by unfold maxLen; omega) (by omega) HS20.out ?_; intro gq capq w21 hown21 hg21 hb21; have HPf := hid (HP20.out.push (x := ⟨op, A1, B1⟩) (vL' := .slice (some ⟨gq, 0, none⟩) ((packS N C nd r).1.length + 1) capq) hg21 (by rw [icells_snoc]; exact hown21)); have kb := (hg21.block gO (Array.getElem?_eq_some_iff.1 HP20.out.box).1 (fun e => by obtain ⟨_, cur, hcc⟩ := own_block HP20.out.own e.symm; rw [HP20.out.box] at hcc; simp only [Option.some.injEq, Obj.cells.injEq] at hcc; exact absurd hcc.2.1 (by decide))).trans HP20.out.box; have k1 := blk_cell (j := 1) kb rfl; have f1 := blk_frozen (j := 1) kb; clear hown21 hg21 hb21 kb)
            go_wp2
            go_roundw
            case rel => exact ⟨N + r + 1, by omega, by go_num, _, by rw [show N + r + 1 = N + (r + 1) by omega, plaS_high, HT2.out]; simp only [Int.natCast_add]; exact HPf.out⟩
            case measure => simp [intOf]; omega
    · obtain rfl : k = N + C.length := by omega
      rw [plaS_high] at HP
      clear hlt hk HR
      go_wp2_with fail
      exact HH.out _ _ _ _ _ _ _ _ _ _ _ _ _ _ _ _ _ _ _ _ _ _ _ _ _ _ _ _ _ _ _ _ _ _ _ _ _ _ _ _ _ _ _ _ _ _ _ _ _ _ _ _ _ _ _ _ _ _ _ _ _ _ _ _ _ _ _ _ _ _ _ _ _ _ _ _ _ _ _ _ _ _ _ _ _ _ _ _ _ _ _ _ _ _ _ _ _ _ _ _ _ _ _ _ _ _ _ _ _ _ _ _ _ _ _ _ _ _ _ _ _ _ _ _ _ _ _ _ _ _ _ _ _ _ _ _ _ _ _ _ _ _ _ _ _ _ _ _ _ _ _ _ _ _ _ _ _ _ _ _ _ _ _ _ _ _ _ _ _ _ _ _ _ _ _ _ _ _ _ _ _ _ _ _ _ _ _ _ _ _ _ _ _ _ _ _ _ _ _ _ _ _ _ _ _ _ _ _ _ _ _ _ _ _ _ _ _ _ _ _ _ _ _ _ _ _ _ _ _ _ _ _ _ _ _ _ _ _ _ _ _ _ _ _ _ _ _ _ _ _ _ _ _ _ _ _ _ _ _ _ _ _ _ _ _ _ _ _ _ _ _ _ _ _ _ _ _ _ _ _ _ _ _ _ HP
end Go.Proofs.YtgfeknjhkciooaaDoor
