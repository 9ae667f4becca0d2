/-
  The reference's Reduce, cut: the outputs, the end (statements 16 and 17). (Printed by wip/tools/refred.py.)
  The facts that the parts ahead leave.
-/
import Derived.Test.YtgfeknjhkciooaaDoorRfRedC
namespace Go.Proofs.YtgfeknjhkciooaaDoor
open Go.RowKit Go.Deep
set_option linter.unusedVariables false

structure PO (w9 w11 : World) (PB gO N M : Nat) (f : Nat → Int) (L : List Ins) (vL : Value) (ol : List Int) (vo : Value) (wr : World) : Prop where
  bel : Below w9.heap.size w9 wr
  row : wr.rowIs PB 3 M (intF f)
  box : wr.heap[gO]? = some (.cells #[.int .i64 N, vL, vo] 25 (0, 0))
  own : wr.ownsRow w9.heap.size 41 3 vL L.length (icells L)
  oo : wr.ownsRow w11.heap.size 3 1 vo ol.length (ints ol)
  sz : w11.heap.size ≤ wr.heap.size
  s9 : w9.heap.size ≤ w11.heap.size
  lp : PB < w11.heap.size
  lo : gO < w11.heap.size
  l9 : w9.heap.size ≤ gO
section
variable {w9 w11 wr w' : World} {PB gO N M : Nat} {f : Nat → Int} {L : List Ins} {vL vo : Value} {ol : List Int}
theorem PL.toO (h : PL w9 PB gO N M f L vL w11) : PO w9 w11 PB gO N M f L vL [] (.slice none 0 0) w11 :=
  ⟨h.bel, h.row, h.box, h.own, World.ownsRow_nil _ _ _ _, Nat.le_refl _, h.bel.size, h.row.lt, (Array.getElem?_eq_some_iff.1 h.box).1, h.lo⟩
theorem PO.push (h : PO w9 w11 PB gO N M f L vL ol vo wr) {w5 : World} {vo' : Value} {x : Int} (hg : wr.grownBy w5 vo.ownBlock) (ho : w5.ownsRow w11.heap.size 3 1 vo' (ol.length + 1) (ints ol ++ [.int .i64 x])) :
    PO w9 w11 PB gO N M f L vL (ol ++ [x]) vo' (w5.setCell ⟨gO, 2, none⟩ vo') := by
  obtain ⟨cs, hk⟩ := rowIs_blk h.row
  have hlt : gO < wr.heap.size := (Array.getElem?_eq_some_iff.1 h.box).1
  have hlo := h.lo
  have hlp := h.lp
  have hn1 : some gO ≠ vo.ownBlock := fun e => by have := (own_block h.oo e.symm).1; omega
  have hn2 : some PB ≠ vo.ownBlock := fun e => by have := (own_block h.oo e.symm).1; omega
  have hne : PB ≠ gO := fun e => by
    have := h.box
    rw [← e, hk] at this
    simp only [Option.some.injEq, Obj.cells.injEq] at this
    exact absurd this.2.1 (by decide)
  have kb := (hg.block gO hlt hn1).trans h.box
  have hs9 := h.s9
  refine ⟨(h.bel.grown hg h.bel.size fun k hk => by have := (own_block h.oo hk).1; omega).setCell h.l9 _, (row_grown h.row hg hn2).of_block (Below.heap_setCell _ _ _ _ hne), by simp [World.setCell, Array.getElem?_modify, kb], ?_, ?_, by have := hg.size; have := h.sz; simp; omega, h.s9, h.lp, h.lo, h.l9⟩
  · exact own_set (h.own.kept hg (own_apart h.own h.oo (by decide))) (a := ⟨gO, 2, none⟩) kb (by decide) _
  · rw [List.length_append, show ints (ol ++ [x]) = ints ol ++ [.int .i64 x] by simp [ints]]
    exact own_set ho (a := ⟨gO, 2, none⟩) kb (by decide) _
end
def outF (N m : Nat) (z : Bool) (f : Nat → Int) (vs : List Int) (x : Int) : Int := outV N m z f (vs.getD x.toNat 0)
theorem hasV_of' {vs o : List Int} {k : Int} (hk : k ∈ o) {v : Int} (h : vs.getD k.toNat 0 = v) : hasV vs o v = true := by
  unfold hasV
  rw [List.any_eq_true]
  exact ⟨k, hk, by simpa using h⟩
set_option maxRecDepth 1000000 in
set_option maxHeartbeats 8000000 in
theorem rr_end (w w9 w11 : World) (gR PB gO N m cv co cC : Nat) (c C L : List Ins) (o vs : List Int) (f : Nat → Int) (vL : Value) (av ao aC : Option Addr)
    (HR : Hid (RE w.heap.size gR N c.length C o vs av ao aC cv co cC w9)) (HP : Hid (PL w9 PB gO N (N + C.length) f L vL w11)) (HB9 : Hid (Below w.heap.size w w9)) (hlow : w.heap.size + 1 < w9.heap.size)
    (HOE : Hid (∀ k ∈ o, 0 ≤ k ∧ k < (N : Int) + c.length)) (HFv : Hid (∀ k ∈ o, -2 ≤ vs.getD k.toNat 0 ∧ vs.getD k.toNat 0 < ((N + C.length : Nat) : Int))) (hvl : vs.length = N + c.length)
    (hLl : L.length = m + ((if hasV vs o (-2) then 1 else 0) + (if hasV vs o (-1) then 1 else 0))) (hl : L.length ≤ 65540) (hm : m ≤ 65538) (hN24 : N ≤ 24) (hc6 : c.length ≤ 65536) (hC6 : C.length ≤ c.length) (ho6 : o.length ≤ 65536) (ho1 : o.length ≤ co) (ho2 : co ≤ 9223372036854775807)
    (HPost : Hid (∀ e w', (∃ vc vo, e = .returned (.tuple #[.agg #[.int .i64 N, vc, vo], .int .i64 0]) ∧ w'.ownsRow w.heap.size 41 3 vc L.length (icells L) ∧ w'.ownsRow w.heap.size 3 1 vo (o.map (outF N m (hasV vs o (-2)) f vs)).length (ints (o.map (outF N m (hasV vs o (-2)) f vs))) ∧ Below w.heap.size w w') → RPost N c o w e w'))
    (u0 u5 u7 u8 u9 u10 u11 u12 u13 u14 u15 u18 u19 u21 u22 u23 u24 u25 u26 u27 u28 u29 u30 u31 u32 u33 u34 u35 u36 u37 u38 u39 u40 u41 u42 u43 u44 u45 u46 u47 u48 u49 u50 u51 u52 u53 u54 u55 u56 u57 u58 u59 u60 u61 u62 u63 u64 u65 u66 u67 u68 u69 u70 u71 u72 u73 u74 u75 u76 u77 u78 u79 u80 u81 u82 u83 u84 u85 u86 u87 u88 u89 u90 u91 u92 u93 u94 u95 u96 u97 u98 u99 u100 u101 u102 u103 u104 u105 u106 u107 u108 u109 u110 u111 u112 u113 u114 u115 u116 u117 u118 u119 u120 u121 u122 u123 u124 u125 u126 u127 u128 u129 u130 u131 u132 u133 u134 u135 u136 u137 u138 u139 u140 u141 u142 u143 u144 u145 u146 u147 u148 u149 u150 u151 u152 u153 u154 u155 u156 u157 u158 u159 u160 u161 u162 u163 u164 u165 u166 u167 u168 u169 u170 u171 u172 u173 u174 u175 u176 u177 u178 u179 u180 u181 u182 u183 u184 u185 u186 u187 u188 u189 u190 u191 u192 u193 u194 u195 u196 u197 u198 u199 u200 u201 u202 u203 u204 u205 u206 u207 u208 u209 u210 u211 u212 u213 u214 u215 u216 u217 u218 u219 u220 u221 u222 u223 u224 u225 u226 u227 u228 u229 u230 u231 u232 u233 u234 u235 u236 u237 u238 u239 u240 u241 u242 u243 u244 u245 u246 u247 u248 u249 u250 u251 u252 u253 u254 u255 u256 u257 u258 u259 u260 u261 u262 u263 u264 u265 u266 u267 u268 u269 u270 u271 u272 u273 u274 u275 u276 u277 u278 u279 u280 u281 u282 u283 u284 u285 u286 u287 u288 : Value) :
    Code.wp Tryd.prog (dropSeq 16 rrBody) (bodyPost Tryd.prog Tryd.f15 (RPost N c o w)) ⟨#[u0, .pointer (some ⟨w.heap.size, 0, none⟩), .pointer (some ⟨w.heap.size + 1, 0, none⟩), .int .i64 0, .slice av (N + c.length) cv, u5, .pointer (some ⟨gR, 0, none⟩), u7, u8, u9, u10, u11, u12, u13, u14, u15, .slice (some ⟨PB, 0, none⟩) (N + C.length) (N + C.length), .pointer (some ⟨gO, 0, none⟩), u18, u19, .int .i64 ((N : Int) + (m : Int)), u21, u22, u23, u24, u25, u26, u27, u28, u29, u30, u31, u32, u33, u34, u35, u36, u37, u38, u39, u40, u41, u42, u43, u44, u45, u46, u47, u48, u49, u50, u51, u52, u53, u54, u55, u56, u57, u58, u59, u60, u61, u62, u63, u64, u65, u66, u67, u68, u69, u70, u71, u72, u73, u74, u75, u76, u77, u78, u79, u80, u81, u82, u83, u84, u85, u86, u87, u88, u89, u90, u91, u92, u93, u94, u95, u96, u97, u98, u99, u100, u101, u102, u103, u104, u105, u106, u107, u108, u109, u110, u111, u112, u113, u114, u115, u116, u117, u118, u119, u120, u121, u122, u123, u124, u125, u126, u127, u128, u129, u130, u131, u132, u133, u134, u135, u136, u137, u138, u139, u140, u141, u142, u143, u144, u145, u146, u147, u148, u149, u150, u151, u152, u153, u154, u155, u156, u157, u158, u159, u160, u161, u162, u163, u164, u165, u166, u167, u168, u169, u170, u171, u172, u173, u174, u175, u176, u177, u178, u179, u180, u181, u182, u183, u184, u185, u186, u187, u188, u189, u190, u191, u192, u193, u194, u195, u196, u197, u198, u199, u200, u201, u202, u203, u204, u205, u206, u207, u208, u209, u210, u211, u212, u213, u214, u215, u216, u217, u218, u219, u220, u221, u222, u223, u224, u225, u226, u227, u228, u229, u230, u231, u232, u233, u234, u235, u236, u237, u238, u239, u240, u241, u242, u243, u244, u245, u246, u247, u248, u249, u250, u251, u252, u253, u254, u255, u256, u257, u258, u259, u260, u261, u262, u263, u264, u265, u266, u267, u268, u269, u270, u271, u272, u273, u274, u275, u276, u277, u278, u279, u280, u281, u282, u283, u284, u285, u286, u287, u288], []⟩ w11 := by
  have HLl := hid hLl
  clear hLl
  have HF := hid (show ∀ x, outF N m (hasV vs o (-2)) f vs x = if vs.getD x.toNat 0 = -2 then ((N + m : Nat) : Int) else if vs.getD x.toNat 0 = -1 then ((N + m + (if hasV vs o (-2) then 1 else 0) : Nat) : Int) else f (vs.getD x.toNat 0).toNat from fun _ => rfl)
  generalize hFF : outF N m (hasV vs o (-2)) f vs = F at *
  clear hFF
  obtain ⟨aL, pL, rfl⟩ := own_slice HP.out.own
  conv => arg 2; whnf; arg 2; whnf
  dsimp only
  go_upto_region 58 with fail
  have HP0 := hid (HP.out.toO)
  go_loopw [21] (fun i wr => ∃ k : Nat, k ≤ o.length ∧ i = .int .i64 k ∧ ∃ vo, PO w9 w11 PB gO N (N + C.length) f L (.slice aL L.length pL) ((o.take k).map F) vo wr) (fun i _ => o.length - (intOf i).toNat)
  case atStart => exact ⟨0, Nat.zero_le _, rfl, _, HP0.out⟩
  case round =>
    obtain ⟨k, hk, rfl, vo, hP⟩ := hrel
    have HPk := hid hP
    clear hP HP0
    rename World => wr
    have hbel : Below w9.heap.size w9 wr := HPk.out.bel
    have hRE : RE w.heap.size gR N c.length C o vs av ao aC cv co cC wr := HR.out.below hbel
    have HRk := hid hRE
    clear hRE hbel
    have c2 := HRk.out.c2
    have hlenk : ((o.take k).map F).length = k := by rw [List.length_map, List.length_take]; omega
    obtain ⟨au, pu, rfl⟩ := own_slice HPk.out.oo
    by_cases hlt : k < o.length
    · obtain ⟨x, hx⟩ := some_of_lt hlt
      have HT := hid (show (o.take (k + 1)).map F = (o.take k).map F ++ [F x] by rw [take_snoc hx, List.map_append]; rfl)
      have hxr := HOE.out x (List.mem_of_getElem? hx)
      have hvr := HFv.out x (List.mem_of_getElem? hx)
      have HMem := hid (List.mem_of_getElem? hx)
      obtain ⟨bo, oo, rfl, x0⟩ := HRk.out.so.cell (ints_get hx)
      obtain ⟨gr, rfl, hgr, va⟩ := own_num (j := x.toNat) HRk.out.ov (by omega)
      have hx0 := hxr.1
      have hx1 : x < (N : Int) + c.length := hxr.2
      have hFx := HF.out x
      generalize hV : vs.getD x.toNat 0 = V at va hvr hFx
      have HV := hid hV
      clear hx hxr hV
      have HO2 := hid (show wr.ownsRow w11.heap.size 3 1 (.slice au k pu) k (ints ((o.take k).map F)) by have := HPk.out.oo; rw [hlenk] at this; exact this)
      have k2 := blk_cell (j := 2) HPk.out.box rfl
      by_cases hV2 : V = -2
      · rw [if_pos hV2, Int.natCast_add] at hFx
        subst hV2
        clear hvr
        go_upto_region 59 with (at_builtin; refine wpList_push wr rfl _ _ 23 rfl w11.heap.size 3 (.int .i64 0) 1 8 Tryd.underlying23 Tryd.infoInt rfl (by decide) (.slice au k pu) k (ints ((o.take k).map F)) rfl HO2.out #[.int .i64 ((N : Int) + (m : Int))] rfl (oneCell_int _ _) rfl (by unfold maxLen; omega) (by omega) HPk.out.sz ?_; intro gq capq w21 hown21 hg21 hb21; have HPf := hid (HPk.out.push (x := F x) (vo' := .slice (some ⟨gq, 0, none⟩) (k + 1) capq) (show wr.grownBy w21 (Value.slice au ((o.take k).map F).length pu).ownBlock by rw [hlenk]; exact hg21) (by rw [hFx, hlenk]; exact hown21)); have kb := (hg21.block gO (Array.getElem?_eq_some_iff.1 HPk.out.box).1 (fun e => by have := (own_block HO2.out e.symm).1; have := HPk.out.lo; omega)).trans HPk.out.box; have k2 := blk_cell (j := 2) kb rfl; have f2 := blk_frozen (j := 2) kb; clear hown21 hg21 hb21 kb)
        go_wp2
        go_roundw
        case rel => exact ⟨k + 1, by omega, by go_num, _, by rw [HT.out]; exact HPf.out⟩
        case measure => simp [intOf]; omega
      by_cases hV1 : V = -1
      · have hW : hasV vs o (-1) = true := hasV_of' HMem.out (by rw [HV.out, hV1])
        have hLl := HLl.out
        rw [hW, if_pos rfl] at hLl
        have c0 := HRk.out.c0
        have k1 := blk_cell (j := 1) HPk.out.box rfl
        have hFy : F x = (N : Int) + (L.length : Int) - 1 := by
          rw [hFx, if_neg hV2, if_pos hV1, hLl]
          split <;> omega
        clear hFx
        have hFx := hFy
        clear hFy
        have hw1 : IntKind.i64.wrap ((N : Int) + (L.length : Int)) = (N : Int) + (L.length : Int) := IntWalk.i64_in _ (by omega)
        have hw2 : IntKind.i64.wrap ((N : Int) + (L.length : Int) - 1) = (N : Int) + (L.length : Int) - 1 := IntWalk.i64_in _ (by omega)
        subst hV1
        clear hvr hV2 hW hLl
        go_upto_region 59 with (at_builtin; refine wpList_push wr rfl _ _ 23 rfl w11.heap.size 3 (.int .i64 0) 1 8 Tryd.underlying23 Tryd.infoInt rfl (by decide) (.slice au k pu) k (ints ((o.take k).map F)) rfl HO2.out #[.int .i64 ((N : Int) + (L.length : Int) - 1)] rfl (oneCell_int _ _) rfl (by unfold maxLen; omega) (by omega) HPk.out.sz ?_; intro gq capq w21 hown21 hg21 hb21; have HPf := hid (HPk.out.push (x := F x) (vo' := .slice (some ⟨gq, 0, none⟩) (k + 1) capq) (show wr.grownBy w21 (Value.slice au ((o.take k).map F).length pu).ownBlock by rw [hlenk]; exact hg21) (by rw [hFx, hlenk]; exact hown21)); have kb := (hg21.block gO (Array.getElem?_eq_some_iff.1 HPk.out.box).1 (fun e => by have := (own_block HO2.out e.symm).1; have := HPk.out.lo; omega)).trans HPk.out.box; have k2 := blk_cell (j := 2) kb rfl; have f2 := blk_frozen (j := 2) kb; clear hown21 hg21 hb21 kb)
        go_wp2
        go_roundw
        case rel => exact ⟨k + 1, by omega, by go_num, _, by rw [HT.out]; exact HPf.out⟩
        case measure => simp [intOf]; omega
      rw [if_neg hV2, if_neg hV1] at hFx
      have hVa : 0 ≤ V := by omega
      have hVb : V < (N : Int) + (C.length : Int) := by omega
      have qp := HPk.out.row.cell (i := V.toNat) (by omega)
      simp only [intF] at qp
      have e2 : (V == -2) = false := by simpa using hV2
      have e1 : (V == -1) = false := by simpa using hV1
      clear hvr
      go_upto_region 59 with (at_builtin; refine wpList_push wr rfl _ _ 23 rfl w11.heap.size 3 (.int .i64 0) 1 8 Tryd.underlying23 Tryd.infoInt rfl (by decide) (.slice au k pu) k (ints ((o.take k).map F)) rfl HO2.out #[.int .i64 (f V.toNat)] rfl (oneCell_int _ _) rfl (by unfold maxLen; omega) (by omega) HPk.out.sz ?_; intro gq capq w21 hown21 hg21 hb21; have HPf := hid (HPk.out.push (x := F x) (vo' := .slice (some ⟨gq, 0, none⟩) (k + 1) capq) (show wr.grownBy w21 (Value.slice au ((o.take k).map F).length pu).ownBlock by rw [hlenk]; exact hg21) (by rw [hFx, hlenk]; exact hown21)); have kb := (hg21.block gO (Array.getElem?_eq_some_iff.1 HPk.out.box).1 (fun e => by have := (own_block HO2.out e.symm).1; have := HPk.out.lo; omega)).trans HPk.out.box; have k2 := blk_cell (j := 2) kb rfl; have f2 := blk_frozen (j := 2) kb; clear hown21 hg21 hb21 kb)
      go_wp2
      go_roundw
      case rel => exact ⟨k + 1, by omega, by go_num, _, by rw [HT.out]; exact HPf.out⟩
      case measure => simp [intOf]; omega
    · obtain rfl : k = o.length := by omega
      have HOf := hid (show wr.ownsRow w11.heap.size 3 1 (.slice au ((o.take o.length).map F).length pu) (o.map F).length (ints (o.map F)) by have := HPk.out.oo; rw [take_all (Nat.le_refl _)] at this ⊢; exact this)
      have b0 := blk_cell (j := 0) HPk.out.box rfl
      have b1 := blk_cell (j := 1) HPk.out.box rfl
      have b2 := blk_cell (j := 2) HPk.out.box rfl
      have r0 := blk_cell (j := 0) HRk.out.r rfl
      have r1 := blk_cell (j := 1) HRk.out.r rfl
      have r2 := blk_cell (j := 2) HRk.out.r rfl
      have f0 := blk_frozen (j := 0) HRk.out.r
      have f1 := blk_frozen (j := 1) HRk.out.r
      have f2 := blk_frozen (j := 2) HRk.out.r
      go_wp2_with fail
      refine bodyPost_ret (v := .tuple #[.agg #[.int .i64 N, .slice aL L.length pL, .slice au ((o.take o.length).map F).length pu], .int .i64 0]) ?_ rfl (HPost.out _ _ ⟨_, _, rfl, ?_, ?_, ?_⟩)
      · simp [results, Tryd.results15, go_sem, r0, r1, r2]
      · exact ownsRow_setCell_below (ownsRow_setCell_below (ownsRow_setCell_below (own_base HPk.out.own (show w.heap.size + 2 ≤ _ by omega)) (by show w.heap.size + 1 < w.heap.size + 2; omega) _) (by show w.heap.size + 1 < w.heap.size + 2; omega) _) (by show w.heap.size + 1 < w.heap.size + 2; omega) _ |> fun h => own_base h (by omega)
      · exact ownsRow_setCell_below (ownsRow_setCell_below (ownsRow_setCell_below (own_base HOf.out (show w.heap.size + 2 ≤ _ by have := HPk.out.s9; omega)) (by show w.heap.size + 1 < w.heap.size + 2; omega) _) (by show w.heap.size + 1 < w.heap.size + 2; omega) _) (by show w.heap.size + 1 < w.heap.size + 2; omega) _ |> fun h => own_base h (by omega)
      · exact (((HB9.out.trans (HPk.out.bel.mono (by omega))).setCell (by show w.heap.size ≤ w.heap.size + 1; omega) _).setCell (by show w.heap.size ≤ w.heap.size + 1; omega) _).setCell (by show w.heap.size ≤ w.heap.size + 1; omega) _
end Go.Proofs.YtgfeknjhkciooaaDoor
