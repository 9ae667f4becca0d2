/-
  program.Reduce, cut: the code behind its n-th statement; the last part: the constants, the outputs, the end.
  The facts that the parts ahead leave.
-/
import Derived.Test.YtcdfghogmdhfcaaGreatDoorPrRedM
namespace Go.Proofs.YtcdfghogmdhfcaaGreatDoor
open Go.RowKit Go.Deep
set_option linter.unusedVariables false

/-- What program.Reduce yields. -/
def RPost (n : Int) (c : List Ins) (o : List Int) (w : World) (e : Ending) (w' : World) : Prop :=
  ∃ vc vo, e = .returned (.tuple #[.agg #[.int .i64 (redI n c o), vc, vo], .int .i64 (redE n c o)]) ∧ w'.ownsRow w.heap.size 47 3 vc (redN n c o).length (icells (redN n c o)) ∧ w'.ownsRow w.heap.size 3 1 vo (redP n c o).length (ints (redP n c o)) ∧ Below w.heap.size w w'
/-- The n-th right part of a chain of statements. -/
def dropSeq : Nat → Code → Code
  | 0, c => c
  | n + 1, .seq _ b => dropSeq n b
  | _ + 1, c => c
noncomputable def redBody : Code := (Tryz.f18.body).getD .skip

set_option maxRecDepth 1000000 in
set_option maxHeartbeats 8000000 in
theorem red_end (w w1 wm w8 wr : World) (N g NB cv co : Nat) (c C oc : List Ins) (o vs : List Int) (nd : Nat → Bool) (pl : Nat → Int) (av ao : Option Addr) (va : Value)
    (HPost : Hid (∀ e w', (∃ vc vo, e = .returned (.tuple #[.agg #[.int .i64 N, vc, vo], .int .i64 0]) ∧ w'.ownsRow w.heap.size 47 3 vc (redC N c o).length (icells (redC N c o)) ∧ w'.ownsRow w.heap.size 3 1 vo (redO N c o).length (ints (redO N c o)) ∧ Below w.heap.size w w') → RPost N c o w e w'))
    (HO : Hid (Sl 1 w (.slice ao o.length co) o.length (ints o))) (HB7 : Hid (Below w.heap.size w wm)) (HOE : Hid (∀ k ∈ o, 0 ≤ k ∧ k < (N : Int) + c.length))
    (HFv : Hid (∀ k ∈ o, -2 ≤ vs.getD k.toNat 0 ∧ vs.getD k.toNat 0 < ((N + C.length : Nat) : Int)))
    (HVal : Hid (wm.ownsRow (w1.heap.size + 2) 3 1 (.slice av (N + c.length) cv) (N + c.length) (ints vs)))
    (HR7 : Hid (wm.rowIs (w.heap.size + 1) 28 3 (p3 0 (.slice none 0 0) (.slice none 0 0))))
    (HN : Hid (NS wm g NB (NB + 1) (N + C.length) o.length nd (cfK vs o) w8))
    (HD8 : Hid (∀ X, Below w8.heap.size w8 X → X.cell? ⟨w.heap.size, 0, none⟩ = some (.int .i64 N) ∧ X.cell? ⟨w.heap.size, 2, none⟩ = some (.slice ao o.length co)))
    (HG1 : Hid (redC N c o = oc ++ constL (hasV vs o (-2)) (hasV vs o (-1))))
    (HG2 : Hid (redO N c o = o.map fun k => outV N oc.length (hasV vs o (-2)) pl (vs.getD k.toNat 0)))
    (HQ : Hid (QS w8 N oc [] (N + C.length) (plZ pl) va (.slice none 0 0) wr))
    (hoc : oc.length ≤ C.length) (f2 : C.length ≤ c.length) (hvl : vs.length = N + c.length) (hN24 : N ≤ 24) (hc6 : c.length ≤ 65536) (ho6 : o.length ≤ 65536) (ho1 : o.length ≤ co) (ho2 : co ≤ 9223372036854775807)
    (u0 u4 u6 u7 u8 u9 u10 u11 u12 u13 u15 u16 u17 u18 u19 u22 u23 u24 u25 u26 u27 u28 u29 u30 u31 u32 u33 u34 u35 u36 u37 u38 u39 u40 u41 u42 u43 u44 u45 u46 u47 u48 u49 u50 u51 u52 u53 u54 u55 u56 u57 u58 u59 u60 u61 u62 u63 u64 u65 u66 u67 u68 u69 u70 u71 u72 u73 u74 u75 u76 u77 u78 u79 u80 u81 u82 u83 u84 u85 u86 u87 u88 u89 u90 u91 u92 u93 u94 u95 u96 u97 u98 u99 u100 u101 u102 u103 u104 u105 u106 u107 u108 u109 u110 u111 u112 u113 u114 u115 u116 u117 u118 u119 u120 u121 u122 u123 u124 u125 u126 u127 u128 u129 u130 u131 u132 u133 u134 u135 u136 u137 u138 u139 u140 u141 u142 u143 u144 u145 u146 u147 u148 u149 u150 u151 u152 u153 u154 u155 u156 u157 u158 u159 u160 u161 u162 u163 u164 u165 u166 u167 u168 u169 u170 u171 u172 u173 u174 u175 u176 u177 u178 u179 u180 u181 u182 u183 u184 u185 u186 u187 u188 u189 u190 u191 u192 u193 u194 u195 u196 u197 u198 u199 u200 u201 u202 u203 u204 u205 u206 u207 u208 u209 u210 u211 u212 u213 u214 u215 u216 u217 u218 u219 u220 u221 u222 u223 u224 u225 u226 u227 u228 u229 u230 u231 u232 u233 u234 u235 u236 u237 u238 u239 u240 u241 u242 u243 u244 u245 u246 u247 u248 u249 u250 u251 u252 u253 u254 u255 u256 u257 u258 u259 u260 u261 u262 u263 u264 u265 u266 u267 u268 u269 u270 u271 u272 u273 u274 u275 u276 u277 u278 u279 u280 u281 : Value) :
    Code.wp Tryz.prog (dropSeq 15 redBody) (bodyPost Tryz.prog Tryz.f18 (RPost N c o w)) ⟨#[u0, .pointer (some ⟨w.heap.size, 0, none⟩), .pointer (some ⟨w.heap.size + 1, 0, none⟩), .int .i64 0, u4, .slice av (N + c.length) cv, u6, u7, u8, u9, u10, u11, u12, u13, .map (some (NB + 1)), u15, u16, u17, u18, u19, .pointer (some ⟨w8.heap.size, 0, none⟩), .map (some (w8.heap.size + 1)), u22, u23, u24, u25, u26, u27, u28, u29, u30, u31, u32, u33, u34, u35, u36, u37, u38, u39, u40, u41, u42, u43, u44, u45, u46, u47, u48, u49, u50, u51, u52, u53, u54, u55, u56, u57, u58, u59, u60, u61, u62, u63, u64, u65, u66, u67, u68, u69, u70, u71, u72, u73, u74, u75, u76, u77, u78, u79, u80, u81, u82, u83, u84, u85, u86, u87, u88, u89, u90, u91, u92, u93, u94, u95, u96, u97, u98, u99, u100, u101, u102, u103, u104, u105, u106, u107, u108, u109, u110, u111, u112, u113, u114, u115, u116, u117, u118, u119, u120, u121, u122, u123, u124, u125, u126, u127, u128, u129, u130, u131, u132, u133, u134, u135, u136, u137, u138, u139, u140, u141, u142, u143, u144, u145, u146, u147, u148, u149, u150, u151, u152, u153, u154, u155, u156, u157, u158, u159, u160, u161, u162, u163, u164, u165, u166, u167, u168, u169, u170, u171, u172, u173, u174, u175, u176, u177, u178, u179, u180, u181, u182, u183, u184, u185, u186, u187, u188, u189, u190, u191, u192, u193, u194, u195, u196, u197, u198, u199, u200, u201, u202, u203, u204, u205, u206, u207, u208, u209, u210, u211, u212, u213, u214, u215, u216, u217, u218, u219, u220, u221, u222, u223, u224, u225, u226, u227, u228, u229, u230, u231, u232, u233, u234, u235, u236, u237, u238, u239, u240, u241, u242, u243, u244, u245, u246, u247, u248, u249, u250, u251, u252, u253, u254, u255, u256, u257, u258, u259, u260, u261, u262, u263, u264, u265, u266, u267, u268, u269, u270, u271, u272, u273, u274, u275, u276, u277, u278, u279, u280, u281], []⟩ wr := by
  conv => arg 2; whnf
  have HQs := hid (show QS w8 N (cstS N (cfK vs o) oc (plZ pl) 0).1 [] (N + C.length + 0) (cstS N (cfK vs o) oc (plZ pl) 0).2 va (.slice none 0 0) wr from HQ.out)
  go_upto_region 65 with fail
  obtain ⟨wk, hwk⟩ : ∃ wk, wr.alloc (.cells #[.int .i64 (-2), .int .i64 (-1)] 3) = wk := ⟨_, rfl⟩
  have hbk : Below wr.heap.size wr wk := by rw [← hwk]; exact bel_alloc _ _
  have hrk : wk.rowIs wr.heap.size 3 2 (fun j => .int .i64 ((j : Int) - 2)) := by
    rw [← hwk]
    refine World.rowIs_alloc _ _ _ _ ?_
    intro i hi
    have hi' : i < 2 := hi
    have : i = 0 ∨ i = 1 := by omega
    rcases this with rfl | rfl <;> rfl
  rw [hwk]
  have HQk := hid (HQs.out.keep hbk)
  have HRk := hid hrk
  have hgk := HQ.out.hi
  generalize wr.heap.size = gk at *
  clear hwk hbk hrk HQs HQ
  go_loopw [237] (fun i wr => ∃ k : Nat, k ≤ 2 ∧ i = .int .i64 k ∧ ∃ va, QS w8 N (cstS N (cfK vs o) oc (plZ pl) k).1 [] (N + C.length + k) (cstS N (cfK vs o) oc (plZ pl) k).2 va (.slice none 0 0) wr ∧ wr.rowIs gk 3 2 (fun j => .int .i64 ((j : Int) - 2))) (fun i _ => 2 - (intOf i).toNat)
  case atStart => exact ⟨0, Nat.zero_le _, rfl, _, HQk.out, HRk.out⟩
  case round =>
    obtain ⟨k, hk, rfl, va, hQ, hR⟩ := hrel
    clear HQk HRk
    have HQ := hid hQ
    have HRr := hid hR
    clear hQ hR
    by_cases hlt : k < 2
    · have x0 : wr.cell? ⟨gk, k, none⟩ = some (.int .i64 ((k : Int) - 2)) := HRr.out.cell (i := k) hlt
      have hcl := cst_len N (cfK vs o) oc (plZ pl) k
      obtain ⟨d0, _⟩ := HD8.out _ HQ.out.bel
      have hlook := (HN.out.keep HQ.out.bel).map.look ((k : Int) - 2) (by unfold Ok64; omega)
      cases hh : cfK vs o ((k : Int) - 2)
      · rw [hh] at hlook
        have HQx := hid (HQ.out.mono (show N + C.length + k ≤ N + C.length + (k + 1) by omega))
        rw [← cst_no (N := N) (oc := oc) (pl := plZ pl) hh] at HQx
        clear hh
        go_wp2
        go_roundw
        case rel => exact ⟨k + 1, by omega, by go_num, _, HQx.out, HRr.out⟩
        case measure => simp [intOf]; omega
      · rw [hh] at hlook
        have HCs := hid (cst_yes (N := N) (oc := oc) (pl := plZ pl) hh)
        clear hh
        generalize hST : cstS N (cfK vs o) oc (plZ pl) k = ST at *
        clear hST
        obtain ⟨qc, qp⟩ := ST
        simp only at hcl HCs HQ
        obtain ⟨aq, cq, rfl⟩ := own_slice HQ.out.c
        obtain ⟨_, k1, _, kf, _⟩ := HQ.out.cells
        have hlenq : qc.length ≤ 70000 := by omega
        have hw2 : IntKind.i64.wrap ((N : Int) + (qc.length : Int)) = (N : Int) + (qc.length : Int) := IntWalk.i64_in _ (by omega)
        have hw3 : IntKind.i64.wrap ((k : Int) - 2 - -2) = (k : Int) := (IntWalk.i64_in _ (by omega)).trans (by omega)
        have hw4 : IntKind.i64.wrap ((k : Int) + 1) = (k : Int) + 1 := IntWalk.i64_in _ (by omega)
        obtain ⟨w10, hrun10, hm10, hg10⟩ := HQ.out.map.store (by omega) ((k : Int) - 2) ((N : Int) + (qc.length : Int)) (by unfold Ok64; omega) (by unfold Ok64; omega)
        have HQ10 := hid (HQ.out.put hg10 hm10)
        have HR10 := hid (row_grown HRr.out hg10 (by simp only [ne_eq, Option.some.injEq]; omega))
        obtain ⟨_, K1, _, _, _⟩ := HQ10.out.cells
        have hhi := HQ10.out.hi
        clear hm10 hg10
        go_wp2_with (at_builtin; refine wpList_push w10 rfl _ _ 25 rfl (w8.heap.size + 2) 47 (.agg #[.int .i64 0, .int .i64 0, .int .i64 0]) 3 24 Tryz.underlying25 Tryz.infoInstr rfl (by decide) (.slice aq qc.length cq) qc.length (icells qc) rfl HQ10.out.c #[.int .i64 ((k : Int) + 1), .int .i64 0, .int .i64 0] rfl (by intro u hu; simp at hu; rcases hu with rfl | rfl | rfl <;> rfl) rfl (by unfold maxLen; omega) (by omega) hhi ?_; intro gv capv w11 hown11 hg11 hb11; have hq11 := row_grown HQ10.out.q hg11 (row_ne_low53 HQ10.out.c (by omega)); have k11 := hq11.cell (i := 1) (by omega); have kf11 := hq11.frozen 1)
        have HQ11 := hid (HQ10.out.pushC (x := ⟨(k : Int) + 1, 0, 0⟩) hg11 hown11)
        have HR11 := hid ((row_grown HR10.out hg11 (row_apart53 HR10.out HQ10.out.c (by decide))).setOther (by show gk ≠ w8.heap.size; omega) (.slice (some ⟨gv, 0, none⟩) (qc.length + 1) capv) (a := ⟨w8.heap.size, 1, none⟩))
        clear hown11 hg11 hb11 hq11 k11 kf11 hrun10
        go_roundw
        case rel => exact ⟨k + 1, by omega, by go_num, _, by rw [HCs.out]; exact HQ11.out, HR11.out⟩
        case measure => simp [intOf]; omega
    · have e : k = 2 := by omega
      subst e
      have HCC := hid (cst_code N (cfK vs o) oc (plZ pl))
      have HPP := hid (fun v => @cst_pl N (cfK vs o) oc pl v)
      have HGr := hid hgk
      clear HRr hgk
      generalize hST : cstS N (cfK vs o) oc (plZ pl) 2 = ST at *
      clear hST
      obtain ⟨CC, PL⟩ := ST
      simp only at HCC HPP HQ
      have HQs := hid (show QS w8 N CC ((o.take 0).map fun x => PL (vs.getD x.toNat 0)) (N + C.length + 2) PL va (.slice none 0 0) wr from HQ.out)
      obtain ⟨_, d2⟩ := HD8.out _ HQ.out.bel
      go_upto_region 72 with fail
      clear d2 HQ
      go_loopw [265] (fun i wr => ∃ k : Nat, k ≤ o.length ∧ i = .int .i64 k ∧ ∃ vb, QS w8 N CC ((o.take k).map fun x => PL (vs.getD x.toNat 0)) (N + C.length + 2) PL va vb wr) (fun i _ => o.length - (intOf i).toNat)
      case atStart => exact ⟨0, Nat.zero_le _, rfl, _, HQs.out⟩
      case round =>
        obtain ⟨k, hk, rfl, vb, hQ⟩ := hrel
        clear HQs
        have HQ := hid hQ
        clear hQ
        by_cases hlt : k < o.length
        · obtain ⟨x, hx⟩ := some_of_lt hlt
          have HT := hid (show (o.take (k + 1)).map (fun x => PL (vs.getD x.toNat 0)) = (o.take k).map (fun x => PL (vs.getD x.toNat 0)) ++ [PL (vs.getD x.toNat 0)] by rw [take_snoc hx, List.map_append]; rfl)
          have hxr := HOE.out x (List.mem_of_getElem? hx)
          have hvr := HFv.out x (List.mem_of_getElem? hx)
          have hbl := HN.out.bel.trans (HQ.out.bel.mono HN.out.bel.size)
          obtain ⟨bo, oo, rfl, x0⟩ := ((HO.out.below HB7.out).below hbl).cell (show (ints o)[k]? = some (.int .i64 x) by simp [ints, hx])
          obtain ⟨gr, rfl, hgr, va'⟩ := own_num (j := x.toNat) (own_below HVal.out hbl) (by omega)
          have hx0 := hxr.1
          have hx1 : x < (N : Int) + c.length := hxr.2
          have hol : ((o.take k).map fun x => PL (vs.getD x.toNat 0)).length = k := by rw [List.length_map, List.length_take]; omega
          generalize (o.take k).map (fun x => PL (vs.getD x.toNat 0)) = ov at *
          generalize vs.getD x.toNat 0 = V at *
          clear hx hxr hbl
          subst hol
          obtain ⟨aq, cq, rfl⟩ := own_slice HQ.out.o
          have hlookd := (HQ.out.keep (below_now ⟨rfl, rfl, rfl⟩ (.inl rfl) : Below wr.heap.size wr wr.drew)).map.look V (by unfold Ok64; omega)
          obtain ⟨_, _, k2, _, kf⟩ := HQ.out.cells
          have k2a : (wr.alloc (.cells #[.int .i64 (PL V)] 3)).cell? ⟨w8.heap.size, 2, none⟩ = some (.slice aq ov.length cq) := keeps (bel_alloc _ _) k2
          have hhi := HQ.out.hi
          have hhk : ov.length ≤ 65536 := by omega
          have HLl := hid (World.block_lt_of_cell? _ _ k2)
          go_upto_region 74 with fail
          refine wp_then_var fun K1 HK1 HK2 => ?_
          go_cut [28] (fun v w' => v = .int .i64 x ∧ ∃ vb, QS w8 N CC (ov ++ [PL V]) (N + C.length + 2) PL va vb w')
          case first =>
            go_region_law ((refine step_push (by rfl) _ _ 26 (by rfl) (w8.heap.size + 2) 3 (.int .i64 0) 1 8 Tryz.underlying26 Tryz.infoInt rfl (by decide) (.slice aq ov.length cq) ov.length (ints ov) (by rfl) (own_below HQ.out.o (below_now ⟨rfl, rfl, rfl⟩ (.inr ⟨_, rfl⟩))) wr.heap.size #[.int .i64 (PL V)] rfl (oneCell_int _ _) (by rfl) (heap_alloc_new _ _) (by unfold maxLen; omega) (by omega) (by simp; omega) ?_; intro gv gc w3 hown3 hg3 hb3; have hp3 := row_grown (HQ.out.keep (below_now ⟨rfl, rfl, rfl⟩ (.inr ⟨_, rfl⟩) : Below wr.heap.size wr (wr.alloc (.cells #[.int .i64 (PL V)] 3)).drew)).q hg3 (row_ne_low53 HQ.out.o (by omega)); have k1 := hp3.cell (i := 2) (by omega); have kf1 := hp3.frozen 2))
            all_goals
              have HQ3 := hid ((HQ.out.keep (below_now ⟨rfl, rfl, rfl⟩ (.inr ⟨_, rfl⟩) : Below wr.heap.size wr (wr.alloc (.cells #[.int .i64 (PL V)] 3)).drew)).pushO hg3 hown3)
              clear hp3 k1 kf1 hown3 hg3 hb3 hlookd k2 k2a kf
              go_wp2_with fail
              go_meet
              exact ⟨rfl, _, HQ3.out⟩
          case rest =>
            obtain ⟨rfl, vb', hQ3⟩ := hcut
            have HQ3 := hid hQ3
            clear hQ3
            refine HK1.out _ _ ?_
            clear HK1 HK2 hlookd k2 k2a kf x0 va'
            go_wp2
            go_roundw
            case rel => exact ⟨ov.length + 1, by omega, by go_num, _, by rw [HT.out]; exact HQ3.out⟩
            case measure => simp [intOf]; omega
        · have e : k = o.length := by omega
          subst e
          rw [take_all (Nat.le_refl _)] at HQ
          have hbl := HN.out.bel.trans (HQ.out.bel.mono HN.out.bel.size)
          have hR := row_below HR7.out hbl
          have r0 := hR.cell (i := 0) (by omega)
          have r1 := hR.cell (i := 1) (by omega)
          have r2 := hR.cell (i := 2) (by omega)
          have f0 := hR.frozen 0
          have f1 := hR.frozen 1
          have f2 := hR.frozen 2
          simp only [p3] at r0 r1 r2
          obtain ⟨q0, q1, q2, _, _⟩ := HQ.out.cells
          have HB9 := hid (HB7.out.trans (hbl.mono HB7.out.size))
          have hlow : w.heap.size + 2 ≤ w8.heap.size := by have := HN.out.bel.size; have := hbl.size; have := HR7.out.lt; omega
          clear hbl hR
          obtain ⟨aq, cq, rfl⟩ := own_slice HQ.out.c
          obtain ⟨ar, cr, rfl⟩ := own_slice HQ.out.o
          have HO9 := hid (show wr.ownsRow (w8.heap.size + 2) 3 1 (.slice ar o.length cr) (o.map fun x => PL (vs.getD x.toNat 0)).length (ints (o.map fun x => PL (vs.getD x.toNat 0))) by have := HQ.out.o; rw [List.length_map] at this ⊢; exact this)
          go_wp2
          refine bodyPost_ret (v := .tuple #[.agg #[.int .i64 N, .slice aq CC.length cq, .slice ar o.length cr], .int .i64 0]) ?_ rfl (HPost.out _ _ ⟨_, _, rfl, ?_, ?_, ?_⟩)
          · simp [results, Tryz.results18, go_sem, r0, r1, r2]
          · rw [HG1.out, show hasV vs o (-2) = cfK vs o (-2) from rfl, show hasV vs o (-1) = cfK vs o (-1) from rfl, ← HCC.out]
            exact ownsRow_setCell_below (ownsRow_setCell_below (ownsRow_setCell_below (own_base HQ.out.c (show w.heap.size + 2 ≤ _ by omega)) (by show w.heap.size + 1 < w.heap.size + 2; omega) _) (by show w.heap.size + 1 < w.heap.size + 2; omega) _) (by show w.heap.size + 1 < w.heap.size + 2; omega) _ |> fun h => own_base h (by omega)
          · have hO : redO N c o = o.map fun x => PL (vs.getD x.toNat 0) := by
              rw [HG2.out]
              apply List.map_congr_left
              intro x hx
              have hr := HFv.out x hx
              exact (HPP.out _ (fun h => hasV_of hx h) (fun h => hasV_of hx h) (fun h1 h2 => by omega)).symm
            rw [hO]
            exact ownsRow_setCell_below (ownsRow_setCell_below (ownsRow_setCell_below (own_base HO9.out (show w.heap.size + 2 ≤ _ by omega)) (by show w.heap.size + 1 < w.heap.size + 2; omega) _) (by show w.heap.size + 1 < w.heap.size + 2; omega) _) (by show w.heap.size + 1 < w.heap.size + 2; omega) _ |> fun h => own_base h (by omega)
          · exact ((HB9.out.setCell (by show w.heap.size ≤ w.heap.size + 1; omega) _).setCell (by show w.heap.size ≤ w.heap.size + 1; omega) _).setCell (by show w.heap.size ≤ w.heap.size + 1; omega) _
end Go.Proofs.YtcdfghogmdhfcaaGreatDoor
