/-
  runcode.Tunstall at the example: two probabilities, four words.
  No condition beyond the argument.
-/
import Derived.Test.YtieahckbbohfgaaGreatDoorTunExm
import Derived.Deep.AppendLies
namespace Go.Proofs.YtieahckbbohfgaaGreatDoor
open Go.RowKit Go.Deep
set_option linter.unusedVariables false

def slen : Value → Nat
  | .slice _ n _ => n
  | _ => 0
theorem store1 {w : World} {b : Nat} {y p q : Value} {T : TypeId} {fz : Nat × Nat} (h : w.heap[b]? = some (.cells #[p, q] T fz)) : (w.setCell ⟨b, 1, none⟩ y).heap[b]? = some (.cells #[p, y] T fz) := by
  simp [World.setCell, Array.getElem?_modify, h]
theorem two_of {w : World} {b : Nat} {p q : Value} {T : TypeId} (h : w.heap[b]? = some (.cells #[p, q] T (0, 0))) : w.cell? ⟨b, 0, none⟩ = some p ∧ w.cell? ⟨b, 1, none⟩ = some q ∧ w.frozen? ⟨b, 0, none⟩ = false ∧ w.frozen? ⟨b, 1, none⟩ = false := by
  refine ⟨?_, ?_, Lib.frozen_of_heap h _, Lib.frozen_of_heap h _⟩
  · rw [Lib.cell_of_heap h]; rfl
  · rw [Lib.cell_of_heap h]; rfl
theorem boxedT {w w0 : World} {a : Value} (h : (w.alloc (.cells #[a] 60)).alloc (.cells #[.int .i64 0, .slice none 0 0] 52) = w0) : Below w.heap.size w w0 ∧ w.heap.size + 2 = w0.heap.size ∧ w0.cell? ⟨w.heap.size, 0, none⟩ = some a ∧ w0.heap[w.heap.size + 1]? = some (.cells #[.int .i64 0, .slice none 0 0] 52 (0, 0)) := by
  subst h
  refine ⟨(bel_alloc _ _).alloc (by simp) _, by simp, by simp [go_sem], ?_⟩
  have := heap_alloc_new (w.alloc (.cells #[a] 60)) (.cells #[.int .i64 0, .slice none 0 0] 52)
  rw [World.size_alloc] at this
  exact this
theorem exV_one : nmg 1 = nmg exOne.n ∧ nmg 1 = nmg exOne.d ∧ (⟨#[]⟩ : ByteArray) = exOne.word := ⟨rfl, rfl, rfl⟩
set_option maxRecDepth 100000 in
set_option maxHeartbeats 4000000 in
theorem tunstall_ex (v : Value) (w : World) (hl : Sl 4 w v exP.length (rcells exP)) :
    Calls Tryz.prog 29 #[v, .int .i64 4] w fun e w' => ∃ u, e = .returned (.tuple #[.agg #[.int .i64 2, u], .int .i64 0]) ∧ Sl 1 w' u 4 (strs exW) ∧ Below w.heap.size w w' := by
  have HL := hid hl
  have HDi := hid (fun X h => dist_ex v X h)
  have HOn := hid (fun X => rone_any X)
  unfold RV at HOn
  have HEx := hid (fun bp X (h : Sl 4 X v exP.length (rcells exP)) hv => extend_any exOne bp v X h hv (by decide) exSt_one.2 exSt_one.1)
  have HEk := hid (fun bp k (hk : k < 2) X (h : Sl 4 X v exP.length (rcells exP)) hv => extend_any ((exSt k).getD (exI k) default) bp v X h hv (by have := (exSt_facts k hk).2.2.2.1; omega) (exSt_facts k hk).2.2.2.2.1 (exSt_facts k hk).2.2.2.2.2.1)
  rw [← exV_one.1, ← exV_one.2.1, ← exV_one.2.2] at HEx
  obtain ⟨ao, cap, rfl, -, h2, h3, -⟩ := hl
  rw [show exP.length = 2 from rfl] at *
  generalize nmg 1 = m1 at *
  go_enter Tryz.func29, Tryz.ntmps29
  go_upto_region 1 with fail
  obtain ⟨w0, hw0⟩ : ∃ w0, (w.alloc (.cells #[.slice ao 2 cap] 60)).alloc (.cells #[.int .i64 0, .slice none 0 0] 52) = w0 := ⟨_, rfl⟩
  obtain ⟨hb0, hsz, c0, hr0⟩ := boxedT hw0
  rw [hw0]
  have HB0 := hid hb0
  have HSz := hid hsz
  have HR0 := hid hr0
  have HC0 := hid c0
  have HL0 := hid (HL.out.below hb0)
  clear hw0 hb0 hsz hr0
  go_upto_region 11 with (first
    | (go_at_call 51; refine (HDi.out _ HL0.out).mono ?_; rintro e w1 ⟨rfl, hb1⟩; have HB1 := hid hb1; have c0 := keeps hb1 c0; clear hb1)
    | (go_at_call 54; refine (HOn.out _).mono ?_; rintro e w2 ⟨rfl, hb2⟩; have HB2 := hid (bel_step HB1.out hb2); have c0 := keeps hb2 c0; clear hb2)
    | (go_at_call 52; refine (HEx.out _ _ (HL0.out.below HB2.out) c0).mono ?_; rintro e w3 ⟨v3, rfl, ho3, hb3⟩; have HO3 := hid (own_base ho3 HB2.out.size); have HB3 := hid (bel_step HB2.out hb3); obtain ⟨g3, cp3, rfl, hg3, _⟩ := ho3.form (by decide); clear hb3 ho3 hg3))
  clear c0
  go_loopw [9] (fun u wr => ∃ k : Nat, k ≤ 2 ∧ ∃ g cp, u = .slice (some ⟨g, 0, none⟩) (k + 2) cp ∧ Hid (wr.ownsRow w0.heap.size 89 5 u (k + 2) (lkcells (exSt k))) ∧ Hid (Below w0.heap.size w0 wr)) (fun u _ => 4 - slen u)
  case atStart => exact ⟨0, by decide, g3, cp3, rfl, HO3, HB3⟩
  case round =>
    obtain ⟨k, hk, g, cp, rfl, HO, HB⟩ := hrel
    rename World => wk
    by_cases hkn : k < 2
    · have hxe : ∃ x, (exSt k)[exI k]? = some x ∧ (exSt k).getD (exI k) default = x := by
        obtain ⟨x, hx⟩ := some_of_lt (show exI k < (exSt k).length by rw [(exSt_facts k hkn).1]; exact (exSt_facts k hkn).2.2.1)
        exact ⟨x, hx, getD_of hx⟩
      obtain ⟨f1, f2, f3, f4, -, -, f7⟩ := exSt_facts k hkn
      have HFi := hid (fun X h => first_any (exSt k) (.slice (some ⟨g, 0, none⟩) (k + 2) cp) X h (by rw [f1]; omega) (by rw [f1]; omega) f7)
      have HDl := hid (fun X h => delete_any w0.heap.size g cp (exI k) (exSt k) X h (by rw [f1]; exact f3) (by rw [f1]; omega))
      have HEx := hid (fun X => HEk.out w.heap.size k hkn X)
      have HSt := hid (exSt_step k)
      obtain ⟨x, hx, he⟩ := hxe
      rw [f1, f2] at HFi
      rw [f1, show k + 2 - 1 = k + 1 from rfl] at HDl
      rw [he] at HEx HSt f4
      have hsl := Sl.of_owns HO.out
      rw [← f1] at hsl
      obtain ⟨b, o, e1, d0, d1, d2, d3, d4⟩ := sl_lk hsl hx
      rw [f1] at hsl
      have HSl := hid (show Sl 5 wk (.slice (some ⟨g, 0, none⟩) (k + 2) cp) (exSt k).length (lkcells (exSt k)) by rw [f1]; exact hsl)
      rw [f1] at HSl
      cases e1
      have hw32 : ((x.word.size : Int) == 32) = false := by rw [beq_eq_false_iff_ne]; omega
      have hi1 : exI k ≤ 1 := by unfold exI; split <;> omega
      have HN2 := hid (lkcells_len (extK x 2))
      rw [extK_len] at HN2
      have HNo := hid (lkcells_one (extK x 2))
      clear hx he f1 f2 f4 f7 hsl
      generalize exI k = i at *
      generalize lkcells (extK x 2) = news at *
      generalize lkcells ((exSt k).eraseIdx i) = rest at *
      obtain ⟨xw, xn, xd⟩ := x
      simp only [Nat.zero_add] at d0 d1 d2 d3 d4 HEx hw32
      generalize nmg xn = mN at *
      generalize nmg xd = mD at *
      have q1 : (i : Int) < (k + 2 : Nat) := by omega
      have q2 : i < k + 2 := f3
      have q3 : ((k + 2 : Nat) : Int) + 2 - 1 ≤ 4 := by omega
      have q4 : IntKind.i64.wrap ((i : Int) + 1) = (i : Int) + 1 := IntWalk.i64_in _ (by omega)
      go_upto_region 14 with (go_at_call 55; refine (HFi.out _ HSl.out).mono ?_; rintro e w4 ⟨rfl, hb4⟩; have HO4 := hid (own_below HO.out hb4); have HB4 := hid (bel_step HB.out hb4); have d0 := keeps hb4 d0; have d1 := keeps hb4 d1; have d2 := keeps hb4 d2; have d3 := keeps hb4 d3; have d4 := keeps hb4 d4; clear hb4)
      obtain ⟨w5, hw5⟩ : ∃ w5, w4.alloc (.cells #[.string xw, .bool false, .string mN, .bool false, .string mD] 89) = w5 := ⟨_, rfl⟩
      obtain ⟨hb5, y0, y1, y2, y3, y4⟩ := box5K hw5
      rw [hw5]
      have HO5 := hid (own_below HO4.out hb5)
      have HB5 := hid (bel_step HB4.out hb5)
      have HG := hid (show (some w4.heap.size : Option Nat) ≠ some g from fun e => by have := (HO4.out.lt g rfl).2; simp only [Option.some.injEq] at e; omega)
      clear hw5 hb5 d0 d1 d2 d3 d4
      generalize w4.heap.size = bx at *
      obtain ⟨i0, hi0, hz0, hz1, hz2⟩ := info_parts Tryz.infoLk
      have HBd := hid (show Below w0.heap.size w0 w5.drew from bel_step HB5.out (below_drewN (Below.refl _ _) 1))
      go_upto_region 16 with fail
      go_region_held3 (fun w' => w'.cell? ⟨bx, 0, none⟩ = some (.string xw) ∧ w'.cell? ⟨bx, 1, none⟩ = some (.bool false) ∧ w'.cell? ⟨bx, 2, none⟩ = some (.string mN) ∧ w'.cell? ⟨bx, 3, none⟩ = some (.bool false) ∧ w'.cell? ⟨bx, 4, none⟩ = some (.string mD))
        (first | exact ⟨y0, y1, y2, y3, y4⟩ | go_keep)
        (first
          | (go_at_call 60; refine (HDl.out _ (own_drewN HO5.out 1)).mono ?_; rintro e w6 ⟨rfl, ho6, hg6⟩; have HO6 := hid ho6; have HB6 := hid (HBd.out.grown hg6 HBd.out.size (fun j hj => (HO5.out.lt j hj).1)); have y0 := hg6.cell y0 HG.out; have y1 := hg6.cell y1 HG.out; have y2 := hg6.cell y2 HG.out; have y3 := hg6.cell y3 HG.out; have y4 := hg6.cell y4 HG.out; clear ho6 hg6)
          | (have _g := HB6.out; clear _g; go_at_call 52; refine (HEx.out _ (HL0.out.below HB6.out) (keeps HB6.out HC0.out)).mono ?_; rintro e w7 ⟨v7, rfl, ho7, hb7⟩; obtain ⟨g7, cp7, rfl, _, _⟩ := ho7.form (by decide); have HN7 := hid (fun j u h => ho7.cells (g := g7) rfl j u h); have HO7 := hid (own_below HO6.out hb7); have HB7 := hid (bel_step HB6.out hb7); have y0 := keeps hb7 y0; have y1 := keeps hb7 y1; have y2 := keeps hb7 y2; have y3 := keeps hb7 y3; have y4 := keeps hb7 y4; clear ho7 hb7)
          | (refine step_append_lies _ (by rfl) _ _ 90 (by rfl) w0.heap.size 89 i0 (.agg #[.string ⟨#[]⟩, .bool false, .string ⟨#[]⟩, .bool false, .string ⟨#[]⟩]) 5 64 Tryz.underlying90 hi0 hz0 hz1 hz2 rfl (by decide) (.slice (some ⟨g, 0, none⟩) (k + 1) cp) (k + 1) rest (by rfl) HO7.out ⟨g7, 0, none⟩ 2 cp7 news (by rfl) HN2.out HN7.out HNo.out (by decide) (by unfold maxLen; omega) (by omega) HB7.out.size _ rfl ?_; intro g8 cp8 w8 ho8 hg8 _ _; have HO8 := hid ho8; have HB8 := hid (HB7.out.grown hg8 HB7.out.size (fun j hj => (HO7.out.lt j hj).1)); have y0 := hg8.cell y0 HG.out; have y1 := hg8.cell y1 HG.out; have y2 := hg8.cell y2 HG.out; have y3 := hg8.cell y3 HG.out; have y4 := hg8.cell y4 HG.out; clear ho8 hg8))
      all_goals
        go_wp2
        go_roundw
        case rel => exact ⟨k + 1, by omega, g8, cp8, rfl, hid (by rw [HSt.out]; exact HO8.out), HB8⟩
        case measure => simp [slen]; omega
    · obtain rfl : k = 2 := by omega
      have HLe := hid (show ((exSt 2).map Lk.word).length = 4 by rw [List.length_map, exSt_two])
      have HGt := hid (fun (j : Nat) (x : Lk) (h : (exSt 2)[j]? = some x) => show ((exSt 2).map Lk.word)[j]? = some x.word by rw [List.getElem?_map, h]; rfl)
      have HSo := hid (fun b u X h => sortStrs_any b u ((exSt 2).map Lk.word) X h (by rw [List.length_map, exSt_two]; decide) exSt_nodup (by rw [List.length_map, exSt_two]; decide))
      rw [HLe.out, exSt_words] at HSo
      have HSl := hid (Sl.of_owns HO.out)
      generalize (exSt 2).map Lk.word = ws at *
      clear HEk HEx HDi HOn
      go_upto_region 18 with fail
      obtain ⟨w5, hw5⟩ : ∃ w5, wk.alloc (.cells #[.int .i64 2, .slice none 0 0] 52) = w5 := ⟨_, rfl⟩
      have HK5 := hid (show w5.heap[wk.heap.size]? = some (.cells #[.int .i64 2, .slice none 0 0] 52 (0, 0)) by rw [← hw5]; exact heap_alloc_new wk _)
      have HB5 := hid (show Below wk.heap.size wk w5 by rw [← hw5]; exact bel_alloc _ _)
      rw [hw5]
      clear hw5
      go_wp2_with fail
      go_loopw [74] (fun i wr => ∃ j : Nat, j ≤ 4 ∧ i = .int .i64 (j : Int) ∧ ∃ u, Hid (wr.heap[wk.heap.size]? = some (.cells #[.int .i64 2, u] 52 (0, 0))) ∧ Hid (wr.ownsRow (wk.heap.size + 1) 9 1 u j (strs (ws.take j))) ∧ Hid (Below wk.heap.size wk wr)) (fun i _ => 4 - (intOf i).toNat)
      case atStart => exact ⟨0, by decide, rfl, _, HK5, hid (World.ownsRow_nil _ _ _ _), HB5⟩
      case round =>
        obtain ⟨j, hj, rfl, u, HK, HU, HBj⟩ := hrel
        rename World => wj
        by_cases hj4 : j < 4
        · obtain ⟨x, hx⟩ := some_of_lt (show j < (exSt 2).length by rw [exSt_two]; exact hj4)
          have hsl := HSl.out.below HBj.out
          rw [show 2 + 2 = (exSt 2).length from exSt_two.symm] at hsl
          obtain ⟨b, o, e1, d0, d1, d2, d3, d4⟩ := sl_lk hsl hx
          cases e1
          have HGx := hid (HGt.out j x hx)
          obtain ⟨xw, xn, xd⟩ := x
          simp only [Nat.zero_add] at d0 d1 d2 d3 d4 HGx
          generalize nmg xn = mN at *
          generalize nmg xd = mD at *
          obtain ⟨au, cu, rfl⟩ := own_slice HU.out
          clear hsl hx
          go_upto_region 21 with fail
          obtain ⟨w6, hw6⟩ : ∃ w6, wj.alloc (.cells #[.string xw, .bool false, .string mN, .bool false, .string mD] 89) = w6 := ⟨_, rfl⟩
          obtain ⟨hb6, y0, y1, y2, y3, y4⟩ := box5K hw6
          rw [hw6]
          have hk6 := (hb6.block _ (Array.getElem?_eq_some_iff.1 HK.out).1).trans HK.out
          have HK6 := hid hk6
          have hu6 := own_below HU.out hb6
          have HB6 := hid (bel_step HBj.out hb6)
          have HLt := hid (Array.getElem?_eq_some_iff.1 hk6).1
          obtain ⟨z0, z1, _, _⟩ := two_of hk6
          clear hw6 hb6 d0 d1 d2 d3 d4 hk6
          go_wp2_with (at_builtin; refine wpList_push _ rfl _ _ 50 rfl (wk.heap.size + 1) 9 (.string ⟨#[]⟩) 1 16 Tryz.underlying50 Tryz.infoString rfl (by decide) _ _ _ rfl hu6 #[.string xw] rfl (oneCell_string _) rfl (by unfold maxLen; omega) (by omega) (by have := HLt.out; omega) ?_; intro g2 gc2 w7 hown7 hg7 hb7; have hk7 := (hg7.block _ HLt.out (own_ne hu6 HK6.out (by decide))).trans HK6.out; have HK7 := hid hk7; have HO7 := hid hown7; have HB7 := hid (HB6.out.grown hg7 HB6.out.size (fun i hi => by have := (hu6.lt i hi).1; omega)); obtain ⟨z0, z1, f0, f1⟩ := two_of hk7; clear hk7 hown7 hg7 hb7)
          go_roundw
          case rel =>
            refine ⟨j + 1, by omega, by go_num, .slice (some ⟨g2, 0, none⟩) (j + 1) gc2, hid (store1 HK7.out), hid ?_, hid (HB7.out.setCell (p := ⟨wk.heap.size, 1, none⟩) (Nat.le_refl _) _)⟩
            rw [take_snoc HGx.out, strs_snoc]
            exact ownsRow_setCell_below HO7.out (by show wk.heap.size < wk.heap.size + 1; omega) _
          case measure => simp [intOf]; omega
        · obtain rfl : j = 4 := by omega
          have hu4 := HU.out
          rw [List.take_of_length_le (Nat.le_of_eq HLe.out)] at hu4
          have HU4 := hid hu4
          obtain ⟨au, cu, rfl⟩ := own_slice hu4
          have hk4 := HK.out
          have HLt := hid (Array.getElem?_eq_some_iff.1 hk4).1
          obtain ⟨z0, z1, _, _⟩ := two_of hk4
          clear hu4 hk4
          go_wp2_with (go_at_call 61; refine (HSo.out _ _ _ HU4.out).mono ?_; rintro e w8 ⟨rfl, ho8, hg8⟩; have hk8 := (hg8.block _ HLt.out (own_ne HU4.out HK.out (by decide))).trans HK.out; have HB8 := hid (bel_step HB.out (HBj.out.grown hg8 HBj.out.size (fun i hi => by have := (HU4.out.lt i hi).1; omega))); have HO8 := hid ho8; obtain ⟨z0, z1, f0, f1⟩ := two_of hk8; obtain ⟨r0, r1, p0, p1⟩ := two_of ((HB8.out.block _ (Array.getElem?_eq_some_iff.1 HR0.out).1).trans HR0.out); clear hk8 ho8 hg8)
          have hq := HSz.out
          have hq2 := HB.out.size
          refine bodyPost_ret (v := .tuple #[.agg #[.int .i64 2, .slice au 4 cu], .int .i64 0]) ?_ rfl ⟨.slice au 4 cu, rfl, Sl.of_owns (ownsRow_setCell_below (ownsRow_setCell_below HO8.out (by show w.heap.size + 1 < wk.heap.size + 1; omega) _) (by show w.heap.size + 1 < wk.heap.size + 1; omega) _), ((bel_step HB0.out HB8.out).setCell (p := ⟨w.heap.size + 1, 0, none⟩) (by show w.heap.size ≤ w.heap.size + 1; omega) _).setCell (p := ⟨w.heap.size + 1, 1, none⟩) (by show w.heap.size ≤ w.heap.size + 1; omega) _⟩
          simp only [results, Tryz.results29]
          simp [go_sem, r0, r1]
end Go.Proofs.YtieahckbbohfgaaGreatDoor
