/-
  groovetop.TopResetBounded: where all pairs of states agree within so many letters, each word that long is a reset word.
  No condition beyond the words lying in a slice and the library's table in its variable.
-/
import Derived.Test.YtjcdddccnfiemaaDoorTopMach
import Derived.Test.YtjcdddccnfiemaaDoorTable45
import Derived.Test.YtjcdddccnfiemaaDoorTopAwake
import Derived.Test.YtjcdddccnfiemaaDoorVfy
import Derived.Test.YtjcdddccnfiemaaDoorTz
namespace Go.Proofs.YtjcdddccnfiemaaDoor
open Go.RowKit Go.Deep
set_option linter.unusedVariables false

/-- The word, made long enough. -/
def padW (x : ByteArray) (m : Nat) : ByteArray := x ++ ⟨(Lib.repeatL [48] (m - x.size)).toArray⟩
theorem rep_list (k : Nat) : Lib.repeatL [48] k = List.replicate k 48 := by
  induction k with
  | zero => rfl
  | succ k ih => rw [Lib.repeatL, ih]; rfl
theorem pad_size (x : ByteArray) (m : Nat) (h : x.size ≤ m) : (padW x m).size = m := by
  unfold padW
  rw [ByteArray.size_append, rep_list]
  show x.size + (List.replicate (m - x.size) (48 : UInt8)).toArray.size = m
  simp; omega
theorem pad_word {q : Nat} {x : ByteArray} {m : Nat} (h : wordErr (q : Int) x = 0) (hm : x.size ≤ m) (hm2 : m ≤ 60000) : wordErr (q : Int) (padW x m) = 0 := by
  obtain ⟨h1, h2, h3, h4⟩ := wordErr_zero.1 h
  refine wordErr_ok h1 h2 (by rw [pad_size x m hm]; omega) ?_
  unfold okWord at h4 ⊢
  rw [List.all_eq_true] at h4 ⊢
  intro c hc
  have hl : (padW x m).data.toList = x.data.toList ++ List.replicate (m - x.size) 48 := by
    unfold padW
    rw [rep_list]
    simp
  rw [hl, List.mem_append] at hc
  rcases hc with hc | hc
  · exact h4 c hc
  · obtain rfl := (List.mem_replicate.1 hc).2
    simp only [show digit 48 = 0 by decide]
    simp; omega
def AllLe (T : Nat → Nat → Int) (n k : Nat) (M : Int) : Prop := ∀ s < k, ∀ t < n, 0 ≤ T s t ∧ T s t ≤ M
def RowLe (T : Nat → Nat → Int) (s j : Nat) (M : Int) : Prop := ∀ t < j, 0 ≤ T s t ∧ T s t ≤ M
theorem AllLe.more {T : Nat → Nat → Int} {n k : Nat} {M M' : Int} (h : AllLe T n k M) (hm : M ≤ M') : AllLe T n k M' := fun s hs t ht => ⟨(h s hs t ht).1, Int.le_trans (h s hs t ht).2 hm⟩
theorem RowLe.step {T : Nat → Nat → Int} {s j : Nat} {M : Int} (h : RowLe T s j M) (h0 : 0 ≤ T s j) : RowLe T s (j + 1) (max M (T s j)) := fun t ht => by
  by_cases e : t = j
  · subst e; exact ⟨h0, by omega⟩
  · have := h t (by omega); omega
theorem AllLe.line {T : Nat → Nat → Int} {n k : Nat} {M : Int} (h : AllLe T n k M) (h2 : RowLe T k n M) : AllLe T n (k + 1) M := fun s hs t ht => by
  by_cases e : s = k
  · subst e; exact h2 t ht
  · exact h s (by omega) t ht

set_option maxRecDepth 100000 in
set_option maxHeartbeats 4000000 in
theorem topResetBounded_any (q : Int) (v : Value) (ws : List ByteArray) (x : ByteArray) (w : World) (hl : Sl 1 w v ws.length (strs ws)) (_hx : x.size ≤ maxLen) (hL : laidMetH Tryd.prog Rows.topResetBoundedRow.laid w) :
    Calls Tryd.prog 3 #[.agg #[.int .i64 q, v], .string x] w fun e w' => e = .returned (.bool true) ∧ Below w.heap.size w w' := by
  have hT := tzAt_of (tab_laid hL)
  have HT := hid hT
  have HL := hid hl
  have HMa := hid (fun X h => topm_any q v ws X h)
  have HTa := hid (fun X h => rtable_any q v ws X h)
  have HAw := hid (fun X (hX : Below w.heap.size w X) => awake_any X (hT.later hX))
  have HW := hid (fun X => wcheck_any q x X)
  obtain ⟨ao, cap, rfl, _, hl1, hl2, hl3⟩ := hl
  clear hl3 hL hT
  go_enter Tryd.func3, Tryd.ntmps3
  go_upto_region 1 with fail
  obtain ⟨w0, hw0⟩ : ∃ w0, w.alloc (.cells #[.int .i64 q, .slice ao ws.length cap] 24) = w0 := ⟨_, rfl⟩
  obtain ⟨hb0, c0, c1⟩ := boxed hw0
  rw [hw0]
  have HB0 := hid hb0
  clear hw0 hb0
  go_upto_region 2 with (go_at_call 4; refine (HMa.out _ (HL.out.below HB0.out)).mono ?_; rintro e w1 ⟨hb1, a, a2, aS, aN, aE, aA, nS, cS, nN, cN, nE, cE, nA, cA, rfl, hM⟩; have HM1 := hid hM; have HB1 := hid (HB0.out.trans (hb1.mono HB0.out.size)); have c0 := keeps hb1 c0; have c1 := keeps hb1 c1; clear hM hb1)
  obtain ⟨w2, hw2⟩ : ∃ w2, (w1.alloc (.cells #[.int .i64 a, .slice aS nS cS, .slice aN nN cN, .slice aE nE cE] 27)).alloc (.cells #[.int .i64 a2, .slice aA nA cA] 29) = w2 := ⟨_, rfl⟩
  have hb2 : Below w1.heap.size w1 w2 := by rw [← hw2]; exact (bel_alloc _ _).alloc (by simp) _
  have d0 : w2.cell? ⟨w1.heap.size + 1, 0, none⟩ = some (.int .i64 a2) := by rw [← hw2]; simp
  have d1 : w2.cell? ⟨w1.heap.size + 1, 1, none⟩ = some (.slice aA nA cA) := by rw [← hw2]; simp
  rw [hw2]
  have c0 := keeps hb2 c0
  have c1 := keeps hb2 c1
  have HB2 := hid (HB1.out.trans (hb2.mono HB1.out.size))
  have HM2 := hid (fun h => And.intro (HM1.out h).1 ((HM1.out h).2.below hb2))
  clear hw2 hb2 HM1 HMa
  cases hP : topB q ws
  · clear d0 d1 c0 c1 hP
    go_wp2_with (go_at_call 6; refine (HAw.out _ HB2.out).mono ?_; rintro e w3 ⟨rfl, hb3⟩)
    go_ret
    exact ⟨rfl, HB2.out.trans (hb3.mono HB2.out.size)⟩
  · by_cases hx20 : x.size ≤ 20
    · have hx20' : ¬ 20 < x.size := by omega
      by_cases hE : wordErr q x = 0
      · obtain ⟨hA, h12, hq8⟩ := topB_true hP
        have hm := mach_of hA
        obtain ⟨rfl, hMt⟩ := HM2.out hP
        have HMt := hid hMt
        have hr0 : rErr a2 ws [] = 0 := by rw [rErr, if_neg (by simp [hA]), if_neg (by omega)]; rfl
        rw [hE] at HW
        have HE := hid hE
        have HMm := hid hm
        clear hMt hm hE HM2 hP hA
        go_upto_region 4 with (go_at_call 5; refine (HW.out _).mono ?_; rintro e w3 ⟨rfl, hD3⟩; have c0 := keeps (hD3.below _) c0; have c1 := keeps (hD3.below _) c1; have d0 := keeps (hD3.below _) d0; have d1 := keeps (hD3.below _) d1; have HB3 := hid (HB2.out.trans ((hD3.below _).mono HB2.out.size)); have HMt3 := hid (HMt.out.below (hD3.below _)); clear hD3)
        clear hx20'
        go_upto_region 5 with (go_at_call 7; refine (HTa.out _ (HL.out.below HB3.out)).mono ?_; rintro e w4 (⟨h0, _⟩ | ⟨_, u, T, rfl, hTab, hMT, hb4⟩); (exact absurd hr0 h0); have d0 := keeps hb4 d0; have d1 := keeps hb4 d1; have HB4 := hid (bel_step HB3.out hb4); have HMt4 := hid (HMt3.out.below hb4); obtain ⟨aT, cT, rfl, hcT, hcT2⟩ := hMT.slice; have HMT := hid hMT; have HTab := hid hTab; clear hb4 hMT hTab)
        clear c0 c1
        obtain ⟨m, rfl⟩ : ∃ m : Nat, a2 = m := ⟨a2.toNat, by have := HMm.out.q2; omega⟩
        have hpos := HMm.out.pos
        have hq2 := HMm.out.q2
        have hcl : Closed (sizeW ws) m (nxN ws) := fun a _ b _ => HMm.out.lt a b
        have HBd := hid (fun s hs t ht => tab_bound hcl HTab.out.toPreTab (s := s) (t := t) hs ht)
        have HVf := hid (fun (y : ByteArray) (X : World) (hX : Below w4.heap.size w4 X) (hy : wordErr (m : Int) y = 0) (hall : ∀ s < sizeW ws, ∀ t < sizeW ws, 0 ≤ T s t ∧ T s t ≤ y.size) => vfy_any (.slice aA nA cA) (sizeW ws) m (nxI ws) T y X (HMt4.out.below hX) (fun i hi j hj => by have h1 := HMm.out.eq i hi j hj; have h2 := HMm.out.lt i j; omega) hpos (by omega) (by omega) (by omega) (HT.out.later (HB4.out.trans (hX.mono HB4.out.size))) hy HTab.out.toPreTab hall)
        have HN2 := hid (show sizeW ws * sizeW ws ≤ 144 from Nat.mul_le_mul h12 h12)
        have HD := hid (And.intro d0 d1)
        have HPos := hid hpos
        clear hpos hq2 hcl hr0 h12 hq8 d0 d1 HMm HTab HMt HMt4 HMt3 HB3 HTa
        generalize sizeW ws = n at *
        go_wp2_with fail
        go_loopw [10, 45] (fun o i wr => ∃ (k : Nat) (M : Int), k ≤ n ∧ i = .int .i64 (k : Int) ∧ o = .int .i64 M ∧ 0 ≤ M ∧ M ≤ 1000 ∧ Hid (AllLe T n k M) ∧ Dr w4 wr) (fun _ i _ => n - (intOf i).toNat)
        case atStart => exact ⟨0, 0, Nat.zero_le _, rfl, rfl, by omega, by omega, hid (fun s hs => by omega), Dr.refl _⟩
        case round =>
          obtain ⟨k, M, hk, rfl, rfl, hM0, hM1, HAll, hD⟩ := hrel
          have HD4 := hid hD
          rename World => wm
          by_cases hlt : k < n
          · obtain ⟨b, o, r, c, e1, n1, hS⟩ := (HMT.out.dr hD).row hlt
            subst e1
            have HS := hid hS
            clear hS hD
            go_wp2_with fail
            go_loopw [10, 51] (fun o i wr => ∃ (j : Nat) (M2 : Int), j ≤ n ∧ i = .int .i64 (j : Int) ∧ o = .int .i64 M2 ∧ 0 ≤ M2 ∧ M2 ≤ 1000 ∧ Hid (AllLe T n k M2) ∧ Hid (RowLe T k j M2) ∧ Dr wm wr) (fun _ i _ => n - (intOf i).toNat)
            case atStart => exact ⟨0, M, Nat.zero_le _, rfl, rfl, hM0, hM1, HAll, hid (fun t ht => by omega), Dr.refl _⟩
            case round =>
              obtain ⟨j, M2, hj, rfl, rfl, hN0, hN1, HAll2, HRow, hD2⟩ := hrel
              have HDj := hid (HD4.out.trans hD2)
              rename World => wn
              by_cases hlj : j < n
              · obtain ⟨b2, o2, rfl, n2⟩ := (HS.out.below (hD2.below _)).cell (rowV_get (T k) hlj)
                have hb1 := HBd.out k hlt j hlj
                have hb2 := HN2.out
                have hb3 : T k j ≤ 1000 := by omega
                clear hb1 hb2 n1
                by_cases hneg : T k j < 0
                · clear hb3
                  have HBj := hid (HB4.out.trans ((HDj.out.below _).mono HB4.out.size))
                  generalize T k j = V at *
                  go_wp2_with (go_at_call 6; refine (HAw.out _ HBj.out).mono ?_; rintro e w5 ⟨rfl, hb5⟩)
                  go_ret
                  exact ⟨rfl, HBj.out.trans (hb5.mono HBj.out.size)⟩
                · have HRow3 := hid (HRow.out.step (show 0 ≤ T k j by omega))
                  have HAll3 := hid (HAll2.out.more (show M2 ≤ max M2 (T k j) by omega))
                  have HDn := hid hD2
                  generalize T k j = V at *
                  have hv0 : 0 ≤ V := by omega
                  go_wp2
                  go_roundw
                  case rel => exact ⟨j + 1, max M2 V, by omega, by go_num, rfl, by omega, by omega, HAll3.out, HRow3.out, HDn.out⟩
                  case measure => simp [intOf]; omega
              · obtain rfl : j = n := by omega
                have HL2 := hid (HAll2.out.line HRow.out)
                clear n1
                go_wp2
                go_roundw
                case rel => exact ⟨k + 1, M2, by omega, by go_num, rfl, hN0, hN1, HL2, HDj.out⟩
                case measure => simp [intOf]; omega
          · obtain rfl : k = n := by omega
            have HBk := hid (HB4.out.trans ((hD.below _).mono HB4.out.size))
            have hbk := hD.below w4.heap.size
            have d0 := keeps hbk HD.out.1
            have d1 := keeps hbk HD.out.2
            obtain ⟨M3, rfl⟩ : ∃ M3 : Nat, M = M3 := ⟨M.toNat, by omega⟩
            by_cases hlen : x.size < M3
            · have HV := hid (fun (X : World) (hX : Below w4.heap.size w4 X) => HVf.out (padW x M3) X hX (pad_word HE.out (by omega) (by omega)) (fun s hs t ht => by have := HAll.out s hs t ht; rw [pad_size x M3 (by omega)]; exact this))
              have HRp := hid (fun X => Tryd.strings_Repeat ⟨#[48]⟩ (M3 - x.size) X (by omega) (by show 1 * (M3 - x.size) ≤ 140737488355328; omega))
              have hsub : IntKind.i64.wrap ((M3 : Int) - (x.size : Int)) = ((M3 - x.size : Nat) : Int) := by rw [IntKind.wrap_i64]; omega
              have hcat : ∀ X : World, (Op.stringOp .add x ⟨(Lib.repeatL [48] (M3 - x.size)).toArray⟩).run Tryd.prog X = .ok (.string (padW x M3)) X := fun X => by
                unfold Op.stringOp
                have h : ¬ ((x.size + (⟨(Lib.repeatL [48] (M3 - x.size)).toArray⟩ : ByteArray).size : Nat) : Int) > IntKind.i64.max := by
                  have := pad_size x M3 (by omega)
                  unfold padW at this
                  rw [ByteArray.size_append] at this
                  rw [this]
                  show ¬ ((M3 : Nat) : Int) > 9223372036854775807
                  omega
                rw [if_neg h]
                rfl
              have HBk2 := hid hbk
              clear hbk hD
              generalize padW x M3 = y at *
              generalize hC : M3 - x.size = C at *
              generalize (⟨(Lib.repeatL [48] C).toArray⟩ : ByteArray) = R at *
              go_wp2_with (first
                | (go_at_call 8; refine (HRp.out _).mono ?_; rintro e w5 ⟨rfl, hb5⟩; have d0 := keeps hb5 d0; have d1 := keeps hb5 d1; have HB5 := hid (HBk2.out.trans (hb5.mono HBk2.out.size)); clear hb5)
                | (go_at_call 9; refine (HV.out _ HB5.out).mono ?_; rintro e w6 ⟨rfl, hb6⟩; have HB6 := hid ((HB4.out.trans (HB5.out.mono HB4.out.size)).trans (hb6.mono (Nat.le_trans HB4.out.size HB5.out.size))))
                | (go_at_call 6; refine (HAw.out _ HB6.out).mono ?_; rintro e w7 ⟨rfl, hb7⟩))
              go_ret
              exact ⟨rfl, HB6.out.trans (hb7.mono HB6.out.size)⟩
            · have HV := hid (fun (X : World) (hX : Below w4.heap.size w4 X) => HVf.out x X hX HE.out (fun s hs t ht => by have := HAll.out s hs t ht; omega))
              have HBk2 := hid hbk
              clear hbk hD
              go_wp2_with (first
                | (go_at_call 9; refine (HV.out _ HBk2.out).mono ?_; rintro e w5 ⟨rfl, hb5⟩; have HB5 := hid (HBk.out.trans (hb5.mono HBk.out.size)))
                | (go_at_call 6; refine (HAw.out _ HB5.out).mono ?_; rintro e w6 ⟨rfl, hb6⟩))
              go_ret
              exact ⟨rfl, HB5.out.trans (hb6.mono HB5.out.size)⟩
      · have hE2 : (wordErr q x != 0) = true := by simp [hE]
        clear d0 d1 c1 hP hE HM2
        generalize wordErr q x = E at *
        go_wp2_with (first
          | (go_at_call 5; refine (HW.out _).mono ?_; rintro e w3 ⟨rfl, hD3⟩; have HB3 := hid (HB2.out.trans ((hD3.below _).mono HB2.out.size)))
          | (go_at_call 6; refine (HAw.out _ HB3.out).mono ?_; rintro e w4 ⟨rfl, hb4⟩))
        go_ret
        exact ⟨rfl, HB3.out.trans (hb4.mono HB3.out.size)⟩
    · have hx20' : 20 < x.size := by omega
      clear d0 d1 c0 c1 hP hx20 HM2
      go_wp2_with (go_at_call 6; refine (HAw.out _ HB2.out).mono ?_; rintro e w3 ⟨rfl, hb3⟩)
      go_ret
      exact ⟨rfl, HB2.out.trans (hb3.mono HB2.out.size)⟩
end Go.Proofs.YtjcdddccnfiemaaDoor
