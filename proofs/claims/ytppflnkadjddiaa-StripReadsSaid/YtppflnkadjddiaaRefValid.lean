/-
  The reference of layer 19: Valid.
  No condition beyond the rows being at most 1000.
-/
import Derived.Test.YtppflnkadjddiaaRefCols
import Derived.Test.YtppflnkadjddiaaNeighLaw
namespace Go.Proofs.Ytppflnkadjddiaa
open Go.RowKit
set_option linter.unusedVariables false

theorem quietS {P : Program} {f : FuncId} {args : Array Value} {w : World} {n : Nat} {v : Value} (h : Calls P f args (w.drewN n) fun e w' => e = .returned v ∧ w.drewN n = w') : Calls P f args (w.drewN n) fun e w'' => e = .returned v ∧ ∃ m, w'' = w.drewN m :=
  h.mono fun _ _ ⟨he, hm⟩ => ⟨he, n, hm.symm⟩
theorem adjGo_pair_false (P : Int → Int → Bool) {y x : Int} (hq : P y x = false) : ∀ (l r : List Int) (p : Option Int), adjGo P p (l ++ y :: x :: r) = false := by
  intro l
  induction l with
  | nil => intro r p; cases p <;> simp [adjGo, hq]
  | cons a t ih => intro r p; cases p <;> simp [adjGo, ih]
theorem adj_false_at (P : Int → Int → Bool) {C : List Int} {k : Nat} {y x : Int} (hk : 1 ≤ k) (hy : C[k - 1]? = some y) (hx : C[k]? = some x) (hq : P y x = false) : adj P C = false := by
  have e1 := drop_cons hx
  have e2 := drop_cons hy
  rw [show k - 1 + 1 = k from by omega, e1] at e2
  have e3 : C = C.take (k - 1) ++ y :: x :: C.drop (k + 1) := by rw [← e2, List.take_append_drop]
  rw [e3, adj]
  exact adjGo_pair_false P hq _ _ _
set_option maxRecDepth 100000 in
set_option maxHeartbeats 4000000 in
theorem refValid_any (v1 v2 : Value) (l : List Int) (rows : List ByteArray) (w : World) (hl : Sl 1 w v1 l.length (ints l)) (hr : Sl 1 w v2 rows.length (strs rows)) (hn : rows.length ≤ 1000) :
    Calls Try.prog 21 #[v1, v2] w (ValidPost l rows w) := by
  have hC := refColumns_any v2 rows w hr hn
  obtain ⟨ao1, cap1, rfl, _, _, hm1, _⟩ := id hl
  obtain ⟨ao2, cap2, rfl, _, _, hm2, _⟩ := id hr
  have HL := hid hl
  have HR := hid hr
  clear hl hr
  by_cases hE : colsErr rows = 0
  · have hV : validE l rows = chk rows.length l := by rw [validE, if_neg (by simp [hE])]
    by_cases hk : chk rows.length l = 0
    · have HB := hid (show validB l rows = adj (okP rows.length l) (colsL rows) by rw [validB, if_pos (by rw [hV, hk])])
      have HV := hid (show validE l rows = 0 by rw [hV, hk])
      have HX := hid (fun (k : Nat) (x : Int) => colsL_15 (k := k) (x := x) hE)
      have HCL := hid (colsL_len hE)
      obtain ⟨h1, h4⟩ := colsErr_len hE
      have HK := hid hk
      have HC := hid hC
      have HE := hid hE
      clear hE hV hk hC
      go_enter Try.func21, Try.ntmps21
      go_upto_region 4 with (go_at_call 19; refine HC.out.mono ?_; rintro e w1 ⟨v', rfl, ho1, hb1⟩; rw [HE.out])
      have hS1 := Sl.of_owns ho1
      clear ho1
      have hl1 := HL.out.below hb1
      generalize colsL rows = C at *
      go_upto_region 7 with (go_at_call 33; refine (refCheck_any _ l _ _ ?_).mono ?_; (exact hl1); rintro e w2 ⟨rfl, hd2⟩; rw [HK.out])
      obtain ⟨ao3, cap3, rfl, _, _, hm3, _⟩ := id hS1
      have HL2 := hid (hl1.dr hd2)
      have HS2 := hid (hS1.dr hd2)
      have HBel := hid (bel_step hb1 (hd2.below _))
      clear hS1 hl1 hb1 hd2
      go_upto_region 8 with fail
      go_loopw [9] (fun i wr => ∃ k : Nat, 1 ≤ k ∧ (k ≤ C.length ∨ k = 1) ∧ i = .int .i64 k ∧ Dr w2 wr ∧ Hid (adj (okP rows.length l) (C.take k) = true)) (fun i _ => C.length - (intOf i).toNat)
      case atStart => exact ⟨1, Nat.le_refl _, .inr rfl, rfl, Dr.refl _, hid (adj_one _ _)⟩
      case round =>
        obtain ⟨k, hk1, hk2, rfl, hD, HA⟩ := hrel
        have HD := hid hD
        clear hD
        have hcl := HCL.out
        by_cases hlt : k < C.length
        · obtain ⟨x, hx⟩ := some_of_lt hlt
          obtain ⟨y, hy⟩ := some_of_lt (l := C) (k := k - 1) (by omega)
          obtain ⟨b, o, rfl, c1⟩ := (HS2.out.dr HD.out).cell (ints_get hx)
          obtain ⟨b', o', hbo, c2⟩ := (HS2.out.dr HD.out).cell (ints_get hy)
          simp only [Option.some.injEq, Addr.mk.injEq, and_true] at hbo
          obtain ⟨rfl, rfl⟩ := hbo
          obtain ⟨x0, x15, x1⟩ := HX.out k x hx
          obtain ⟨y0, y15, y1⟩ := HX.out (k - 1) y hy
          have HT := hid (adj_take_succ (okP rows.length l) hk1 hy hx)
          have HBs := hid (fun w hl => refBeside_any rows.length (.slice ao1 l.length cap1) l y x w h1 h4 y0 y15 x0 x15 hl)
          have HF := hid (fun (hq : okP rows.length l y x = false) => adj_false_at (okP rows.length l) hk1 hy hx hq)
          clear hx hy x1 y1
          have hkm : IntKind.i64.wrap ((k : Int) - 1) = (k : Int) - 1 := IntWalk.i64_in _ (by omega)
          have hk3 : (0 : Int) ≤ (k : Int) - 1 := by omega
          have hk4 : (k : Int) - 1 < (C.length : Int) := by omega
          have hk5 : ((k : Int) - 1).toNat = k - 1 := by omega
          have hk6 : (k : Int) < (C.length : Int) := by omega
          have HLr := hid (HL2.out.dr HD.out)
          go_upto_region 10 with fail
          generalize hq : okP rows.length l y x = q at *
          cases q
          all_goals
            clear hq
            go_quiet ((go_at_call 46; exact quietS (HBs.out _ (HLr.out.dr ⟨_, rfl⟩))))
          · go_wp2
            go_ret2
            exact ⟨tup_bi (by rw [HB.out]; first | exact HF.out trivial | exact HF.out rfl) HV.out, bel_step HBel.out ((HD.out.drewN _).below _)⟩
          · go_wp2
            go_roundw
            case rel => exact ⟨k + 1, by omega, by omega, by go_num, HD.out.drewN _, hid (by rw [HT.out, HA.out]; rfl)⟩
            case measure => simp [intOf]; omega
        · have HA2 := hid (show adj (okP rows.length l) C = true by have := HA.out; rwa [take_all (by omega)] at this)
          go_wp2
          go_ret2
          exact ⟨tup_bi (by rw [HB.out, HA2.out]) HV.out, bel_step HBel.out (HD.out.below _)⟩
    · have HB := hid (show validB l rows = false by rw [validB, if_neg (by rw [hV]; exact hk)])
      have HV := hid hV
      have HC := hid hC
      have HE := hid hE
      have hcb : ((chk rows.length l) != 0) = true := by simp [hk]
      clear hE hV hk hC
      generalize hK : chk rows.length l = K at *
      have HK := hid hK
      clear hK
      go_enter Try.func21, Try.ntmps21
      go_upto_region 4 with (go_at_call 19; refine HC.out.mono ?_; rintro e w1 ⟨v', rfl, ho1, hb1⟩; rw [HE.out])
      have hS1 := Sl.of_owns ho1
      clear ho1
      have hl1 := HL.out.below hb1
      generalize colsL rows = C at *
      go_wp2_with (go_at_call 33; refine (refCheck_any _ l _ _ ?_).mono ?_; (exact hl1); rintro e w2 ⟨rfl, hd2⟩; rw [HK.out])
      go_ret2
      exact ⟨tup_bi HB.out HV.out, bel_step hb1 (hd2.below _)⟩
  · have hV : validE l rows = colsErr rows := by rw [validE, if_pos hE]
    have HB := hid (show validB l rows = false by rw [validB, if_neg (by rw [hV]; exact hE)])
    have HV := hid hV
    have HC := hid hC
    have hcb : (colsErr rows != 0) = true := by simp [hE]
    clear hE hV hC
    generalize hK : colsErr rows = K at *
    have HK := hid hK
    clear hK
    go_enter Try.func21, Try.ntmps21
    go_wp2_with (go_at_call 19; refine HC.out.mono ?_; rintro e w1 ⟨v', rfl, ho1, hb1⟩; rw [HK.out])
    go_ret2
    exact ⟨tup_bi HB.out HV.out, hb1⟩
end Go.Proofs.Ytppflnkadjddiaa
