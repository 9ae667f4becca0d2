/-
  groovetop.top53Fine, groovetop.top53Inputs at any encoder.
  The inputs of the encoder are 1 to 256; at most 10 bytes.
-/
import Derived.Test.YtmibbhghbhjmmaaDoorEncChk
import Derived.Test.YtmibbhghbhjmmaaDoorMrg
namespace Go.Proofs.YtmibbhghbhjmmaaDoor
open Go.RowKit Go.Deep
set_option linter.unusedVariables false

set_option maxRecDepth 100000 in
set_option maxHeartbeats 2000000 in
theorem fine_any (q bl inp : Int) (v : Value) (rows : List (List Cl)) (w : World) (hM : MC w v rows) :
    Calls Tryd.prog 5 #[.agg #[.int .i64 q, .int .i64 bl, .int .i64 inp, v]] w fun e w' => e = .returned (.bool (!gEnc rows && decide (eErr q bl inp rows = 0))) ∧ Below w.heap.size w w' := by
  have HM := hid hM
  have HGr := hid (fun X h => egreat_any q bl inp v rows X h)
  have HCk := hid (fun X h => echk_any q bl inp v rows X h)
  obtain ⟨am, cap, rfl, hm1, hm2⟩ := hM.slice
  clear hM hm1
  obtain ⟨R, hR⟩ : ∃ R, (!gEnc rows && decide (eErr q bl inp rows = 0)) = R := ⟨_, rfl⟩
  rw [hR]
  have HR := hid hR
  clear hR
  generalize hn : rows.length = n at *
  clear hn
  go_enter Tryd.func5, Tryd.ntmps5
  go_upto_region 1 with fail
  obtain ⟨w0, hw0⟩ : ∃ w0, w.alloc (.cells #[.int .i64 q, .int .i64 bl, .int .i64 inp, .slice am n cap] 24) = w0 := ⟨_, rfl⟩
  obtain ⟨hb0, c0, c1, c2, c3⟩ := boxedE hw0
  rw [hw0]
  have HB0 := hid hb0
  clear hw0 hb0
  cases hg : gEnc rows
  · rw [hg] at HGr HR
    clear hg
    by_cases hE : eErr q bl inp rows = 0
    · rw [hE] at HCk
      rw [hE] at HR
      clear hE
      go_wp2_with (first
        | (go_at_call 14; refine (HGr.out _ (HM.out.below HB0.out)).mono ?_; rintro e w1 ⟨rfl, hb1⟩; have c0 := keeps hb1 c0; have c1 := keeps hb1 c1; have c2 := keeps hb1 c2; have c3 := keeps hb1 c3; have HB1 := hid (bel_step HB0.out hb1); clear hb1)
        | (go_at_call 15; refine (HCk.out _ (HM.out.below HB1.out)).mono ?_; rintro e w2 ⟨rfl, hb2⟩; have HB2 := hid (bel_step HB1.out hb2); clear hb2))
      go_ret
      exact ⟨ret_bool HR.out, HB2.out⟩
    · generalize eErr q bl inp rows = E at *
      go_wp2_with (first
        | (go_at_call 14; refine (HGr.out _ (HM.out.below HB0.out)).mono ?_; rintro e w1 ⟨rfl, hb1⟩; have c0 := keeps hb1 c0; have c1 := keeps hb1 c1; have c2 := keeps hb1 c2; have c3 := keeps hb1 c3; have HB1 := hid (bel_step HB0.out hb1); clear hb1)
        | (go_at_call 15; refine (HCk.out _ (HM.out.below HB1.out)).mono ?_; rintro e w2 ⟨rfl, hb2⟩; have HB2 := hid (bel_step HB1.out hb2); clear hb2))
      go_ret
      exact ⟨ret_bool (by rw [← HR.out]; simp [hE]), HB2.out⟩
  · rw [hg] at HGr HR
    clear hg
    go_wp2_with (go_at_call 14; refine (HGr.out _ (HM.out.below HB0.out)).mono ?_; rintro e w1 ⟨rfl, hb1⟩; have c0 := keeps hb1 c0; have c1 := keeps hb1 c1; have c2 := keeps hb1 c2; have c3 := keeps hb1 c3; have HB1 := hid (bel_step HB0.out hb1); clear hb1)
    go_ret
    exact ⟨ret_bool HR.out, HB1.out⟩
/-- The inputs that bytes mean. -/
def inpL (I : Nat) (l : List Int) : List Nat := l.map fun x => x.toNat % I
theorem inpL_snoc (I : Nat) (l : List Int) (x : Int) : inpL I (l ++ [x]) = inpL I l ++ [x.toNat % I] := by simp [inpL]
def natI (l : List Nat) : List Value := ints (l.map fun k : Nat => (k : Int))
theorem natI_snoc (l : List Nat) (k : Nat) : natI (l ++ [k]) = natI l ++ [.int .i64 (k : Int)] := by simp [natI, ints]
set_option maxRecDepth 100000 in
set_option maxHeartbeats 2000000 in
theorem inputs_any (q bl : Int) (I : Nat) (v vb : Value) (rows : List (List Cl)) (l : List Int) (w : World) (hM : MC w v rows) (hl : Sl 1 w vb l.length (l.map (.int .u8))) (hb : ∀ x ∈ l, 0 ≤ x ∧ x ≤ 255) (hn : l.length ≤ 10) (hI : 1 ≤ I) (hI2 : I ≤ 256) :
    Calls Tryd.prog 9 #[.agg #[.int .i64 q, .int .i64 bl, .int .i64 (I : Int), v], vb] w fun e w' => ∃ v', e = .returned v' ∧ w'.ownsRow w.heap.size 3 1 v' l.length (natI (inpL I l)) ∧ Below w.heap.size w w' := by
  obtain ⟨am, cap, rfl, hm1, hm2⟩ := hM.slice
  have HL := hid hl
  have HBy := hid hb
  obtain ⟨al, cl, rfl, hl1, hl2, hl3, _⟩ := hl
  clear hM hm1 hm2 hb hl1
  generalize hrn : rows.length = rn at *
  clear hrn
  generalize hN : l.length = N at *
  have HN := hid hN
  clear hN
  have hI0 : ¬ (I : Int) = 0 := by omega
  go_enter Tryd.func9, Tryd.ntmps9
  go_upto_region 1 with fail
  obtain ⟨w0, hw0⟩ : ∃ w0, w.alloc (.cells #[.int .i64 q, .int .i64 bl, .int .i64 (I : Int), .slice am rn cap] 24) = w0 := ⟨_, rfl⟩
  obtain ⟨hb0, c0, c1, c2, c3⟩ := boxedE hw0
  have hs0 : w0.heap.size = w.heap.size + 1 := by rw [← hw0]; simp
  rw [hw0]
  have HB0 := hid hb0
  have HS0 := hid hs0
  clear hw0 hb0 c0 c1 c3 hs0
  go_wp2_with fail
  go_loopw [10, 5] (fun a b wr => ∃ k : Nat, k ≤ N ∧ a = .int .i64 (k : Nat) ∧ wr.ownsRow w0.heap.size 3 1 b k (natI (inpL I (l.take k))) ∧ Hid (Below w0.heap.size w0 wr)) (fun a _ _ => N - (intOf a).toNat)
  case atStart => exact ⟨0, Nat.zero_le _, rfl, World.ownsRow_nil _ _ _ _, hid (Below.refl _ _)⟩
  case round =>
    obtain ⟨k, hk, rfl, hown, HB⟩ := hrel
    rename World => wk
    have HO := hid hown
    obtain ⟨ar, cr, rfl⟩ := own_slice hown
    clear hown
    have c2 := keeps HB.out c2
    by_cases hkn : k < N
    · obtain ⟨x, hx⟩ := some_of_lt (show k < l.length by rw [HN.out]; exact hkn)
      obtain ⟨hx0, hx1⟩ := HBy.out x (List.mem_of_getElem? hx)
      obtain ⟨X, rfl⟩ : ∃ X : Nat, x = X := ⟨x.toNat, by omega⟩
      obtain ⟨b, o, rfl, ck⟩ := (HL.out.below (bel_step HB0.out HB.out)).cell (show (l.map (Value.int .u8))[k]? = some (.int .u8 (X : Int)) by simp [hx])
      have hwx : IntKind.i64.wrap (X : Int) = (X : Int) := IntWalk.i64_in _ (by omega)
      have htm : (X : Int).tmod (I : Int) = ((X % I : Nat) : Int) := rfl
      have HTk := hid (show inpL I (l.take (k + 1)) = inpL I (l.take k) ++ [X % I] by rw [take_snoc hx, inpL_snoc]; rfl)
      have HSz := hid (HB.out.size)
      clear hx hx0 hx1
      generalize X % I = R at *
      go_wp2_with (at_builtin; refine wpList_push _ rfl _ _ 29 rfl w0.heap.size 3 (.int .i64 0) 1 8 Tryd.underlying29 Tryd.infoInt9 rfl (by decide) _ _ _ rfl HO.out #[.int .i64 (R : Int)] rfl (oneCell_int _ _) rfl (by unfold maxLen; omega) (by omega) HSz.out ?_; intro g gc w1 hown1 hg hb1)
      go_roundw
      case rel =>
        refine ⟨k + 1, by omega, by go_num, ?_, hid (HB.out.trans hb1)⟩
        rw [HTk.out, natI_snoc]
        exact hown1
      case measure => simp [intOf]; omega
    · obtain rfl : k = N := by omega
      go_wp2
      go_ret
      have e : l.take k = l := List.take_of_length_le (by rw [HN.out]; exact Nat.le_refl _)
      rw [e] at HO
      exact ⟨_, rfl, own_base HO.out HB0.out.size, bel_step HB0.out HB.out⟩
end Go.Proofs.YtmibbhghbhjmmaaDoor
