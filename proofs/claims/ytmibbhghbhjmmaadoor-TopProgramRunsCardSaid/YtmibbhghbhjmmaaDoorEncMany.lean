/-
  encoder.Encode at any inputs: the words and the state behind them.
  The encoder is valid; the state and the inputs are its own; at most 1000 inputs.
-/
import Derived.Test.YtmibbhghbhjmmaaDoorEncEnco
namespace Go.Proofs.YtmibbhghbhjmmaaDoor
open Go.RowKit Go.Deep
set_option linter.unusedVariables false

def cellAt (rows : List (List Cl)) (s k : Nat) : Cl := (rows.getD s []).getD k ⟨0, ⟨#[]⟩⟩
def encStep (rows : List (List Cl)) (p : Nat × List UInt8) (k : Nat) : Nat × List UInt8 := ((cellAt rows p.1 k).st.toNat, p.2 ++ (cellAt rows p.1 k).word.data.toList)
/-- What an encoder writes, and the state behind it. -/
def encR (rows : List (List Cl)) (s : Nat) (ks : List Nat) : Nat × List UInt8 := ks.foldl (encStep rows) (s, [])
theorem encR_snoc (rows : List (List Cl)) (s : Nat) (ks : List Nat) (k : Nat) : encR rows s (ks ++ [k]) = encStep rows (encR rows s ks) k := by simp [encR]
theorem cell_at {q bl I : Int} {rows : List (List Cl)} (hV : EncV q bl I rows) {s k : Nat} (hs : s < rows.length) (hk : (k : Int) < I) : ∃ row, rows[s]? = some row ∧ row[k]? = some (cellAt rows s k) ∧ 0 ≤ (cellAt rows s k).st ∧ (cellAt rows s k).st < rows.length ∧ ((cellAt rows s k).word.size : Int) = bl := by
  obtain ⟨row, hrow⟩ := some_of_lt hs
  have hmr := List.mem_of_getElem? hrow
  have hrl := hV.len row hmr
  obtain ⟨x, hx⟩ := some_of_lt (show k < row.length by omega)
  have hmx := List.mem_of_getElem? hx
  have e : cellAt rows s k = x := by simp [cellAt, List.getD_eq_getElem?_getD, hrow, hx]
  rw [e]
  exact ⟨row, hrow, hx, hV.to0 row hmr x hmx, hV.to1 row hmr x hmx, hV.sz row hmr x hmx⟩
theorem encR_take {q bl I : Int} {rows : List (List Cl)} (hV : EncV q bl I rows) {s : Nat} (hs : s < rows.length) {ks : List Nat} (hk : ∀ k ∈ ks, (k : Int) < I) : ∀ j, j ≤ ks.length → (encR rows s (ks.take j)).1 < rows.length ∧ ((encR rows s (ks.take j)).2.length : Int) = bl * j := by
  intro j
  induction j with
  | zero => intro _; exact ⟨hs, by simp [encR]⟩
  | succ j ih =>
    intro hj
    obtain ⟨k, hkk⟩ := some_of_lt (show j < ks.length by omega)
    obtain ⟨h1, h2⟩ := ih (by omega)
    rw [take_snoc hkk, encR_snoc]
    obtain ⟨_, _, _, g1, g2, g3⟩ := cell_at hV h1 (hk k (List.mem_of_getElem? hkk))
    unfold encStep
    simp only
    refine ⟨by omega, ?_⟩
    rw [List.length_append, ba_len]
    rw [Int.natCast_add, h2, g3, Int.natCast_add, Int.mul_add]
    simp
set_option maxHeartbeats 400000 in
theorem encG_any (B : Nat) (I k : Int) (w : World) (c2 : w.cell? ⟨B, 2, none⟩ = some (.int .i64 I)) :
    Calls Tryd.prog 29 #[.int .i64 k, .pointer (some ⟨B, 0, none⟩)] w fun e w' => e = .returned (.bool (offB I k)) ∧ w = w' := by
  by_cases h2 : k < 0
  · have e : offB I k = true := by simp [offB, h2]
    rw [e]
    go_enter Tryd.func29, Tryd.ntmps29
    go_wp2
    go_ret
    exact ⟨rfl, rfl⟩
  · have e : offB I k = decide (I ≤ k) := by simp [offB, h2]
    rw [e]
    go_enter Tryd.func29, Tryd.ntmps29
    go_wp2
    go_ret
    exact ⟨rfl, rfl⟩
/-- Whether an input is out of range. -/
theorem insAll_any (B : Nat) (I : Int) (v : Value) (xs : List Int) (w : World) (c2 : w.cell? ⟨B, 2, none⟩ = some (.int .i64 I)) (hl : Sl 1 w v xs.length (ints xs)) :
    Calls Tryd.prog 28 #[v, .func (.func 29) #[] #[.pointer (some ⟨B, 0, none⟩)]] w fun e w' => e = .returned (.bool (xs.any (offB I))) ∧ Dr w w' := by
  obtain ⟨ao2, cap2, rfl, h2, h3, h4, h5⟩ := hl
  by_cases hn : xs.length = 0
  · rw [hn]
    refine (Tryd.slices_ContainsFunc_empty (α := Nat) ao2 cap2 _ w).mono ?_
    rintro e w' ⟨rfl, rfl⟩
    have : xs = [] := List.length_eq_zero_iff.1 hn
    subst this
    exact ⟨rfl, Dr.refl _⟩
  · rcases h5 with h5 | ⟨b, o, rfl, hc⟩
    · omega
    · have eg : ∀ args w, (callFunc 29 args).run Tryd.prog w = .ok (.enter 29 args) w := enters_of Tryd.func29 (by kernel_rfl) rfl
      have hp : PredAt Tryd.prog 29 #[.pointer (some ⟨B, 0, none⟩)] (fun x : Int => Value.int .i64 x) (offB I) w := by
        intro W x hB
        refine (encG_any B I x W (keeps hB c2)).mono ?_
        rintro e w' ⟨rfl, rfl⟩; exact ⟨rfl, 0, rfl⟩
      refine (Tryd.slices_ContainsFunc _ _ 29 #[.pointer (some ⟨B, 0, none⟩)] eg b o xs.length cap2 xs w hp (by simp) (by omega) fun j hj => ?_).mono ?_
      · rw [hc j (.int .i64 xs[j]!) (by rw [List.getElem!_eq_getElem?_getD]; simp [ints, hj])]
      · rintro e w' ⟨rfl, k, rfl⟩
        refine ⟨ret_bool ?_, k, rfl⟩
        rw [List.take_of_length_le (by simp)]
theorem ins_good {I : Int} {ks : List Nat} (hk : ∀ k ∈ ks, (k : Int) < I) : (ks.map fun k : Nat => (k : Int)).any (offB I) = false := by
  rw [List.any_eq_false]
  intro x hx
  obtain ⟨k, hm, rfl⟩ := List.mem_map.1 hx
  have := hk k hm
  simp [offB]
  omega
set_option maxHeartbeats 2000000 in
set_option maxRecDepth 100000 in
theorem string_wr0 (b : Nat) (e0 e1 e2 e3 e4 p : Value) (w : World) (hbk : w.heap[b]? = some (.cells #[e0, e1, e2, e3, e4, p, .slice none 0 0] 89 (0, 0))) :
    Calls Tryd.prog 31 #[.pointer (some ⟨b, 5, none⟩)] w fun e w' => e = .returned (.string ⟨#[]⟩) ∧ Below w.heap.size w w' := by
  have hUS : ∀ (W : World) (q : Option Addr), (Builtin.unsafeString_ #[124, 3] 9 #[.pointer q, .int .i64 0]).run Tryd.prog W = .ok (.string .empty) W := fun W q => Lib.run_unsafeString_none W _ _ _ q
  have c1 : w.drew.cell? ⟨b, 6, none⟩ = some (.slice none 0 0) := by
    have : w.drew.heap[b]? = some (.cells #[e0, e1, e2, e3, e4, p, .slice none 0 0] 89 (0, 0)) := hbk
    rw [Lib.cell_of_heap this]; rfl
  have hSD : (Builtin.unsafeSliceData_ #[25] 124 #[.slice none 0 0]).run Tryd.prog w.drew = .ok (.pointer none) w.drew := rfl
  clear hbk
  go_enter Tryd.func31, Tryd.ntmps31
  go_wp2
  go_region
  all_goals (go_wp2; go_ret; exact ⟨rfl, Below.drew (Below.refl _ w)⟩)
set_option maxRecDepth 100000 in
set_option maxHeartbeats 8000000 in
theorem encode_any (q bl I s : Nat) (v vi : Value) (rows : List (List Cl)) (ks : List Nat) (w : World) (hM : MC w v rows) (hE : eErr (q : Int) (bl : Int) (I : Int) rows = 0) (hV : EncV (q : Int) (bl : Int) (I : Int) rows) (hs : s < rows.length) (hks : ∀ k ∈ ks, (k : Int) < (I : Int)) (hlen : ks.length ≤ 1000) (hi : Sl 1 w vi ks.length (ints (ks.map fun k : Nat => (k : Int)))) :
    Calls Tryd.prog 10 #[.agg #[.int .i64 (q : Int), .int .i64 (bl : Int), .int .i64 (I : Int), v], .int .i64 (s : Int), vi] w fun e w' => e = .returned (.tuple #[.string ⟨(encR rows s ks).2.toArray⟩, .int .i64 ((encR rows s ks).1 : Int), .int .i64 0]) ∧ Below w.heap.size w w' := by
  have HM := hid hM
  have HI := hid hi
  have HCk := hid (fun X h => echk_any (q : Int) (bl : Int) (I : Int) v rows X h)
  rw [hE] at HCk
  obtain ⟨am, cap, rfl, hm1, hm2⟩ := hM.slice
  obtain ⟨ai, ci, rfl, _, hi1, hi2, _⟩ := hi
  have hb1 := hV.b1
  have hb2 := hV.b16
  have hn64 := hV.r64
  have HIn := hid (fun B X h1 h2 => insAll_any B (I : Int) (.slice ai ks.length ci) (ks.map fun k : Nat => (k : Int)) X h1 h2)
  rw [ins_good hks, List.length_map] at HIn
  have HTk := hid (encR_take hV hs hks)
  have HCa := hid (fun s' k h1 h2 => cell_at hV (s := s') (k := k) h1 h2)
  have HKs := hid hks
  have HAll := hid (show ks.take ks.length = ks from List.take_length)
  clear hE hV hks
  have hBL : ks.length * bl ≤ 16000 := Nat.mul_le_mul hlen (show bl ≤ 16 by omega)
  have hmul : IntKind.i64.wrap ((ks.length : Int) * (bl : Int)) = ((ks.length * bl : Nat) : Int) := by rw [← Int.natCast_mul]; exact IntWalk.i64_in _ (by omega)
  generalize ks.length * bl = BL at *
  generalize hK : ks.length = K at *
  have HKl := hid hK
  generalize hn : rows.length = n at *
  have HN := hid hn
  clear hK hn
  go_enter Tryd.func10, Tryd.ntmps10
  go_upto_region 1 with fail
  obtain ⟨w0, hw0⟩ : ∃ w0, w.alloc (.cells #[.int .i64 (q : Int), .int .i64 (bl : Int), .int .i64 (I : Int), .slice am n cap] 24) = w0 := ⟨_, rfl⟩
  obtain ⟨hb0, c0, c1, c2, c3⟩ := boxedE hw0
  rw [hw0]
  have HB0 := hid hb0
  clear hw0 hb0
  go_upto_region 5 with (go_at_call 15; refine (HCk.out _ (HM.out.below HB0.out)).mono ?_; rintro e w1 ⟨rfl, hb1⟩; have HB1 := hid (bel_step HB0.out hb1); have c0 := keeps hb1 c0; have c1 := keeps hb1 c1; have c2 := keeps hb1 c2; have c3 := keeps hb1 c3; clear hb1)
  go_upto_region 7 with (go_at_call 28; refine (HIn.out _ _ c2 (HI.out.below HB1.out)).mono ?_; rintro e w2 ⟨rfl, hD⟩; have hb2 := hD.below w1.heap.size; have HB2 := hid (bel_step HB1.out hb2); have c0 := keeps hb2 c0; have c1 := keeps hb2 c1; have c2 := keeps hb2 c2; have c3 := keeps hb2 c3; clear hb2 hD)
  go_upto_region 10 with fail
  obtain ⟨w3, hw3⟩ : ∃ w3, w2.alloc (.cells #[.int .i64 (q : Int), .int .i64 (bl : Int), .int .i64 (I : Int), .slice am n cap, .int .i64 (s : Int), .pointer none, .slice none 0 0] 89) = w3 := ⟨_, rfl⟩
  obtain ⟨hW3, hb3⟩ := Wr.start w2 w3 _ _ _ _ _ hw3
  have HK3 := hid (show w3.heap[w2.heap.size]? = some (.cells #[.int .i64 (q : Int), .int .i64 (bl : Int), .int .i64 (I : Int), .slice am n cap, .int .i64 (s : Int), .pointer none, .slice none 0 0] 89 (0, 0)) by rw [← hw3]; exact heap_alloc_new w2 _)
  rw [hw3]
  have HW3 := hid hW3
  have HB3 := hid (bel_step HB2.out hb3)
  have hS2 := HB2.out.size
  clear hw3 hW3 hb3 hmul c0 c1 c2 c3
  generalize w2.heap.size = wb at *
  go_wp2_with fail
  go_loopw [46] (fun i wr => ∃ j : Nat, j ≤ K ∧ i = .int .i64 (j : Int) ∧ Hid (Wr wr wb w3.heap.size (.int .i64 (q : Int)) (.int .i64 (bl : Int)) (.int .i64 (I : Int)) (.slice am n cap) ((encR rows s (ks.take j)).1 : Int) (Lib.byteCells (encR rows s (ks.take j)).2)) ∧ Hid (BelB w3.heap.size wb w3 wr) ∧ Hid (j = 0 → w3 = wr)) (fun i _ => K - (intOf i).toNat)
  case atStart => exact ⟨0, Nat.zero_le _, rfl, HW3, hid (BelB.refl _ _ _), hid (fun _ => rfl)⟩
  case round =>
    obtain ⟨j, hj, rfl, HWr, HBl, HZ⟩ := hrel
    have hlt3 := HW3.out.1
    have hsz := HB3.out.size
    have HBr := hid (show Below w.heap.size w wr from HB3.out.trans (HBl.out.below (by omega) hsz))
    by_cases hjk : j < K
    · obtain ⟨k, hk⟩ := some_of_lt (show j < ks.length by rw [HKl.out]; exact hjk)
      obtain ⟨b, o, rfl, ck⟩ := (HI.out.below HBr.out).cell (show (ints (ks.map fun k : Nat => (k : Int)))[j]? = some (.int .i64 (k : Int)) by simp [ints, hk])
      obtain ⟨t1, t2⟩ := HTk.out j (by omega)
      have hkI := HKs.out k (List.mem_of_getElem? hk)
      obtain ⟨row, hrow, hx, x0, x1, x2⟩ := HCa.out _ k t1 hkI
      have HSn := hid (show encR rows s (ks.take (j + 1)) = encStep rows (encR rows s (ks.take j)) k by rw [take_snoc hk, encR_snoc])
      generalize encR rows s (ks.take j) = p at *
      obtain ⟨st, bs⟩ := p
      simp only at t1 t2 hrow hx x0 x1 x2
      have HWr' := hid (show Wr wr wb w3.heap.size (.int .i64 (q : Int)) (.int .i64 (bl : Int)) (.int .i64 (I : Int)) (.slice am n cap) (st : Int) (Lib.byteCells bs) from HWr.out)
      have hbl : bs.length ≤ 16000 := by
        have h1 := Nat.mul_le_mul (show bl ≤ 16 by omega) (show j ≤ 1000 by omega)
        have : ((bl * j : Nat) : Int) = (bs.length : Int) := by rw [Int.natCast_mul]; exact t2.symm
        omega
      have HPut := hid (wput_any wb w3.heap.size st k n cap am (.int .i64 (q : Int)) (.int .i64 (bl : Int)) (.int .i64 (I : Int)) rows row (cellAt rows st k) (Lib.byteCells bs) wr w HM.out HBr.out HWr'.out HN.out hrow hx (by rw [Lib.byteCells_length]; omega) hS2)
      clear HWr HWr' hrow hx t2
      go_wp2_with (go_at_call 30; refine HPut.out.mono ?_; rintro e w4 ⟨rfl, hW4, hB4⟩; have HW4 := hid hW4; have HB4 := hid (HBl.out.trans hB4); clear hW4 hB4)
      go_roundw
      case rel =>
        refine ⟨j + 1, by omega, by go_num, ?_, HB4, hid (fun h => by omega)⟩
        rw [HSn.out]
        unfold encStep
        simp only
        have e1 : (((cellAt rows st k).st.toNat : Nat) : Int) = (cellAt rows st k).st := by omega
        have e2 : Lib.byteCells (bs ++ (cellAt rows st k).word.data.toList) = Lib.byteCells bs ++ Lib.strCells (cellAt rows st k).word := by rw [Lib.strCells_eq]; simp [Lib.byteCells]
        rw [e1, e2]
        exact HW4
      case measure => simp [intOf]; omega
    · obtain rfl : K = j := by omega
      rw [HAll.out] at HWr
      have hl := (HTk.out K (by omega)).2
      rw [HAll.out] at hl
      have HL := hid hl
      clear hl
      obtain ⟨⟨st, bs⟩, hp⟩ : ∃ p, encR rows s ks = p := ⟨_, rfl⟩
      rw [hp] at HWr HL
      have HPe := hid hp
      clear hp
      have HWr' := hid (show Wr wr wb w3.heap.size (.int .i64 (q : Int)) (.int .i64 (bl : Int)) (.int .i64 (I : Int)) (.slice am n cap) (st : Int) (Lib.byteCells bs) from HWr.out)
      obtain ⟨_, _, _, _, c4, _⟩ := HWr'.out.cells
      have HD := hid (show Below wr.heap.size wr wr.drew from below_drewN (Below.refl _ _) 1)
      have HLt := hid hlt3
      have hs3 := HW3.out.2.1
      have hlw : wb < wr.heap.size := HWr'.out.lt
      have HSt := hid (show Calls Tryd.prog 31 #[.pointer (some ⟨wb, 5, none⟩)] wr.drew fun e w' => e = .returned (.string ⟨bs.toArray⟩) ∧ Below w3.heap.size wr.drew w' by
        by_cases h0 : K = 0
        · have e1 : w3 = wr := HZ.out h0
          have e2 : bs = [] := by
            have h := HL.out
            rw [h0] at h
            simpa using h
          rw [e2, ← e1]
          exact string_wr0 wb _ _ _ _ _ _ w3.drew HK3.out
        · exact string_wr wb w3.heap.size (.int .i64 (q : Int)) (.int .i64 (bl : Int)) (.int .i64 (I : Int)) (.slice am n cap) (st : Int) bs wr.drew (HWr'.out.below HD.out) (fun e => by
            have h := HL.out
            rw [e] at h
            have h2 : (bl : Int) * (K : Int) = ((bl * K : Nat) : Int) := by rw [Int.natCast_mul]
            have h3 := Nat.mul_le_mul (show 1 ≤ bl by omega) (show 1 ≤ K by omega)
            simp only [List.length_nil] at h
            omega))
      go_upto_region 16 with fail
      go_region_held3 (fun w' => w'.cell? ⟨wb, 4, none⟩ = some (.int .i64 (st : Int)))
        (first | exact c4 | go_keep)
        (first | (go_at_call 31; refine HSt.out.mono ?_; rintro e w5 ⟨rfl, hb5⟩; have HB5 := hid hb5; have c4 := World.cell?_of_block (a := ⟨wb, 4, none⟩) (hb5.block wb HLt.out) |>.trans c4; clear hb5))
      go_wp2
      go_ret3
      rw [HPe.out]
      refine ⟨rfl, ?_⟩
      have h3 : Below w.heap.size wr wr.drew := below_drewN (Below.refl _ _) 1
      exact (HBr.out.trans h3).trans (HB5.out.mono hsz)
end Go.Proofs.YtmibbhghbhjmmaaDoor
