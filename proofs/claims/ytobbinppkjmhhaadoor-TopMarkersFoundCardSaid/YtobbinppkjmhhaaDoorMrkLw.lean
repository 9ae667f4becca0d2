/-
  groovetop.TopMarkersFound: with the marker that is found, each letter that is left out is located, and the other blocks come back.
  No condition beyond the bytes lying in a slice.
-/
import Derived.Test.YtobbinppkjmhhaaDoorMrkRecA
import Derived.Test.YtobbinppkjmhhaaDoorTop53Aw
namespace Go.Proofs.YtobbinppkjmhhaaDoor
open Go.RowKit Go.Deep
set_option linter.unusedVariables false
set_option linter.unusedSimpArgs false

def Bin (x : List UInt8) : Prop := ∀ c ∈ x, c = 48 ∨ c = 49
theorem bin_ok {x : List UInt8} (h : Bin x) (hl : x.length ≤ 65536) : wordErr 2 (mkS x) = 0 := by
  refine wordErr_zero.2 ⟨by decide, by decide, by rw [mkS_size]; exact hl, ?_⟩
  unfold okWord
  rw [List.all_eq_true, mkS_list]
  intro c hc
  rcases h c hc with rfl | rfl <;> decide
theorem and1_u8 : ∀ y : Fin 256, bits .and .u8 ((y.val : Nat) : Int) 1 = ((y.val % 2 : Nat) : Int) := by decide +kernel
theorem bit_byte8 (c k : Nat) (hc : c ≤ 255) : ∃ d : UInt8, (d = 48 ∨ d = 49) ∧ (48 + bits .and .u8 ((c : Int) / 2 ^ k) 1) % 256 = (d.toNat : Int) := by
  have hy : c / 2 ^ k < 256 := Nat.lt_of_le_of_lt (Nat.div_le_self _ _) (by omega)
  have e : (c : Int) / 2 ^ k = ((c / 2 ^ k : Nat) : Int) := by push_cast; rfl
  rw [e, and1_u8 ⟨_, hy⟩]
  show ∃ d : UInt8, (d = 48 ∨ d = 49) ∧ (48 + ((c / 2 ^ k % 2 : Nat) : Int)) % 256 = (d.toNat : Int)
  rcases (show c / 2 ^ k % 2 = 0 ∨ c / 2 ^ k % 2 = 1 by omega) with h | h
  · exact ⟨48, .inl rfl, by rw [h]; rfl⟩
  · exact ⟨49, .inr rfl, by rw [h]; rfl⟩
theorem trk_bin {m : List UInt8} {ws : List (List UInt8)} (hm : ∀ x ∈ m, x = 48 ∨ x = 49) (hw : ∀ x ∈ ws, Bin x) : Bin (trk m ws) := by
  intro c hc
  unfold trk at hc
  obtain ⟨x, hx, hc⟩ := List.mem_flatMap.1 hc
  rcases List.mem_append.1 hc with h | h
  · exact hw x hx c h
  · exact hm c h
theorem delW_bin {x : List UInt8} (h : Bin x) (i : Nat) : Bin (delW x i) := by
  intro c hc
  unfold delW at hc
  rcases List.mem_append.1 hc with h1 | h1
  · exact h c (List.mem_of_mem_take h1)
  · exact h c (List.mem_of_mem_drop h1)
/-- What the comparison reads at a block. -/
theorem law_vals {ws : List (List UInt8)} {k n : Nat} {d y : List UInt8} (hy : ws[n]? = some y) : (wVals (lawBlk ws k d))[n]? = some (.string (mkS (if n = k then [] else y))) ∧ (bVals (lawBlk ws k d))[n]? = some (.bool (decide (n ≠ k))) := by
  have h := lawBlk_get (k := k) (d := d) hy
  unfold wVals bVals
  rw [List.getElem?_map, List.getElem?_map, h]
  by_cases e : n = k
  · subst e; simp [recW, recB]
  · simp [recW, recB, e]
set_option maxRecDepth 100000 in
set_option maxHeartbeats 8000000 in
theorem topMarkersFound_any (A : Int) (u : Value) (L : List Int) (B C : Int) (w : World) (hA0 : IntKind.u8.min ≤ A) (hA1 : A ≤ IntKind.u8.max) (hl : Sl 1 w u L.length (L.map (.int .u8))) (hby : ∀ x ∈ L, IntKind.u8.min ≤ x ∧ x ≤ IntKind.u8.max) (hB0 : IntKind.u8.min ≤ B) (hB1 : B ≤ IntKind.u8.max) (hC0 : IntKind.u8.min ≤ C) (hC1 : C ≤ IntKind.u8.max) :
    Calls Tryd.prog 3 #[.int .u8 A, u, .int .u8 B, .int .u8 C] w fun e w' => e = .returned (.bool true) ∧ Below w.heap.size w w' := by
  have hA0 : 0 ≤ A := hA0
  have hA1 : A ≤ 255 := hA1
  have HBy := hid (show ∀ x ∈ L, 0 ≤ x ∧ x ≤ 255 from hby)
  obtain ⟨A, rfl⟩ : ∃ A' : Nat, A = A' := ⟨A.toNat, by omega⟩
  have HL := hid hl
  have HAw := hid awake_any
  obtain ⟨al, cl, rfl, hl1, hl2, hl3, _⟩ := id hl
  clear hby hl1 hA0 hl
  by_cases hn : L.length = 0 ∨ 3 < L.length
  · rcases hn with hn | hn
    · have hn0 : ((L.length : Int) == 0) = true := by rw [beq_iff_eq]; omega
      go_enter Tryd.func3, Tryd.ntmps3
      go_wp2_with (go_at_call 4; refine (HAw.out _).mono ?_; rintro e w4 ⟨rfl, hb4⟩; have HB4 := hid (hb4))
      go_ret
      exact ⟨rfl, HB4.out⟩
    · have hn0 : ((L.length : Int) == 0) = false := by rw [beq_eq_false_iff_ne]; omega
      have hn3 : (3 : Int) < (L.length : Int) := by omega
      go_enter Tryd.func3, Tryd.ntmps3
      go_wp2_with (go_at_call 4; refine (HAw.out _).mono ?_; rintro e w4 ⟨rfl, hb4⟩; have HB4 := hid (hb4))
      go_ret
      exact ⟨rfl, HB4.out⟩
  · obtain ⟨b, hb⟩ : ∃ b, 1 + A % 5 = b := ⟨_, rfl⟩
    have hb1 : 1 ≤ b := by omega
    have hb5 : b ≤ 5 := by omega
    have hbI : 1 + (A : Int) % 5 = (b : Int) := by omega
    have hn0 : ((L.length : Int) == 0) = false := by rw [beq_eq_false_iff_ne]; omega
    have hn3 : ¬ (3 : Int) < (L.length : Int) := by omega
    clear hb
    go_enter Tryd.func3, Tryd.ntmps3
    go_upto_region 5 with fail
    generalize hN : L.length = N at *
    have HN := hid hN
    clear hN
    go_wp2
    go_loopw [10, 42] (fun v i wr => ∃ (n : Nat) (ws : List (List UInt8)), n ≤ N ∧ i = .int .i64 (n : Int) ∧ ws.length = n ∧ Hid (∀ x ∈ ws, Bin x ∧ x.length = b) ∧ Hid (wr.ownsRow w.heap.size 9 1 v n (sstr ws)) ∧ Hid (Below w.heap.size w wr)) (fun _ i _ => N - (intOf i).toNat)
    case atStart => exact ⟨0, [], Nat.zero_le _, rfl, rfl, hid (fun x hx => by simp at hx), hid (World.ownsRow_nil _ _ _ _), hid (Below.refl _ _)⟩
    case round =>
      obtain ⟨n, ws, hn, rfl, hws, HW, HO, HB⟩ := hrel
      rename World => wk
      by_cases hlt : n < N
      · obtain ⟨c, hc⟩ := some_of_lt (l := L) (k := n) (by rw [HN.out]; exact hlt)
        have hcb := HBy.out c (List.mem_of_getElem? hc)
        obtain ⟨c, rfl⟩ : ∃ c' : Nat, c = c' := ⟨c.toNat, by omega⟩
        obtain ⟨bu, ou, rfl, cx⟩ := (HL.out.below HB.out).cell (k := n) (x := .int .u8 (c : Int)) (by rw [List.getElem?_map, hc]; rfl)
        have hltI : (n : Int) < (N : Int) := by omega
        obtain ⟨va, vl, vc, rfl⟩ := own_sl HO.out
        clear hc
        go_upto_region 9 with fail
        go_wp2
        go_loopw [13, 47] (fun v i wr => ∃ (k : Nat) (x : List UInt8), k ≤ b ∧ i = .int .i64 (k : Int) ∧ v = .string (mkS x) ∧ x.length = k ∧ Hid (Bin x) ∧ Hid (Below wk.heap.size wk wr)) (fun _ i _ => b - (intOf i).toNat)
        case atStart => exact ⟨0, [], Nat.zero_le _, rfl, rfl, rfl, hid (fun x hx => by simp at hx), hid (Below.refl _ _)⟩
        case round =>
          obtain ⟨k, x, hk, rfl, rfl, hx, HX, HBk⟩ := hrel
          rename World => wj
          by_cases hkl : k < b
          · have hkI : (k : Int) < (b : Int) := by omega
            obtain ⟨d, hd, hdv⟩ := bit_byte8 c k (by omega)
            have hyr : YRow (wj.alloc (.cells #[.int .u8 (d.toNat : Int)] 5)) wj.heap.size 1 (fun _ => d) := by
              refine ⟨_, World.alloc_heap_new _ _, by simp, fun m hm => ?_⟩
              have h0 : m = 0 := by omega
              subst h0
              rfl
            have hcv := conv_yrow _ _ 1 1 _ hyr
            rw [show (List.range 1).map (fun _ => d) = [d] from rfl] at hcv
            have hcat : (mkS x).size + (mkS [d]).size ≤ 9223372036854775807 := by rw [mkS_size, mkS_size]; simp; omega
            have HB2 := hid (HBk.out.trans ((bel_alloc wj (.cells #[.int .u8 (d.toNat : Int)] 5)).mono HBk.out.size))
            have HD := hid hd
            clear hyr hd
            go_wp2
            go_roundw
            case rel =>
              refine ⟨k + 1, x ++ [d], hkl, by go_num, by rw [mkS_append], by rw [List.length_append, hx]; rfl, hid (fun y hy => ?_), HB2⟩
              rcases List.mem_append.1 hy with h | h
              · exact HX.out y h
              · rw [List.mem_singleton.1 h]; exact HD.out
            case measure => simp [intOf]; omega
          · obtain rfl : k = b := by omega
            have hown := own_below HO.out HBk.out
            have HBj := hid (HB.out.trans (HBk.out.mono HB.out.size))
            have hlj : w.heap.size ≤ wj.heap.size := HBj.out.size
            go_wp2_with (at_builtin; refine wpList_push wj rfl _ _ 24 rfl w.heap.size 9 (.string ⟨#[]⟩) 1 16 Tryd.underlying24 Tryd.infoString rfl (by decide) (.slice va vl vc) n (sstr ws) rfl hown #[.string (mkS x)] rfl (oneCell_string _) rfl (by unfold maxLen; omega) (by omega) hlj ?_; intro g cap w2 hown' hgrow hb2)
            go_roundw
            case rel =>
              refine ⟨n + 1, ws ++ [x], hlt, by go_num, by rw [List.length_append, hws]; rfl, hid (fun y hy => ?_), hid (by have e : sstr (ws ++ [x]) = sstr ws ++ [.string (mkS x)] := by simp [sstr]
                                                                                                                            rw [e]; exact hown'), hid (HBj.out.trans hb2)⟩
              rcases List.mem_append.1 hy with h | h
              · exact HW.out y h
              · rw [List.mem_singleton.1 h]; exact ⟨HX.out, hx⟩
            case measure => simp [intOf]; omega
      · obtain rfl : n = N := by omega
        obtain ⟨va, vc, rfl⟩ := own_slice HO.out
        have hne : ws ≠ [] := fun e => by rw [e] at hws; simp at hws; omega
        have HSe := hid (search_any b ws (.slice va n vc) wk (by rw [hws]; exact Sl.of_owns HO.out) hb1 (by omega) (by omega) hne (fun x hx => ⟨bin_ok (HW.out x hx).1 (by rw [(HW.out x hx).2]; omega), (HW.out x hx).2⟩))
        go_upto_region 17 with (go_at_call 5; refine HSe.out.mono ?_; rintro e w3 ⟨hb3, hq⟩; rcases hq with ⟨m, hF, rfl⟩ | rfl)
        · have HB3 := hid (HB.out.trans (hb3.mono HB.out.size))
          have HO3 := hid (own_below HO.out hb3)
          have HF := hid hF
          obtain ⟨B, rfl⟩ : ∃ B' : Nat, B = B' := ⟨B.toNat, by have : 0 ≤ B := hB0; omega⟩
          obtain ⟨C, rfl⟩ : ∃ C' : Nat, C = C' := ⟨C.toNat, by have : 0 ≤ C := hC0; omega⟩
          obtain ⟨kk, hkk⟩ : ∃ kk, B % n = kk := ⟨_, rfl⟩
          obtain ⟨ii, hii⟩ : ∃ ii, C % b = ii := ⟨_, rfl⟩
          have hkn : kk < n := by rw [← hkk]; exact Nat.mod_lt _ (by omega)
          have hib : ii < b := by rw [← hii]; exact Nat.mod_lt _ (by omega)
          have hkI : (B : Int).tmod (n : Int) = (kk : Int) := by rw [Int.tmod_eq_emod_of_nonneg (by omega), ← hkk]; push_cast; rfl
          have hiI : (C : Int).tmod (b : Int) = (ii : Int) := by rw [Int.tmod_eq_emod_of_nonneg (by omega), ← hii]; push_cast; rfl
          have hB2 : (B : Int) ≤ 255 := hB1
          have hC2 : (C : Int) ≤ 255 := hC1
          clear hkk hii
          go_upto_region 19 with fail
          go_quiet (fail)
          have HB4 := hid (below_drewN HB3.out nq)
          have HO4 := hid (own_drewN HO3.out nq)
          clear hkI hiI hB2 hC2
          go_upto_region 21 with fail
          obtain ⟨xk, hxk⟩ := some_of_lt (l := ws) (k := kk) (by rw [hws]; exact hkn)
          have HXk := hid hxk
          have hLw := law_blk HF.out (fun y hy => (HW.out y hy).2) hxk hib
          have HLw := hid hLw
          generalize w3.drewN nq = w4 at *
          clear hxk hLw
          go_wp2
          go_loopw [19, 89] (fun v i wr => ∃ j : Nat, j ≤ n ∧ i = .int .i64 (j : Int) ∧ v = .string (mkS (trk m ((ws.set kk (delW xk ii)).take j))) ∧ Hid (Below w4.heap.size w4 wr)) (fun _ i _ => n - (intOf i).toNat)
          case atStart => exact ⟨0, Nat.zero_le _, rfl, rfl, hid (Below.refl _ _)⟩
          case round =>
            obtain ⟨j, hj, rfl, rfl, HBj⟩ := hrel
            rename World => wj
            by_cases hjn : j < n
            · obtain ⟨y, hy⟩ := some_of_lt (l := ws) (k := j) (by rw [hws]; exact hjn)
              have hyl := (HW.out y (List.mem_of_getElem? hy)).2
              obtain ⟨bo, oo, rfl, cy⟩ := (Sl.of_owns (own_below HO4.out HBj.out)).cell (sstr_get hy)
              have hjI : (j : Int) < (n : Int) := by omega
              have htl := trk_set_le m (ws.set kk (delW xk ii)) (fun z hz => by
                rcases List.mem_or_eq_of_mem_set hz with h1 | h1
                · have := (HW.out z h1).2; omega
                · have := (HW.out xk (List.mem_of_getElem? HXk.out)).2
                  rw [h1]; simp only [delW, List.length_append, List.length_take, List.length_drop]; omega)
              have HY := hid hy
              clear hy
              by_cases hjk : j = kk
              · subst hjk
                obtain ⟨I1, hI1⟩ : ∃ I1, ii + 1 = I1 := ⟨_, rfl⟩
                have hw0 : IntKind.i64.wrap ((ii : Int) + 1) = (ii : Int) + 1 := IntWalk.i64_in _ (by omega)
                have hw1 : IntKind.i64.wrap ((ii : Int) + 1) = (I1 : Int) := by rw [hw0]; omega
                have hl1 : (ii : Int) ≤ ((mkS y).size : Int) := by rw [mkS_size]; omega
                have hl2 : (I1 : Int) ≤ ((mkS y).size : Int) := by rw [mkS_size]; omega
                go_upto_region 25 with fail
                have hWj : (ws.set j (delW xk ii))[j]? = some (delW xk ii) := by rw [List.getElem?_set, if_pos rfl, if_pos (by omega)]
                obtain rfl : xk = y := by have h1 := HXk.out; have h2 := HY.out; rw [h1] at h2; exact Option.some.inj h2
                have hdl : (delW xk ii).length + 1 = b := by simp only [delW, List.length_append, List.length_take, List.length_drop]; omega
                have hle := trk_le (m := m) hWj
                have HT := hid (trk_take (m := m) hWj)
                rw [List.length_set] at htl
                have hml := HF.out.len
                have hb17 : ws.length * (17 + m.length) ≤ 3 * 21 := Nat.mul_le_mul (by omega) (by omega)
                have hs0 : ((mkS xk).extract 0 ii).size + ((mkS xk).extract I1 (mkS xk).size).size ≤ 9223372036854775807 := by rw [mkS_take, mkS_drop, mkS_size, mkS_size, List.length_take, List.length_drop]; omega
                have HE := hid (show (mkS xk).extract 0 ii ++ (mkS xk).extract I1 (mkS xk).size = mkS (delW xk ii) by rw [mkS_take, mkS_drop, mkS_append, ← hI1]; rfl)
                go_quiet (fail)
                rw [HE.out]
                have HBq := hid (below_drewN HBj.out nq)
                clear hs0 hw0 hw1 hl1 hl2 hI1
                generalize wj.drewN nq = wq at *
                have hs1 : (mkS (delW xk ii)).size + (mkS m).size ≤ 9223372036854775807 := by rw [mkS_size, mkS_size]; omega
                have hs2 : (mkS (trk m ((ws.set j (delW xk ii)).take j))).size + ((mkS (delW xk ii)).size + (mkS m).size) ≤ 9223372036854775807 := by rw [mkS_size, mkS_size, mkS_size]; omega
                clear hWj hle htl hb17 hdl
                go_wp2
                go_roundw
                case rel => exact ⟨j + 1, hjn, by go_num, by rw [HT.out, mkS_append, mkS_append], HBq⟩
                case measure => simp [intOf]; omega
              · have hjk2 : ((j : Int) == (kk : Int)) = false := by rw [beq_eq_false_iff_ne]; omega
                have hWj : (ws.set kk (delW xk ii))[j]? = some y := by rw [List.getElem?_set, if_neg (fun e => hjk e.symm)]; exact HY.out
                have hle := trk_le (m := m) hWj
                have HT := hid (trk_take (m := m) hWj)
                rw [List.length_set] at htl
                have hml := HF.out.len
                have hb17 : ws.length * (17 + m.length) ≤ 3 * 21 := Nat.mul_le_mul (by omega) (by omega)
                have hs1 : (mkS y).size + (mkS m).size ≤ 9223372036854775807 := by rw [mkS_size, mkS_size]; omega
                have hs2 : (mkS (trk m ((ws.set kk (delW xk ii)).take j))).size + ((mkS y).size + (mkS m).size) ≤ 9223372036854775807 := by rw [mkS_size, mkS_size, mkS_size]; omega
                clear hWj hle htl hb17
                go_wp2
                go_roundw
                case rel => exact ⟨j + 1, hjn, by go_num, by rw [HT.out, mkS_append, mkS_append], HBj⟩
                case measure => simp [intOf]; omega
            · obtain rfl : n = j := by omega
              have htk : (ws.set kk (delW xk ii)).take n = ws.set kk (delW xk ii) := List.take_of_length_le (by rw [List.length_set]; omega)
              have htl := trk_set_le m (ws.set kk (delW xk ii)) (fun z hz => by
                rcases List.mem_or_eq_of_mem_set hz with h1 | h1
                · have := (HW.out z h1).2; omega
                · have := (HW.out xk (List.mem_of_getElem? HXk.out)).2
                  rw [h1]; simp only [delW, List.length_append, List.length_take, List.length_drop]; omega)
              have hml := HF.out.len
              have hb17 : ws.length * (17 + m.length) ≤ 3 * 21 := Nat.mul_le_mul (by omega) (by omega)
              rw [List.length_set] at htl
              have hbin : Bin (trk m (ws.set kk (delW xk ii))) := trk_bin HF.out.bin (fun z hz => by
                rcases List.mem_or_eq_of_mem_set hz with h1 | h1
                · exact (HW.out z h1).1
                · rw [h1]; exact delW_bin (HW.out xk (List.mem_of_getElem? HXk.out)).1 ii)
              have HRc := hid (recover_any b m (trk m (ws.set kk (delW xk ii))) hb1 (by omega) HF.out.ne (by omega) (by omega) (bin_ok HF.out.bin (by omega)) (bin_ok hbin (by omega)) HLw.out.1 wj)
              rw [htk]
              rw [HLw.out.2, lawBlk_len, hws] at HRc
              clear htk htl hml hb17 hbin
              obtain ⟨T, hT⟩ : ∃ T, trk m (ws.set kk (delW xk ii)) = T := ⟨_, rfl⟩
              rw [hT] at HRc ⊢
              clear hT
              have hjn2 : ¬ (n : Int) < (n : Int) := by omega
              go_upto_region 28 with fail
              go_upto_region 29 with (go_at_call 6; refine HRc.out.mono ?_; rintro e w5 ⟨v5, u5, rfl, hb5, hv5, hu5⟩; have HB5 := hid hb5; have HV5 := hid hv5; have HU5 := hid hu5)
              obtain ⟨av5, cv5, rfl⟩ := own_slice HV5.out
              obtain ⟨au5, cu5, rfl⟩ := own_slice HU5.out
              clear HRc hjn2 hbI
              go_upto_region 31 with fail
              go_wp2
              go_loopw [137] (fun i wr => ∃ j : Nat, j ≤ n ∧ i = .int .i64 (j : Int) ∧ Hid (Below w5.heap.size w5 wr)) (fun i _ => n - (intOf i).toNat)
              case atStart => exact ⟨0, Nat.zero_le _, rfl, hid (Below.refl _ _)⟩
              case round =>
                obtain ⟨j, hj, rfl, HBr⟩ := hrel
                rename World => wr
                by_cases hjn : j < n
                · obtain ⟨y, hy⟩ := some_of_lt (l := ws) (k := j) (by rw [hws]; exact hjn)
                  obtain ⟨hvw, hvb⟩ := law_vals (k := kk) (d := delW xk ii) hy
                  have hB54 := bel_step HBj.out (bel_step HB5.out HBr.out)
                  obtain ⟨b1, o1, rfl, c1⟩ := (Sl.of_owns (own_below HO4.out hB54)).cell (sstr_get hy)
                  obtain ⟨b2, o2, rfl, c2⟩ := (Sl.of_owns (own_below HV5.out HBr.out)).cell hvw
                  obtain ⟨b3, o3, rfl, c3⟩ := (Sl.of_owns (own_below HU5.out HBr.out)).cell hvb
                  have hjI : (j : Int) < (n : Int) := by omega
                  clear hB54 hvw hvb hy
                  by_cases hjk : j = kk
                  · subst hjk
                    simp only [ne_eq, not_true_eq_false, decide_false] at c3
                    clear c2
                    go_wp2
                    go_roundw
                    case rel => exact ⟨j + 1, hjn, by go_num, HBr⟩
                    case measure => simp [intOf]; omega
                  · rw [if_neg hjk] at c2
                    rw [decide_eq_true (show j ≠ kk from hjk)] at c3
                    have hjk2 : ((j : Int) != (kk : Int)) = true := by simp only [bne_iff_ne, ne_eq]; omega
                    go_wp2
                    go_roundw
                    case rel => exact ⟨j + 1, hjn, by go_num, HBr⟩
                    case measure => simp [intOf]; omega
                · obtain rfl : n = j := by omega
                  have HBw := hid (bel_step HB4.out (bel_step HBj.out (bel_step HB5.out HBr.out)))
                  go_wp2_with (go_at_call 4; refine (HAw.out _).mono ?_; rintro e w8 ⟨rfl, hb8⟩; have HB8 := hid (bel_step HBw.out hb8))
                  go_ret
                  exact ⟨rfl, HB8.out⟩
        · have HB3 := hid (HB.out.trans (hb3.mono HB.out.size))
          go_wp2_with (go_at_call 4; refine (HAw.out _).mono ?_; rintro e w4 ⟨rfl, hb4⟩; have HB4 := hid (HB3.out.trans (hb4.mono HB3.out.size)))
          go_ret
          exact ⟨rfl, HB4.out⟩
end Go.Proofs.YtobbinppkjmhhaaDoor
