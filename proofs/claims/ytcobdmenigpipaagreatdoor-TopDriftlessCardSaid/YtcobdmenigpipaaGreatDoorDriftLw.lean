/-
  groovetop.TopDriftless: a mark to which a word with at most three letters 1 is added has no drift, and the word is extracted from it.
  No condition beyond the bytes lying in a slice.
-/
import Derived.Test.YtcobdmenigpipaaGreatDoorWatSrt
import Derived.Test.YtcobdmenigpipaaGreatDoorWatUni
import Derived.Test.YtcobdmenigpipaaGreatDoorShelfN
import Derived.Test.YtcobdmenigpipaaGreatDoorTop53Aw
namespace Go.Proofs.YtcobdmenigpipaaGreatDoor
open Go.RowKit Go.Deep
set_option linter.unusedVariables false
set_option linter.unusedSimpArgs false

def hasZ (l : List Int) (x : Int) : Bool := l.contains x
theorem has_any (base : Nat) (v : Value) (l : List Int) (x : Int) (w : World) (ho : w.ownsRow base 3 1 v l.length (ints l)) (hl : l.length ≤ 1000) :
    Calls Tryz.prog 5 #[v, .int .i64 x] w fun e w' => e = .returned (.bool (hasZ l x)) ∧ w' = w := by
  obtain ⟨ao, cap, rfl, h2, h3, h4, h5⟩ := Sl.of_owns ho
  by_cases hn : l.length = 0
  · rw [hn]
    have : l = [] := List.length_eq_zero_iff.1 hn
    subst this
    refine (Tryz.slices_Contains_int_empty ao cap x w).mono ?_
    rintro e w' ⟨rfl, rfl⟩
    exact ⟨rfl, rfl⟩
  · rcases h5 with h5 | ⟨b, o, rfl, hc⟩
    · omega
    · refine (Tryz.slices_Contains_int b o l.length cap l x w (Nat.le_refl _) (by omega) (fun j hj => hc j (.int .i64 (l.getD j 0)) (by simp [ints, hj]))).mono ?_
      rintro e w' ⟨rfl, rfl⟩
      exact ⟨by rw [List.take_length]; rfl, rfl⟩
theorem nz_any (k : Int) (w : World) : Calls Tryz.prog 14 #[.int .i64 k] w fun e w' => e = .returned (.bool (k != 0)) ∧ w = w' := by
  go_enter Tryz.func14, Tryz.ntmps14
  go_wp2
  go_ret
  exact ⟨rfl, rfl⟩
theorem zeros_any (base n : Nat) (v : Value) (w : World) (ho : w.ownsRow base 3 1 v n (ints (List.replicate n 0))) (hn : n ≤ 1000) :
    Calls Tryz.prog 13 #[v, .func (.func 14) #[] #[]] w fun e w' => e = .returned (.bool false) ∧ Below w.heap.size w w' := by
  have hl : (List.replicate n (0 : Int)).length = n := by simp
  rw [← hl] at ho
  obtain ⟨ao, cap, rfl, h2, h3, h4, h5⟩ := Sl.of_owns ho
  rw [hl] at *
  by_cases hn0 : n = 0
  · subst hn0
    refine (Tryz.slices_ContainsFunc_empty (α := Nat) ao cap _ w).mono ?_
    rintro e w' ⟨rfl, rfl⟩
    exact ⟨rfl, Below.refl _ _⟩
  · rcases h5 with h5 | ⟨b, o, rfl, hc⟩
    · omega
    · have eg : ∀ args w, (callFunc 14 args).run Tryz.prog w = .ok (.enter 14 args) w := enters_of Tryz.func14 (by kernel_rfl) rfl
      have hp : PredAt Tryz.prog 14 #[] (fun x : Int => Value.int .i64 x) (fun x => x != 0) w := by
        intro W x hB
        refine (nz_any x W).mono ?_
        rintro e w' ⟨rfl, rfl⟩; exact ⟨rfl, 0, rfl⟩
      refine (Tryz.slices_ContainsFunc _ _ 14 #[] eg b o n cap (List.replicate n 0) w hp (by simp) (by omega) fun j hj => ?_).mono ?_
      · have hj' : j < n := by simpa using hj
        rw [hc j (.int .i64 0) (by rw [ints, List.getElem?_map, List.getElem?_replicate, if_pos hj']; rfl), List.getElem!_eq_getElem?_getD]
        simp [hj']
      · rintro e w' ⟨rfl, k, rfl⟩
        refine ⟨ret_bool ?_, below_drewN (Below.refl _ _) k⟩
        simp
theorem infoIntD : (Tryz.prog.info? 3).map (fun i => (i.zero, i.size, i.bytes)) = some (some (.int .i64 0), 1, 8) := by kernel_rfl
set_option maxRecDepth 100000 in
set_option maxHeartbeats 8000000 in
theorem topDriftless_any (A S : Int) (u : Value) (L : List Int) (w : World) (hA0 : IntKind.u8.min ≤ A) (hA1 : A ≤ IntKind.u8.max) (hS0 : IntKind.u8.min ≤ S) (hS1 : S ≤ IntKind.u8.max) (hl : Sl 1 w u L.length (L.map (.int .u8))) (hby : ∀ x ∈ L, IntKind.u8.min ≤ x ∧ x ≤ IntKind.u8.max) :
    Calls Tryz.prog 3 #[.int .u8 A, .int .u8 S, u] w fun e w' => e = .returned (.bool true) ∧ Below w.heap.size w w' := by
  have hA0 : 0 ≤ A := hA0
  have hA1 : A ≤ 255 := hA1
  have hS0 : 0 ≤ S := hS0
  have hS1 : S ≤ 255 := hS1
  have HBy := hid (show ∀ x ∈ L, 0 ≤ x ∧ x ≤ 255 from hby)
  obtain ⟨A, rfl⟩ : ∃ A' : Nat, A = A' := ⟨A.toNat, by omega⟩
  obtain ⟨S, rfl⟩ : ∃ S' : Nat, S = S' := ⟨S.toNat, by omega⟩
  have HL := hid hl
  have HAw := hid awake_any
  obtain ⟨al, cl, rfl, hl1, hl2, hl3, _⟩ := hl
  clear hby hl1 hA0 hS0
  generalize hN : L.length = N at *
  have HN := hid hN
  clear hN
  obtain ⟨n, hn⟩ : ∃ n, A % 25 = n := ⟨_, rfl⟩
  have hn25 : n < 25 := by omega
  have hnI : (A : Int) % 25 = (n : Int) := by omega
  clear hn
  have HMk := hid (fun X => mark_any n S X (by omega) (by omega))
  go_enter Tryz.func3, Tryz.ntmps3
  go_upto_region 2 with fail
  rw [hnI]
  clear hnI hA1
  go_upto_region 3 with (go_at_call 4; refine (HMk.out _).mono ?_; rintro e w1 ⟨M, rfl, hMl, hMb, hb1⟩)
  have HMb := hid hMb
  have HB1 := hid hb1
  have hMs : (⟨M.toArray⟩ : ByteArray).size = n := by show M.toArray.size = n; simp [hMl]
  have HMs := hid hMs
  have hMsI : (((⟨M.toArray⟩ : ByteArray).size : Int) != (n : Int)) = false := by rw [hMs]; simp
  have HMl := hid hMl
  clear hMl hMb hb1 hMs HMk
  generalize hMA : (⟨M.toArray⟩ : ByteArray) = MA at *
  have HMA := hid hMA
  clear hMA
  go_wp2_with fail
  have HS1 := hid (show w.heap.size ≤ w1.heap.size from HB1.out.size)
  obtain ⟨MX, hMX⟩ : ∃ MX : Nat, max n 1 = MX := ⟨_, rfl⟩
  have hMX1 : 1 ≤ MX := by omega
  have hMXn : 0 < n → MX = n := by omega
  have hmax : ∀ ats ty, Builtin.max_ ats ty #[.int .i64 (n : Int), .int .i64 1] = pure (.int .i64 (MX : Int)) := fun ats ty => by
    have h : maxZ (n : Int) 1 = (MX : Int) := by unfold maxZ; split <;> omega
    rw [← h]; rfl
  have hMX0 : ¬ (MX : Int) = 0 := by omega
  clear hMX
  go_loopw [10, 43] (fun v i wr => ∃ (j : Nat) (l : List Int), j ≤ N ∧ i = .int .i64 (j : Int) ∧ l.length ≤ 3 ∧ Hid (wr.ownsRow w1.heap.size 3 1 v l.length (ints l)) ∧ Hid (l.Nodup) ∧ Hid (∀ x ∈ l, 0 ≤ x ∧ x < n) ∧ Hid (Below w1.heap.size w1 wr)) (fun _ i _ => N - (intOf i).toNat)
  case atStart => exact ⟨0, [], Nat.zero_le _, rfl, by decide, hid (World.ownsRow_nil _ _ _ _), hid List.nodup_nil, hid (by simp), hid (Below.refl _ _)⟩
  case round =>
    obtain ⟨j, l, hj, rfl, hl3, HO, HNd, HR, HB⟩ := hrel
    rename World => wk
    have HBw := hid (HB1.out.trans (HB.out.mono HS1.out))
    by_cases hlt : j < N
    · obtain ⟨x, hx⟩ := some_of_lt (show j < L.length by rw [HN.out]; exact hlt)
      obtain ⟨hx0, hx1⟩ := HBy.out x (List.mem_of_getElem? hx)
      obtain ⟨X, rfl⟩ : ∃ X : Nat, x = X := ⟨x.toNat, by omega⟩
      obtain ⟨b, o, rfl, ck⟩ := (HL.out.below HBw.out).cell (show (L.map (Value.int .u8))[j]? = some (.int .u8 (X : Int)) by simp [hx])
      have hwx : IntKind.i64.wrap (X : Int) = (X : Int) := IntWalk.i64_in _ (by omega)
      have htm : (X : Int).tmod (MX : Int) = ((X % MX : Nat) : Int) := rfl
      have hem : (X : Int) % (MX : Int) = ((X % MX : Nat) : Int) := rfl
      have hR1 : X % MX < MX := Nat.mod_lt _ (by omega)
      have hk1 : j + 1 ≤ N := hlt
      have hms : N - (j + 1) < N - j := by omega
      have hbs := HB.out.size
      have hjI : (j : Int) < (N : Int) := by omega
      clear hx hx0 hx1
      generalize X % MX = R at *
      by_cases hn0 : 0 < n
      · have hn0I : (0 : Int) < (n : Int) := by omega
        have hRn := hMXn hn0
        clear hMXn
        subst hRn
        have HHs := hid (has_any _ _ _ (R : Int) wk HO.out (by omega))
        cases hh : hasZ l (R : Int)
        · rw [hh] at HHs
          have HNd2 := hid (show (l ++ [(R : Int)]).Nodup by
            rw [List.nodup_append]
            refine ⟨HNd.out, by simp, ?_⟩
            intro a ha c hc
            rw [List.mem_singleton] at hc
            subst hc
            rintro rfl
            unfold hasZ at hh
            simp at hh
            exact hh ha)
          have HR2 := hid (show ∀ y ∈ l ++ [(R : Int)], 0 ≤ y ∧ y < (MX : Int) from fun y hy => by
            rcases List.mem_append.1 hy with h | h
            · exact HR.out y h
            · rw [List.mem_singleton] at h; subst h; omega)
          obtain ⟨av, cv, rfl⟩ := own_slice HO.out
          clear hh
          by_cases h3 : l.length < 3
          · have h3I : (l.length : Int) < 3 := by omega
            have hl4 : (l ++ [(R : Int)]).length ≤ 3 := by rw [List.length_append]; simp; omega
            go_wp2_with (first
              | (go_at_call 5; refine HHs.out.mono ?_; rintro e w5 ⟨rfl, rfl⟩)
              | (at_builtin; refine wpList_push _ rfl _ _ 26 rfl w1.heap.size 3 (.int .i64 0) 1 8 Tryz.underlying26 infoIntD rfl (by decide) (.slice av l.length cv) l.length (ints l) rfl HO.out #[.int .i64 (R : Int)] rfl (oneCell_int _ _) rfl (by unfold maxLen; omega) (by omega) hbs ?_; intro g gc w6 hown hg hb6; have HO6 := hid hown; have HB6 := hid (HB.out.trans hb6); clear hown hg hb6))
            go_roundw
            case rel => exact ⟨j + 1, l ++ [(R : Int)], hk1, rfl, hl4, hid (by rw [List.length_append]; simpa [ints] using HO6.out), HNd2, HR2, HB6⟩
            case measure => exact hms
          · have h3I : ¬ (l.length : Int) < 3 := by omega
            go_wp2_with (go_at_call 5; refine HHs.out.mono ?_; rintro e w5 ⟨rfl, rfl⟩)
            go_roundw
            case rel => exact ⟨j + 1, l, hk1, rfl, hl3, HO, HNd, HR, HB⟩
            case measure => exact hms
        · rw [hh] at HHs
          clear hh
          go_wp2_with (go_at_call 5; refine HHs.out.mono ?_; rintro e w5 ⟨rfl, rfl⟩)
          go_roundw
          case rel => exact ⟨j + 1, l, hk1, rfl, hl3, HO, HNd, HR, HB⟩
          case measure => exact hms
      · have hn0I : ¬ (0 : Int) < (n : Int) := by omega
        go_wp2
        go_roundw
        case rel => exact ⟨j + 1, l, hk1, rfl, hl3, HO, HNd, HR, HB⟩
        case measure => exact hms
    · have hjI : ¬ (j : Int) < (N : Int) := by omega
      have HSr := hid (sort_any _ _ _ wk HO.out (by omega))
      have HLs := hid (srt_len l)
      have HAs := hid (srt_asc HNd.out)
      have HRs := hid (show ∀ x ∈ srt l, 0 ≤ x ∧ x < n from fun x hx => HR.out x ((srt_perm l).mem_iff.1 hx))
      have HNs := hid ((srt_perm l).nodup_iff.2 HNd.out)
      have HLw := hid (show w1.heap.size ≤ wk.heap.size from HB.out.size)
      have HVb := hid (show ∀ g, _ = some g → w1.heap.size ≤ g from fun g hg => (own_block HO.out hg).1)
      clear HNd HR hmax hMX0 hMX1 hMXn
      generalize srt l = ls at *
      go_upto_region 14 with (go_at_call 6; refine HSr.out.mono ?_; rintro e w2 ⟨rfl, ho2, hg2⟩; have HO2 := hid ho2; have HB2 := hid (HBw.out.grown hg2 (Nat.le_trans HS1.out HLw.out) (fun k hk => Nat.le_trans HS1.out (HVb.out k hk))); clear ho2 hg2)
      have hlen3 : ls.length ≤ 3 := by rw [HLs.out]; exact hl3
      have HSl := hid (show Sl 1 w2 _ ls.length (ints ls) by have h := Sl.of_owns HO2.out; rw [← HLs.out] at h; exact h)
      have HSp := hid (sparse_any n ls _ w2 (by omega) HSl.out HRs.out HAs.out (by omega))
      have hWb := spW_bin n ls
      have hWl : (spW n ls).length = n := by simp [spW]
      have hWc : (spW n ls).count 49 = l.length := by
        have h := count_sp n ls HRs.out HNs.out ls.length (Nat.le_refl _)
        rw [List.take_length] at h
        rw [h, HLs.out]
      have hMd : MA.data.toList = M := by rw [← HMA.out]
      have hMsz : MA.size = n := HMs.out
      obtain ⟨hdd, hdc⟩ := dif_dif M (spW n ls) (by rw [HMl.out, hWl]) HMb.out hWb
      have hRb := difW_bin M (spW n ls)
      have hRl : (difW M (spW n ls)).length = n := by rw [difW_len (by rw [HMl.out, hWl]), HMl.out]
      obtain ⟨WB, hWB⟩ : ∃ WB : ByteArray, (⟨(spW n ls).toArray⟩ : ByteArray) = WB := ⟨_, rfl⟩
      obtain ⟨RB, hRB⟩ : ∃ RB : ByteArray, (⟨(difW M (spW n ls)).toArray⟩ : ByteArray) = RB := ⟨_, rfl⟩
      have hWd : WB.data.toList = spW n ls := by rw [← hWB]
      have hRd : RB.data.toList = difW M (spW n ls) := by rw [← hRB]
      have hWz : WB.size = n := by rw [← hWB]; show (spW n ls).toArray.size = n; simp [hWl]
      have hRz : RB.size = n := by rw [← hRB]; show (difW M (spW n ls)).toArray.size = n; simp [hRl]
      have eM := bin_ok (s := MA) (fun x hx => HMb.out x (by rw [← hMd]; exact hx)) (by omega)
      have eW := bin_ok (s := WB) (fun x hx => hWb x (by rw [← hWd]; exact hx)) (by omega)
      have eR := bin_ok (s := RB) (fun x hx => hRb x (by rw [← hRd]; exact hx)) (by omega)
      have hDO : DistOk MA RB := ⟨by omega, by omega, by rw [hMd, hRd, hdc, hWc]; exact hl3⟩
      have HAd := hid (fun X => wadd_any MA WB X (by omega) (by omega) eM eW (fun x hx => HMb.out x (by rw [← hMd]; exact hx)) (fun x hx => hWb x (by rw [← hWd]; exact hx)))
      have HEx := hid (fun X => extract_any MA RB X hDO eM eR)
      have HDr := hid (fun X => drift_any MA RB X hDO eM eR)
      have HUn := hid (fun X => unique_any MA RB X hDO eM eR)
      have HCt := hid (fun X => Tryz.strings_Count_one WB 49 X)
      unfold Lib.countByte at HCt
      rw [hMd, hWd, hRB] at HAd
      rw [hMd, hRd, hdd, hWB] at HEx
      rw [hWd, hWc] at HCt
      rw [hWB] at HSp
      rw [hMsz] at HDr
      clear hWb hWl hWc hMd hdd hdc hRb hRl hWB hRB hWd hRd hWz hRz eM eW eR hDO hMsz
      have HZr := hid (fun base v X h => zeros_any base n v X h (by omega))
      have hmax5 : ∀ ats ty, Builtin.max_ ats ty #[.int .i64 0, .int .i64 0, .int .i64 0, .int .i64 0, .int .i64 0] = pure (.int .i64 0) := fun _ _ => rfl
      have hll : l.length ≤ 3 := hl3
      obtain ⟨av, cv, rfl⟩ := own_slice HO2.out
      have hBw2 := HB2.out.size
      have HWq := hid (show w.heap.size ≤ w2.heap.size from hBw2)
      clear hBw2 HBw HB HSr HVb
      go_upto_region 15 with (go_at_call 7; refine HSp.out.mono ?_; rintro e w3 ⟨rfl, hb3⟩; have HB3 := hid (bel_step HB2.out hb3); clear hb3)
      go_upto_region 16 with (go_at_call 8; refine (HAd.out _).mono ?_; rintro e w4 ⟨rfl, hb4⟩; have HB4 := hid (bel_step HB3.out hb4); clear hb4)
      go_upto_region 17 with (go_at_call 9; refine (HEx.out _).mono ?_; rintro e w5 ⟨rfl, hb5⟩; have HB5 := hid (bel_step HB4.out hb5); clear hb5)
      go_upto_region 18 with (go_at_call 10; refine (HDr.out _).mono ?_; rintro e w6 ⟨vd, rfl, ho6, hb6⟩; have HB6 := hid (bel_step HB5.out hb6); have HO6 := hid ho6; clear hb6 ho6)
      obtain ⟨ad, cd, rfl⟩ := own_slice HO6.out
      go_upto_region 19 with (go_at_call 11; refine (HUn.out _).mono ?_; rintro e w7 ⟨rfl, hb7⟩; have HB7 := hid (bel_step HB6.out hb7); have HO7 := hid (own_below HO6.out hb7); clear hb7)
      go_upto_region 21 with (go_at_call 12; refine (HCt.out _).mono ?_; rintro e w8 ⟨rfl, rfl⟩)
      go_wp2_with (first
        | (go_at_call 13; refine (HZr.out _ _ _ HO7.out).mono ?_; rintro e w9 ⟨rfl, hb9⟩; have HB9 := hid (bel_step HB7.out hb9); clear hb9)
        | (go_at_call 15; refine (HAw.out _).mono ?_; rintro e wz ⟨rfl, hbz⟩))
      go_ret
      exact ⟨rfl, bel_step HB9.out hbz⟩
end Go.Proofs.YtcobdmenigpipaaGreatDoor
