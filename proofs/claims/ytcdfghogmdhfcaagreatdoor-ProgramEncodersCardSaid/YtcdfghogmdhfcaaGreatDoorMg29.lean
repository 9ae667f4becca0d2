/-
  program.Run: the outputs of a program, as a string, or why there are none.
  A row of bytes that the call owns and that may bear a conversion's mark behind its last cell: '[]byte(s)', appended to.
  Conditions: No condition beyond the instructions and the outputs lying in slices, and the string's length. No condition: these are general lemmas.
-/
import Derived.Test.YtcdfghogmdhfcaaGreatDoorPrRun
import Derived.Test.YtcdfghogmdhfcaaGreatDoorMg28
import Derived.Shelf.Strings.SlTrimAscii
import Derived.Lib.ConvBytes
import Derived.Test.YtcdfghogmdhfcaaGreatDoorMg0
import Derived.ArgAppend
import Derived.Deep.Onto
namespace Go.Proofs.YtcdfghogmdhfcaaGreatDoor
open Go.RowKit
set_option linter.unusedVariables false

theorem dropWhile_nil {p : UInt8 → Bool} (l : List UInt8) : l.dropWhile p = [] ↔ l.all p = true := by
  induction l with
  | nil => simp
  | cons a t ih =>
    rw [List.dropWhile_cons]
    cases h : p a with
    | true => simp [ih, h]
    | false => simp [h]
theorem trimS_nil (l cs : List UInt8) : Lib.trimS l cs = [] ↔ l.all (cs.contains ·) = true := by
  unfold Lib.trimS Lib.trimLeftS Lib.trimRightS
  rw [dropWhile_nil]
  constructor
  · intro h
    rw [List.all_eq_true] at h
    by_cases hn : l.reverse.dropWhile (cs.contains ·) = []
    · rw [dropWhile_nil, List.all_reverse] at hn
      exact hn
    · exfalso
      have h1 := List.head_dropWhile_not (cs.contains ·) hn
      have := h _ (List.mem_reverse.2 (List.head_mem hn))
      rw [h1] at this
      cases this
  · intro h
    have : l.reverse.dropWhile (cs.contains ·) = [] := by rw [dropWhile_nil, List.all_reverse]; exact h
    rw [this]; rfl
theorem okBits_eq (s : ByteArray) : okBits s = s.data.toList.all (([48, 49] : List UInt8).contains ·) := by
  unfold okBits
  congr 1
  funext c
  rw [Bool.eq_iff_iff]
  simp
theorem trim01_any (s : ByteArray) (w : World) (hs : s.size ≤ 9223372036854775807) :
    Calls Tryz.prog 43 #[.string s, .string ⟨#[48, 49]⟩] w fun e w' => ∃ t : ByteArray, e = .returned (.string t) ∧ t.toList.isEmpty = okBits s ∧ (okBits s = true → t = ⟨#[]⟩) ∧ Below w.heap.size w w' := by
  refine (Any.strings_Trim_ascii Tryz.lays160 (by intro w; kernel_rfl) (by kernel_rfl) s ⟨#[48, 49]⟩ w hs (by decide) ?_).mono ?_
  · intro j b hj
    have : b ∈ ([48, 49] : List UInt8) := List.mem_of_getElem? hj
    simp at this
    rcases this with rfl | rfl <;> decide
  · rintro e w' ⟨rfl, hb⟩
    refine ⟨_, rfl, ?_, fun h => ?_, hb⟩
    · rw [Lib.toList_data, Bool.eq_iff_iff, List.isEmpty_iff, okBits_eq]
      show (Lib.trimS s.data.toList [48, 49]).toArray.toList = [] ↔ _
      rw [List.toList_toArray]
      exact trimS_nil _ _
    · rw [okBits_eq] at h
      have := (trimS_nil s.data.toList [48, 49]).2 h
      show (⟨(Lib.trimS s.data.toList [48, 49]).toArray⟩ : ByteArray) = _
      rw [this]
/-- A byte as a number. -/
theorem bit_of_char {c : UInt8} (h : c = 48 ∨ c = 49) : (c.toNat : Int) - 48 = bitN (c == 49) := by
  rcases h with rfl | rfl <;> rfl
theorem okBits_at {s : ByteArray} (h : okBits s = true) {k : Nat} (hk : k < s.size) : s[k] = 48 ∨ s[k] = 49 := by
  unfold okBits at h
  rw [List.all_eq_true] at h
  have := h s[k] (by show s.data[k] ∈ _; simp)
  simpa using this
theorem bitsB_take {s : ByteArray} {k : Nat} (hk : k < s.size) : (bitsB s).take (k + 1) = (bitsB s).take k ++ [s[k] == 49] := by
  have h : (bitsB s)[k]? = some (s[k] == 49) := by
    unfold bitsB
    rw [List.getElem?_map, Array.getElem?_toList, Array.getElem?_eq_getElem (by exact hk)]
    rfl
  exact take_snoc h
/-- '[]byte(s)'. -/
theorem bytes_made {w wb : World} {s : ByteArray} (h : Lib.bytesWorld w 5 s = wb) : Below w.heap.size w wb ∧ ∀ j, j < s.size → wb.cell? ⟨w.heap.size, j, none⟩ = some (.int .u8 (s.data.toList.getD j 0).toNat) := by
  subst h
  refine ⟨⟨rfl, rfl, rfl, by rw [Lib.bytesWorld_size]; omega, fun k hk => Lib.bytesWorld_at_old w _ s k hk⟩, fun j hj => Lib.bytesWorld_cell w _ s j hj⟩
def outC (l : List Bool) : List UInt8 := l.map bitC
theorem outC_snoc (l : List Bool) (b : Bool) : outC (l ++ [b]) = outC l ++ [bitC b] := by simp [outC]
theorem bitC_int (b : Bool) : ((bitC b).toNat : Int) = 48 + bitN b := by cases b <;> rfl
theorem byteCells_snoc53 (l : List UInt8) (c : UInt8) : Lib.byteCells (l ++ [c]) = Lib.byteCells l ++ [.int .u8 (c.toNat : Int)] := by simp [Lib.byteCells]
theorem own_bit2 {w : World} {base n j : Nat} {v : Value} {l : List Bool} (h : w.ownsRow base 5 1 v n (u8s l)) (hj : j < l.length) :
    ∃ g cap, v = .slice (some ⟨g, 0, none⟩) n cap ∧ base ≤ g ∧ g < w.heap.size ∧ w.cell? ⟨g, j, none⟩ = some (.int .u8 (bitN (l.getD j false))) := by
  obtain ⟨ao, cap, rfl⟩ := own_slice h
  obtain ⟨g, rfl, hc⟩ := own_bit h hj
  obtain ⟨h1, h2⟩ := h.lt g rfl
  exact ⟨g, cap, rfl, h1, h2, hc⟩
theorem ret_run {n : Int} {c : List Ins} {o : List Int} {s : ByteArray} {x : Int} (h : runErr n c o s = x) (hx : x ≠ 0) : Ending.returned (.tuple #[.string ⟨#[]⟩, .int .i64 x]) = .returned (.tuple #[.string (runStr n c o s), .int .i64 (runErr n c o s)]) := by
  rw [runStr, h, if_neg hx]
theorem ret_run0 {n : Int} {c : List Ins} {o : List Int} {s t : ByteArray} (h : runErr n c o s = 0) (ht : t = bitS (poutsV (bitsB s) c o)) : Ending.returned (.tuple #[.string t, .int .i64 0]) = .returned (.tuple #[.string (runStr n c o s), .int .i64 (runErr n c o s)]) := by
  rw [runStr, h, if_pos rfl, ht]
set_option maxRecDepth 100000 in
set_option maxHeartbeats 4000000 in
theorem prunTop_any (n : Int) (vc vo : Value) (c : List Ins) (o : List Int) (s : ByteArray) (w : World) (hc : Sl 3 w vc c.length (icells c)) (ho : Sl 1 w vo o.length (ints o)) (hs : s.size ≤ 9223372036854775807) :
    Calls Tryz.prog 17 #[.agg #[.int .i64 n, vc, vo], .string s] w fun e w' => e = .returned (.tuple #[.string (runStr n c o s), .int .i64 (runErr n c o s)]) ∧ Below w.heap.size w w' := by
  have HC := hid hc
  have HO := hid ho
  have HCk := hid (fun X h1 h2 => pcheck_any n vc vo c o X h1 h2)
  have HTr := hid (fun X => trim01_any s X hs)
  obtain ⟨ac, cc, rfl, _, hc1, hc2, hc3⟩ := hc
  obtain ⟨ao, co, rfl, _, ho1, ho2, ho3⟩ := ho
  clear hc3 ho3
  have HR := hid (show runErr n c o s = if progErr n c o ≠ 0 then 1 else if (s.size : Int) ≠ n then 11 else if okBits s = false then 13 else 0 from rfl)
  have HS := hid (show runStr n c o s = if runErr n c o s = 0 then bitS (poutsV (bitsB s) c o) else ⟨#[]⟩ from rfl)
  generalize hE : progErr n c o = E at *
  have HE := hid hE
  clear hE
  go_enter Tryz.func17, Tryz.ntmps17
  go_upto_region 1 with fail
  obtain ⟨w0, hw0⟩ : ∃ w0, w.alloc (.cells #[.int .i64 n, .slice ac c.length cc, .slice ao o.length co] 28) = w0 := ⟨_, rfl⟩
  obtain ⟨hb0, c0, c1, c2⟩ := boxP hw0
  rw [hw0]
  have HB0 := hid hb0
  clear hw0 hb0
  by_cases hE0 : E = 0
  · by_cases hn : (s.size : Int) = n
    · cases hO : okBits s with
      | false =>
        have HF := hid (show runErr n c o s = 13 by rw [HR.out, if_neg (by simp [hE0]), if_neg (by simp [hn]), if_pos hO])
        have HO2 := hid hO
        subst hE0 hn
        clear hO
        go_wp2_with (first
          | (go_at_call 39; refine (HCk.out _ (HC.out.below HB0.out) (HO.out.below HB0.out)).mono ?_; rintro e w1 ⟨rfl, hb1⟩; have c0 := keeps hb1 c0; have c1 := keeps hb1 c1; have c2 := keeps hb1 c2)
          | (go_at_call 43; refine (HTr.out _).mono ?_; rintro e w2 ⟨t, rfl, ht, _, hb2⟩; rw [HO2.out] at ht))
        go_ret2
        exact ⟨ret_run HF.out (by decide), bel_step (bel_step HB0.out hb1) hb2⟩
      | true =>
        have HF := hid (show runErr n c o s = 0 by rw [HR.out, if_neg (by simp [hE0]), if_neg (by simp [hn]), if_neg (by simp [hO])])
        have HO2 := hid hO
        have HN := hid hn
        have hE' := HE.out
        subst hE0
        have HRun := hid (fun vi X h1 h2 h3 => prun_any n (.slice ac c.length cc) (.slice ao o.length co) vi c o (bitsB s) X h1 h2 h3 (by rw [bitsB_len]; exact hn) hE')
        obtain ⟨hn0, hn24, _⟩ := progErr_zero.1 hE'
        clear hO hE'
        subst hn
        go_wp2_with (first
          | (go_at_call 39; refine (HCk.out _ (HC.out.below HB0.out) (HO.out.below HB0.out)).mono ?_; rintro e w1 ⟨rfl, hb1⟩; have c0 := keeps hb1 c0; have c1 := keeps hb1 c1; have c2 := keeps hb1 c2)
          | (go_at_call 43; refine (HTr.out _).mono ?_; rintro e w2 ⟨t, rfl, _, ht, hb2⟩; have ht := ht HO2.out; subst ht; have c0 := keeps hb2 c0; have c1 := keeps hb2 c1; have c2 := keeps hb2 c2))
        obtain ⟨wb, hwb⟩ : ∃ wb, Lib.bytesWorld w2 5 s = wb := ⟨_, rfl⟩
        have hcv := Lib.run_convert_string_bytes (P := Tryz.prog) w2 9 54 5 s Tryz.underlying9 Tryz.underlying54 Tryz.underlying5
        rw [hwb] at hcv
        obtain ⟨hbb, hcell⟩ := bytes_made hwb
        have HCell := hid hcell
        have HB1 := hid (bel_step (bel_step HB0.out hb1) hb2)
        have HBb := hid (bel_step HB1.out hbb)
        have c0 := keeps hbb c0
        have c1 := keeps hbb c1
        have c2 := keeps hbb c2
        generalize grownCap w2 s.size 0 5 = capb at *
        clear hwb hb1 hb2 hcell
        rw [hcv]
        simp only [Result.andThen]
        rw [Oper.upon_value]
        clear hcv
        go_wp2_with fail
        generalize w2.heap.size = gb at *
        go_loopw [6, 29] (fun vv i wr => ∃ j : Nat, j ≤ s.size ∧ i = .int .i64 j ∧ Below wb.heap.size wb wr ∧ wr.ownsRow wb.heap.size 5 1 vv j (u8s ((bitsB s).take j))) (fun _ i _ => s.size - (intOf i).toNat)
        case atStart => exact ⟨0, Nat.zero_le _, rfl, Below.refl _ _, World.ownsRow_nil _ _ _ _⟩
        case round =>
          obtain ⟨j, hj, rfl, hbj, howj⟩ := hrel
          have HBj := hid hbj
          have HOj := hid howj
          have HSj := hid hbj.size
          obtain ⟨aj, cj, rfl⟩ := own_slice howj
          have d0 := keeps hbj c0
          have d1 := keeps hbj c1
          have d2 := keeps hbj c2
          have C0 := hid (And.intro c0 (And.intro c1 c2))
          clear c0 c1 c2 howj
          rename World => wk
          by_cases hlt : j < s.size
          · have e1 := keeps hbj (HCell.out j hlt)
            have HT := hid (bitsB_take hlt)
            have hbc := okBits_at HO2.out hlt
            have hgd : s.data.toList.getD j 0 = s[j] := by
              rw [List.getD_eq_getElem?_getD, List.getElem?_eq_getElem (by simpa using hlt)]
              simp [ByteArray.getElem_eq_getElem_data]
            rw [hgd] at e1
            have HX := hid (bit_of_char hbc)
            have hc48 : (48 : Int) ≤ (s[j].toNat : Int) ∧ (s[j].toNat : Int) ≤ 49 := by rcases hbc with h | h <;> rw [h] <;> decide
            obtain ⟨h48, h49⟩ := hc48
            generalize s[j] = ch at *
            clear hgd hbc hbj
            generalize (ch.toNat : Int) = C at *
            go_wp2_with (at_builtin; refine wpList_push wk rfl _ _ 54 rfl wb.heap.size 5 (.int .u8 0) 1 1 Tryz.underlying54 Tryz.infoU8 rfl (by decide) (.slice aj j cj) j (u8s ((bitsB s).take j)) rfl HOj.out #[.int .u8 (C - 48)] rfl (oneCell_int _ _) rfl (by unfold maxLen; omega) (by omega) HSj.out ?_; intro gv capv w5 hown5 hg5 hb5)
            go_roundw
            case rel => exact ⟨j + 1, by omega, by go_num, HBj.out.trans hb5, by rw [HT.out, u8s_snoc, ← HX.out]; exact hown5⟩
            case measure => simp [intOf]; omega
          · have hje : j = s.size := by omega
            have HV := hid (show wk.ownsRow wb.heap.size 5 1 (.slice aj j cj) (bitsB s).length (u8s (bitsB s)) by
              have h1 := HOj.out
              rw [take_all (by rw [bitsB_len]; omega)] at h1
              rw [bitsB_len, ← hje]
              exact h1)
            have HBk := hid (HBb.out.trans (HBj.out.mono HBb.out.size))
            clear hbj hje C0
            go_upto_region 14 with fail
            obtain ⟨wq, hwq⟩ : ∃ wq, wk.alloc (.cells #[.pointer none, .slice none 0 0] 71) = wq := ⟨_, rfl⟩
            have hbq : Below wk.heap.size wk wq := by rw [← hwq]; exact bel_alloc _ _
            have hsq : wq.heap.size = wk.heap.size + 1 := by rw [← hwq]; simp
            rw [hwq]
            have d0 := keeps hbq d0
            have d1 := keeps hbq d1
            have d2 := keeps hbq d2
            have HQ := hid hwq
            have HSq := hid hsq
            have HBq := hid (bel_step HBk.out hbq)
            have HVq := hid (Sl.of_owns (own_below HV.out hbq))
            clear hwq hsq hbq
            go_upto_region 15 with (go_at_call 44; refine (HRun.out _ _ (HC.out.below HBq.out) (HO.out.below HBq.out) HVq.out).mono ?_; rintro e w6 ⟨v6, rfl, hown6, hb6⟩; obtain ⟨a6, c6, rfl⟩ := own_slice hown6)
            have hbld := Bld.start (w := wk) (w' := w6) (by rw [HQ.out, ← HSq.out]; exact hb6)
            have ho24 := (progErr_zero.1 HE.out).2.2.2.1
            have HB6 := hid (bel_step HBq.out hb6)
            have H6 := hid hown6
            have HP := hid (poutsV_len (bitsB s) c o)
            have HbS := hid HBk.out.size
            have hkS : wk.heap.size < w6.heap.size := by have := hb6.size; have := HSq.out; omega
            clear d0 d1 d2 hb6 hown6
            have HKS := hid hkS
            generalize hL : poutsV (bitsB s) c o = L at *
            have HL := hid hL
            clear hL
            go_wp2_with fail
            generalize wk.heap.size = b0 at *
            go_loopw [43] (fun i wr => ∃ q : Nat, q ≤ o.length ∧ i = .int .i64 q ∧ Bld wr b0 w6.heap.size (Lib.byteCells (outC (L.take q))) ∧ BelB w6.heap.size b0 w6 wr) (fun i _ => o.length - (intOf i).toNat)
            case atStart => exact ⟨0, Nat.zero_le _, rfl, hbld, BelB.refl _ _ _⟩
            case round =>
              obtain ⟨q, hq, rfl, hbq, hrq⟩ := hrel
              have HBq2 := hid hbq
              have HRq := hid hrq
              clear hbq hrq
              rename World => wt
              by_cases hlt : q < o.length
              · have hqL : q < L.length := by rw [HP.out]; exact hlt
                obtain ⟨g6, cap6, e6, hg1, hg2, hcell6⟩ := own_bit2 (j := q) H6.out hqL
                simp only [Value.slice.injEq] at e6
                obtain ⟨rfl, -, -⟩ := e6
                have e1 := HRq.out.cell hcell6 hg2 (by have := HSq.out; show g6 ≠ b0; omega)
                have HT := hid (show L.take (q + 1) = L.take q ++ [L.getD q false] by rw [List.take_succ_eq_append_getElem hqL, List.getD_eq_getElem?_getD, List.getElem?_eq_getElem hqL]; rfl)
                have HW := hid (fun x X h => writeByte_bld b0 w6.heap.size (Lib.byteCells (outC (L.take q))) x X h (by rw [Lib.byteCells_length, outC, List.length_map, List.length_take]; omega))
                have HX := hid (bitC_int (L.getD q false))
                have hx := bitN_range (L.getD q false)
                generalize L.getD q false = B at *
                generalize bitN B = X at *
                obtain ⟨hx0, hx1⟩ := hx
                clear hcell6 hg1 hg2 hqL
                go_wp2_with (go_at_call 41; refine (HW.out _ _ HBq2.out).mono ?_; rintro e w7 ⟨rfl, hB7, hr7⟩)
                go_roundw
                case rel => exact ⟨q + 1, by omega, by go_num, by rw [HT.out, outC_snoc, byteCells_snoc53, HX.out]; exact hB7, HRq.out.trans hr7⟩
                case measure => simp [intOf]; omega
              · have hqe : q = o.length := by omega
                have HB7 := hid (show Bld wt b0 w6.heap.size (Lib.byteCells (outC L)) by
                  have h1 := HBq2.out
                  rwa [take_all (by rw [HP.out]; omega)] at h1)
                clear hqe
                go_wp2_with (go_at_call 33; refine (string_bld b0 w6.heap.size (outC L) _ HB7.out).mono ?_; rintro e w8 ⟨rfl, hb8⟩)
                go_ret2
                refine ⟨ret_run0 HF.out (by rw [HL.out]; rfl), ?_⟩
                exact (HB6.out.trans (HRq.out.below HbS.out (by have := HKS.out; have := HbS.out; omega))).trans (hb8.mono HbS.out)
    · have HF := hid (show runErr n c o s = 11 by rw [HR.out, if_neg (by simp [hE0]), if_pos hn])
      have hn1 : ((s.size : Int) != n) = true := by simpa using hn
      subst hE0
      clear hn
      go_wp2_with (go_at_call 39; refine (HCk.out _ (HC.out.below HB0.out) (HO.out.below HB0.out)).mono ?_; rintro e w1 ⟨rfl, hb1⟩; have c0 := keeps hb1 c0; have c1 := keeps hb1 c1; have c2 := keeps hb1 c2)
      go_ret2
      exact ⟨ret_run HF.out (by decide), bel_step HB0.out hb1⟩
  · have hE1 : (E != 0) = true := by simpa using hE0
    have h1 := hid (show runErr n c o s = 1 by rw [HR.out, if_pos hE0])
    go_wp2_with (go_at_call 39; refine (HCk.out _ (HC.out.below HB0.out) (HO.out.below HB0.out)).mono ?_; rintro e w1 ⟨rfl, hb1⟩)
    go_ret2
    exact ⟨ret_run h1.out (by decide), bel_step HB0.out hb1⟩
end Go.Proofs.YtcdfghogmdhfcaaGreatDoor

namespace Go.Proofs.YtcdfghogmdhfcaaGreatDoor
open Go.RowKit
set_option linter.unusedVariables false

def RowM (w : World) (base : Nat) (v : Value) (n : Nat) (xs : List Value) : Prop :=
  xs.length = n ∧ ∃ g cap, v = .slice (some ⟨g, 0, none⟩) n cap ∧ base ≤ g ∧ g < w.heap.size ∧ n ≤ cap ∧ cap ≤ maxLen ∧ (∀ j u, xs[j]? = some u → w.cell? ⟨g, j, none⟩ = some u) ∧ (∀ j, j < cap → (w.cell? ⟨g, j, none⟩).isSome = true ∧ w.frozen? ⟨g, j, none⟩ = false)
theorem RowM.below {w w' : World} {base n : Nat} {v : Value} {xs : List Value} (h : RowM w base v n xs) (hb : Below w.heap.size w w') : RowM w' base v n xs := by
  obtain ⟨h1, g, cap, h2, h3, h4, h5, h6, h7, h8⟩ := h
  refine ⟨h1, g, cap, h2, h3, Nat.lt_of_lt_of_le h4 hb.size, h5, h6, fun j u hj => keeps hb (h7 j u hj), fun j hj => ?_⟩
  rw [hb.cell (p := ⟨g, j, none⟩) h4, hb.frozen (p := ⟨g, j, none⟩) h4]
  exact h8 j hj
theorem RowM.slice {w : World} {base n : Nat} {v : Value} {xs : List Value} (h : RowM w base v n xs) : ∃ g cap, v = .slice (some ⟨g, 0, none⟩) n cap ∧ n ≤ cap ∧ cap ≤ 9223372036854775807 ∧ base ≤ g ∧ g < w.heap.size ∧ ∀ j u, xs[j]? = some u → w.cell? ⟨g, j, none⟩ = some u := by
  obtain ⟨h1, g, cap, h2, h3, h4, h5, h6, h7, h8⟩ := h
  exact ⟨g, cap, h2, h5, by simpa [maxLen] using h6, h3, h4, h7⟩
theorem RowM.of_own {w : World} {base b n : Nat} {v : Value} {xs : List Value} (h : w.ownsRow b 5 1 v n xs) (hb : base ≤ b) (hn : 0 < n) : RowM w base v n xs := by
  rcases h.2 with ⟨_, h0⟩ | ⟨g, cap, cur, hv, hg, hh, hn', hc, hs, ht⟩
  · omega
  · refine ⟨by have := h.1; omega, g, cap, hv, by omega, (Array.getElem?_eq_some_iff.1 hh).1, hn', hc, fun j u hj => ?_, fun j hj => ?_⟩
    · subst hv
      have h2 := h.cellAt j (by have := lt_of_some hj; have := h.1; omega)
      rw [h2]; exact hj
    · rw [cell_of_row _ g j cur _ _ hh]
      exact ⟨by simp; omega, by simp [World.frozen?, hh]⟩
/-- '[]byte(s)' lays such a row. -/
theorem rowM_made {w wb : World} {s : ByteArray} (h : Lib.bytesWorld w 5 s = wb) (hs : s.size ≤ maxLen) : Below w.heap.size w wb ∧ RowM wb w.heap.size (.slice (some ⟨w.heap.size, 0, none⟩) s.size (grownCap w s.size 0 5)) s.size (s.data.toList.map fun b => Value.int .u8 b.toNat) := by
  subst h
  have hge := grownCap_ge w s.size 0 5
  refine ⟨⟨rfl, rfl, rfl, by rw [Lib.bytesWorld_size]; omega, fun k hk => Lib.bytesWorld_at_old w _ s k hk⟩, by simp, _, _, rfl, Nat.le_refl _, by rw [Lib.bytesWorld_size]; omega, hge, grownCap_le_maxLen _ _ _ _ hs, fun j u hj => ?_, fun j hj => ?_⟩
  · have hl := lt_of_some hj
    rw [List.length_map] at hl
    rw [Lib.bytesWorld_cell w _ s j (by simpa using hl)]
    rw [List.getElem?_map, List.getElem?_eq_getElem hl] at hj
    rw [List.getD_eq_getElem?_getD, List.getElem?_eq_getElem hl]
    exact hj
  · have hsz : (Lib.bytesCells w 5 s).size = grownCap w s.size 0 5 := by
      unfold Lib.bytesCells
      simp
      have : s.data.size = s.size := rfl
      omega
    rw [cell_of_row _ _ j _ _ _ (Lib.bytesWorld_at_new w 5 s)]
    refine ⟨by simp [hsz, hj], ?_⟩
    simp only [World.frozen?, Lib.bytesWorld_at_new]
    simp [hsz]
    omega
theorem wpList_pushM {P : Program} {ops : Array Oper} {rest : List Oper} {o : Oper} {a : Act} {Q : Exit → Act → World → Prop} (wr : World) (hgd : o.guard = none) (s x : Operand) (t : TypeId)
    (ho : o.op = .call { callee := .builtin .append, args := #[s, x], argTypes := #[t, t] })
    (base : Nat) (ht : P.underlying t = some (.slice 5)) (hinfo : (P.info? 5).map (fun i => (i.zero, i.size, i.bytes)) = some (some (.int .u8 0), 1, 1))
    (v : Value) (n : Nat) (xs : List Value) (hs : a.eval s = v) (hown : RowM wr base v n xs)
    (u : Value) (hu : u.oneCell' = true) (hx : a.eval x = .slice (some ⟨wr.heap.size, 0, none⟩) 1 1)
    (h63 : n + 1 ≤ 140737488355328)
    (h : ∀ v' w', RowM w' base v' (n + 1) (xs ++ [u]) → Below base wr w' → wpList P ops Q rest (a.put o.dst v') w') :
    wpList P ops Q (o :: rest) a (wr.alloc (.cells #[u] 5)) := by
  obtain ⟨i0, hi, hz0, hz1, hz2⟩ := info_parts hinfo
  have hA := bel_alloc wr (.cells #[u] 5)
  obtain ⟨h1, g, cap, h2, h3, h4, h5, h6, h7, h8⟩ := hown.below hA
  have hgw : g < wr.heap.size := by
    obtain ⟨_, g', cap', h2', _, h4', _⟩ := hown
    rw [h2] at h2'
    simp only [Value.slice.injEq, Option.some.injEq, Addr.mk.injEq] at h2'
    omega
  have hbase : base ≤ wr.heap.size := by omega
  refine wpList_append_arg (P := P) (wr.alloc (.cells #[u] 5)) hgd s x t ho 5 i0 (.int .u8 0) 1 1 ht hi hz0 hz1 hz2 rfl (by decide) g 0 n cap xs (hs.trans h2) (by omega) (fun j w hj => by rw [Nat.zero_add]; exact h7 j w hj) ⟨wr.heap.size, 0, none⟩ 1 1 [u] hx rfl (fun j w hj => ?_) (by simpa using hu) (fun hr j hj => ?_) (by unfold maxLen; omega) (by omega) (fun hr => ?_) (fun hr v' w' ho' hg' => ?_)
  · exact cells_new wr #[u] 5 j w hj
  · have hj0 : j = 0 := by simpa using hj
    subst hj0
    rw [Nat.zero_add, Nat.mul_one, Nat.add_zero]
    exact h8 n (by omega)
  · have hset : (wr.alloc (.cells #[u] 5)).setCells g (0 + n * 1) [u] = (wr.alloc (.cells #[u] 5)).setCell ⟨g, n, none⟩ u := by
      rw [Nat.zero_add, Nat.mul_one]; rfl
    rw [hset]
    have hn := (h8 n (by omega))
    refine h _ _ ⟨by simp [h1], g, cap, rfl, h3, by simp; omega, hr, h6, fun j w hj => ?_, fun j hj => ?_⟩ ?_
    · by_cases e : j = n
      · subst e
        rw [List.getElem?_append_right (by omega), h1] at hj
        simp at hj
        subst hj
        exact World.cell?_setCell_same' _ _ _ hn.1
      · rw [List.getElem?_append_left (by have := lt_of_some hj; simp at this; omega)] at hj
        rw [World.cell?_setCell_other _ _ _ _ (by simp)]
        exact h7 j w hj
    · rw [World.frozen?_setCell]
      refine ⟨?_, (h8 j hj).2⟩
      by_cases e : j = n
      · subst e
        rw [World.cell?_setCell_same' _ _ _ hn.1]; rfl
      · rw [World.cell?_setCell_other _ _ _ _ (by simp)]
        exact (h8 j hj).1
    · exact (hA.mono hbase).setCell (p := ⟨g, n, none⟩) h3 u
  · exact h v' w' (RowM.of_own ho' (by simp; omega) (by omega)) ((hA.mono hbase).grown hg' (by simp; omega) (fun k hk => by cases hk))
end Go.Proofs.YtcdfghogmdhfcaaGreatDoor
