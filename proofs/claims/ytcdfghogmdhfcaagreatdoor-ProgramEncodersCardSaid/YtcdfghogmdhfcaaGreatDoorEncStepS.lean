/-
  program.step: one step of a program that computes an encoder's cells.
  program.check and program.Step at an encoder and a program that fit.
  Conditions: The encoder is small, the program has its bits. The encoder is valid, the program is valid and has the encoder's bits.
-/
import Derived.Test.YtcdfghogmdhfcaaGreatDoorEncCel
import Derived.Test.YtcdfghogmdhfcaaGreatDoorEncChk
import Derived.Test.YtcdfghogmdhfcaaGreatDoorMg15
import Derived.Deep.RegionHeld3
namespace Go.Proofs.YtcdfghogmdhfcaaGreatDoor
open Go.RowKit Go.Deep
set_option linter.unusedVariables false

theorem box3 {w w0 : World} {T1 T2 T3 : TypeId} {a b c d e f g h i : Value} (hw : ((w.alloc (.cells #[a, b, c, d] T1)).alloc (.cells #[e, f, g] T2)).alloc (.cells #[h, i] T3) = w0) :
    Below w.heap.size w w0 ∧ w0.heap.size = w.heap.size + 3 ∧ w0.cell? ⟨w.heap.size, 0, none⟩ = some a ∧ w0.cell? ⟨w.heap.size, 1, none⟩ = some b ∧ w0.cell? ⟨w.heap.size, 2, none⟩ = some c ∧ w0.cell? ⟨w.heap.size, 3, none⟩ = some d ∧ w0.cell? ⟨w.heap.size + 1, 0, none⟩ = some e ∧ w0.cell? ⟨w.heap.size + 1, 1, none⟩ = some f ∧ w0.cell? ⟨w.heap.size + 1, 2, none⟩ = some g ∧ w0.rowIs (w.heap.size + 2) T3 2 (fun k => if k = 0 then h else i) := by
  subst hw
  have hb1 := bel_alloc w (.cells #[a, b, c, d] T1)
  have hb2 := bel_alloc (w.alloc (.cells #[a, b, c, d] T1)) (.cells #[e, f, g] T2)
  have hb3 := bel_alloc ((w.alloc (.cells #[a, b, c, d] T1)).alloc (.cells #[e, f, g] T2)) (.cells #[h, i] T3)
  refine ⟨bel_step (bel_step hb1 hb2) hb3, by simp, keeps hb3 (keeps hb2 (by simp)), keeps hb3 (keeps hb2 (by simp)), keeps hb3 (keeps hb2 (by simp)), keeps hb3 (keeps hb2 (by simp)), keeps hb3 (by simp), keeps hb3 (by simp), keeps hb3 (by simp), ?_⟩
  rw [show w.heap.size + 2 = ((w.alloc (.cells #[a, b, c, d] T1)).alloc (.cells #[e, f, g] T2)).heap.size by simp]
  refine World.rowIs_alloc _ _ _ _ ?_
  intro k hk
  have hk' : k < 2 := hk
  have : k = 0 ∨ k = 1 := by omega
  rcases this with rfl | rfl <;> rfl
theorem row2 {w X : World} {T : TypeId} {a b : Value} (h : w.alloc (.cells #[a, b] T) = X) : Below w.heap.size w X ∧ X.cell? ⟨w.heap.size, 0, none⟩ = some a ∧ X.cell? ⟨w.heap.size, 1, none⟩ = some b := by
  subst h
  exact ⟨bel_alloc _ _, by simp, by simp⟩
def cfun (st : Int) (s : ByteArray) : Nat → Value
  | 0 => .int .i64 st
  | _ => .string s
def lettB : ByteArray := ⟨#[48, 49, 50, 51, 52, 53, 54, 55, 56, 57, 97, 98, 99, 100, 101, 102]⟩
theorem lett_at (c : UInt8) (h : 0 ≤ digit c) : lettB.extract (dig c) (dig c + 1) = ⟨#[c]⟩ := by
  have h2 : (List.range 256).all (fun k => decide (digit (UInt8.ofNat k) < 0) || ((lettB.extract (dig (UInt8.ofNat k)) (dig (UInt8.ofNat k) + 1)).data.toList == [UInt8.ofNat k])) = true := by decide +kernel
  have h3 := List.all_eq_true.1 h2 c.toNat (List.mem_range.2 c.toNat_lt)
  rw [UInt8.ofNat_toNat] at h3
  simp only [Bool.or_eq_true, decide_eq_true_eq, beq_iff_eq] at h3
  rcases h3 with h3 | h3
  · omega
  · exact ba_ext h3
/-- The first letters of a word. -/
def prefB (x : ByteArray) (j : Nat) : ByteArray := ⟨(x.data.toList.take j).toArray⟩
theorem prefB_snoc {x : ByteArray} {j : Nat} {c : UInt8} (h : x.data.toList[j]? = some c) : prefB x j ++ ⟨#[c]⟩ = prefB x (j + 1) := by
  apply ba_ext
  have : (prefB x j ++ (⟨#[c]⟩ : ByteArray)).data.toList = (prefB x j).data.toList ++ [c] := by simp
  rw [this]
  show (x.data.toList.take j).toArray.toList ++ [c] = (x.data.toList.take (j + 1)).toArray.toList
  rw [List.toList_toArray, List.toList_toArray, take_snoc h]
theorem prefB_size (x : ByteArray) (j : Nat) : (prefB x j).size ≤ x.size := by
  show (x.data.toList.take j).toArray.size ≤ _
  rw [List.size_toArray, List.length_take, ba_len]; omega
theorem prefB_all (x : ByteArray) : prefB x x.size = x := by
  apply ba_ext
  show (x.data.toList.take x.size).toArray.toList = _
  rw [List.toList_toArray, List.take_of_length_le (by rw [ba_len]; exact Nat.le_refl _)]
theorem flat_part {W : Nat} (f : UInt8 → List Bool) (hf : ∀ c, (f c).length = W) : ∀ (l : List UInt8) (j : Nat) (c : UInt8), l[j]? = some c → ((l.flatMap f).drop (j * W)).take W = f c
  | a :: l, 0, c, h => by
    simp at h; subst h
    rw [Nat.zero_mul, List.drop_zero, List.flatMap_cons, List.take_append_of_le_length (by rw [hf]; exact Nat.le_refl _), List.take_of_length_le (by rw [hf]; exact Nat.le_refl _)]
  | a :: l, j + 1, c, h => by
    rw [List.flatMap_cons, Nat.succ_mul, Nat.add_comm, ← List.drop_drop, List.drop_append_of_le_length (by rw [hf]; exact Nat.le_refl _), show (f a).drop W = [] from List.drop_of_length_le (by rw [hf]; exact Nat.le_refl _), List.nil_append]
    exact flat_part f hf l j c (by simpa using h)
theorem cell_state {q n n' : Nat} {x : Cl} (h0 : 0 ≤ x.st) (h1 : x.st < n') (hn : n' ≤ 2 ^ wid n) : ((numB ((cellBits q n x).take (wid n)) : Nat) : Int) = x.st := by
  unfold cellBits
  rw [List.take_append_of_le_length (by rw [binL_len]; exact Nat.le_refl _), List.take_of_length_le (by rw [binL_len]; exact Nat.le_refl _), binL_num, Nat.mod_eq_of_lt (by omega)]
  omega
theorem cell_digit {q n j q' : Nat} {x : Cl} {c : UInt8} (hc : x.word.data.toList[j]? = some c) (hd : dig c < q') (hq : q' ≤ 2 ^ wid q) : numB (((cellBits q n x).drop (wid n + j * wid q)).take (wid q)) = dig c := by
  unfold cellBits
  rw [← List.drop_drop, List.drop_append_of_le_length (by rw [binL_len]; exact Nat.le_refl _), show (binL (wid n) x.st.toNat).drop (wid n) = [] from List.drop_of_length_le (by rw [binL_len]; exact Nat.le_refl _), List.nil_append, flat_part _ (fun c => binL_len _ _) _ j c hc, binL_num, Nat.mod_eq_of_lt (by omega)]
/-- Part of a row. -/
theorem sl_part {w : World} {g n k lo hi : Nat} {T : List Bool} {base : Nat} (h : w.ownsRow base 5 1 (.slice (some ⟨g, 0, none⟩) n k) n (u8s T)) (h1 : lo ≤ hi) (h2 : hi ≤ n) (hk2 : k ≤ 9223372036854775807) (a : Option Addr) (K : Nat) (hK1 : hi - lo ≤ K) (hK2 : K ≤ 9223372036854775807) (ha : lo < hi → a = some ⟨g, lo, none⟩) (hT : T.length = n) : Sl 1 w (.slice a (hi - lo) K) ((T.drop lo).take (hi - lo)).length (u8s ((T.drop lo).take (hi - lo))) := by
  have hl : ((T.drop lo).take (hi - lo)).length = hi - lo := by rw [List.length_take, List.length_drop, hT]; omega
  rw [hl]
  refine ⟨a, K, rfl, by rw [u8s_len, hl, Nat.mul_one], hK1, hK2, ?_⟩
  by_cases e : lo < hi
  · refine .inr ⟨g, lo, ha e, fun j v hj => ?_⟩
    have hlt := lt_of_some hj
    rw [u8s_len, hl] at hlt
    obtain ⟨g', e', hc⟩ := own_bit (j := lo + j) h (by omega)
    simp only [Option.some.injEq, Addr.mk.injEq] at e'
    obtain ⟨rfl, _⟩ := e'
    rw [hc, ← hj, u8s_get (by rw [hl]; exact hlt)]
    congr 3
    simp [List.getD_eq_getElem?_getD, List.getElem?_drop, hlt]
  · exact .inl (by omega)
theorem sl_none {w : World} {n lo hi : Nat} {T : List Bool} (h0 : n = 0) (h2 : hi ≤ n) (a : Option Addr) (K : Nat) (hK2 : K ≤ 9223372036854775807) (hT : T.length = n) : Sl 1 w (.slice a (hi - lo) K) ((T.drop lo).take (hi - lo)).length (u8s ((T.drop lo).take (hi - lo))) := by
  have hl : ((T.drop lo).take (hi - lo)).length = hi - lo := by rw [List.length_take, List.length_drop, hT]; omega
  rw [hl]
  exact ⟨a, K, rfl, by rw [u8s_len, hl, Nat.mul_one], by omega, hK2, .inl (by omega)⟩
set_option maxRecDepth 100000 in
set_option maxHeartbeats 8000000 in
theorem step_gen (q bl I n q' n' cap s k : Nat) (ao : Option Addr) (vc vo : Value) (c : List Ins) (o : List Int) (x : Cl) (w : World) (hc : Sl 3 w vc c.length (icells c)) (ho : Sl 1 w vo o.length (ints o)) (he : progErr ((wid n + wid I : Nat) : Int) c o = 0)
    (hq1 : 1 ≤ q) (hq2 : q ≤ 16) (hbl : bl ≤ 16) (hi1 : 1 ≤ I) (hi2 : I ≤ 64) (hn1 : 1 ≤ n) (hn2 : n ≤ 64) (hs : s < 1000) (hk : k < 1000) (hcap : n ≤ cap) (hcap2 : cap ≤ 9223372036854775807)
    (hx0 : 0 ≤ x.st) (hx1 : x.st < n') (hnn : n' ≤ 2 ^ wid n) (hxs : x.word.size = bl) (hxw : wordErr (q' : Int) x.word = 0) (hqq : q' ≤ 2 ^ wid q) (hout : poutsV (binL (wid n) s ++ binL (wid I) k) c o = cellBits q n x) :
    Calls Tryz.prog 36 #[.agg #[.int .i64 (q : Int), .int .i64 (bl : Int), .int .i64 (I : Int), .slice ao n cap], .agg #[.int .i64 ((wid n + wid I : Nat) : Int), vc, vo], .int .i64 (s : Int), .int .i64 (k : Int)] w fun e w' => e = .returned (.agg #[.int .i64 x.st, .string x.word]) ∧ Below w.heap.size w w' := by
  have HC := hid hc
  have HO := hid ho
  have HE := hid he
  obtain ⟨ac, cc, rfl, _, hc1, hc2, _⟩ := hc
  obtain ⟨ao2, co, rfl, _, ho1, ho2, _⟩ := ho
  have HOut := hid hout
  have HXw := hid hxw
  have hol : o.length = (cellBits q n x).length := by rw [← hout]; simp [poutsV]
  have HOl := hid hol
  have HW1 := hid (fun X => width_any n X (by omega) (by omega))
  have HW3 := hid (fun X => width_any q X (by omega) (by omega))
  have HB1 := hid (fun X => binary_any s n X (by omega) (by omega) (by omega))
  have HB2 := hid (fun X => binary_any k I X (by omega) (by omega) (by omega))
  have HRun := hid (fun vi X h1 h2 h3 => prun_any _ (.slice ac c.length cc) (.slice ao2 o.length co) vi c o (binL (wid n) s ++ binL (wid I) k) X h1 h2 h3 (by rw [List.length_append, binL_len, binL_len]) he)
  clear he hout hxw hol
  obtain ⟨hF0, hF1, _⟩ := wid_fits hn1 hn2
  obtain ⟨_, hF2, _⟩ := wid_fits hi1 hi2
  obtain ⟨hQ0, _, hF3, _⟩ := wid_fits hq1 (by omega)
  have hF3 := hF3 hq2
  have HF0 := hid hnn
  have HQ0 := hid hqq
  have hq16 : q' ≤ 16 := by have := (wordErr_zero.1 HXw.out).2.1; omega
  clear hF0 hQ0 hnn hqq
  generalize hSBe : wid n = SB at *
  generalize hIBe : wid I = IB at *
  generalize hWQe : wid q = WQ at *
  generalize hNN : SB + IB = NN at *
  obtain ⟨BT, hBT⟩ : ∃ BT, binL SB s ++ binL IB k = BT := ⟨_, rfl⟩
  have hBl : BT.length = NN := by rw [← hBT, List.length_append, binL_len, binL_len, hNN]
  rw [hBT] at HOut HRun
  rw [hBl] at HRun
  have HBT := hid hBT
  have HBl := hid hBl
  clear hBT hBl
  generalize hcl : c.length = CL at *
  generalize hoL : o.length = OL at *
  go_enter Tryz.func36, Tryz.ntmps36
  go_upto_region 1 with fail
  obtain ⟨w0, hw0⟩ : ∃ w0, ((w.alloc (.cells #[.int .i64 (q : Int), .int .i64 (bl : Int), .int .i64 (I : Int), .slice ao n cap] 24)).alloc (.cells #[.int .i64 (NN : Int), .slice ac CL cc, .slice ao2 OL co] 28)).alloc (.cells #[.int .i64 0, .string ⟨#[]⟩] 45) = w0 := ⟨_, rfl⟩
  obtain ⟨hb0, hz0, c0, c1, c2, c3, p0, p1, p2, r0⟩ := box3 hw0
  have HBel := hid hb0
  have HS0 := hid hz0
  rw [hw0]
  clear hw0 hb0 hz0
  go_region_held3 (fun w' => w'.cell? ⟨w.heap.size, 0, none⟩ = some (.int .i64 (q : Int)) ∧ w'.cell? ⟨w.heap.size, 3, none⟩ = some (.slice ao n cap))
    (first | exact ⟨c0, c3⟩ | go_keep)
    (first
      | (have _g := HM1.out; clear _g; go_at_call 20; refine (HW3.out _).mono ?_; rintro e w2 ⟨rfl, rfl⟩)
      | (go_at_call 20; refine (HW1.out _).mono ?_; rintro e w2 ⟨rfl, rfl⟩; have HM1 := hid True.intro))
  have hbd : Below w0.heap.size w0 w0.drew := below_drewN (Below.refl _ _) 1
  have c0 := keeps hbd c0
  have c1 := keeps hbd c1
  have c2 := keeps hbd c2
  have c3 := keeps hbd c3
  have p0 := keeps hbd p0
  have p1 := keeps hbd p1
  have p2 := keeps hbd p2
  have r0 := row_below r0 hbd
  have HBel2 := hid (bel_step HBel.out hbd)
  have HS2 := hid (show w0.drew.heap.size = w.heap.size + 3 from HS0.out)
  clear HM1 HW1 HW3 hbd HBel HS0
  generalize w0.drew = w2 at *
  go_upto_region 2 with fail
  have HSw := hid (show Below w2.heap.size w2 w2.drew from below_drewN (Below.refl _ _) 1)
  go_region_held3 (fun w' => w'.cell? ⟨w.heap.size, 2, none⟩ = some (.int .i64 (I : Int)) ∧ w'.cell? ⟨w.heap.size, 3, none⟩ = some (.slice ao n cap) ∧ w'.cell? ⟨w.heap.size + 1, 0, none⟩ = some (.int .i64 (NN : Int)) ∧ w'.cell? ⟨w.heap.size + 1, 1, none⟩ = some (.slice ac CL cc) ∧ w'.cell? ⟨w.heap.size + 1, 2, none⟩ = some (.slice ao2 OL co))
    (first | exact ⟨c2, c3, p0, p1, p2⟩ | exact ⟨keeps (bel_alloc _ _) c2, keeps (bel_alloc _ _) c3, keeps (bel_alloc _ _) p0, keeps (bel_alloc _ _) p1, keeps (bel_alloc _ _) p2⟩ | go_keep)
    (first
      | (have _g := HM1.out; clear _g; go_at_call 53; refine (HB2.out _).mono ?_; rintro e w4 ⟨v4, rfl, ho4, hn4, hb4⟩; obtain ⟨a4, k4, rfl⟩ := own_slice ho4; have HBx4 := hid (bel_step HBx3.out hb4); have HO4 := hid (show w4.ownsRow _ 5 1 (.slice a4 IB k4) (binL IB k).length (u8s (binL IB k)) by rw [binL_len]; exact ho4); have HO34 := hid (own_below HO3.out hb4); have HN4 := hid hn4; have c2 := keeps hb4 c2; have c3 := keeps hb4 c3; have p0 := keeps hb4 p0; have p1 := keeps hb4 p1; have p2 := keeps hb4 p2; clear ho4 hn4 hb4)
      | (go_at_call 53; refine (HB1.out _).mono ?_; rintro e w3 ⟨v3, rfl, ho3, hn3, hb3⟩; obtain ⟨a3, k3, rfl⟩ := own_slice ho3; have HM1 := hid True.intro; have hbx := bel_step HSw.out hb3; have HBx3 := hid hbx; have HO3 := hid (show w3.ownsRow _ 5 1 (.slice a3 SB k3) (binL SB s).length (u8s (binL SB s)) by rw [binL_len]; exact ho3); have HN3 := hid hn3; have c2 := keeps hbx c2; have c3 := keeps hbx c3; have p0 := keeps hbx p0; have p1 := keeps hbx p1; have p2 := keeps hbx p2; clear ho3 hn3 hb3 hbx)
      | (go_at_call 62; obtain ⟨X, hX⟩ : ∃ X, w4.alloc (.cells #[.slice a3 SB k3, .slice a4 IB k4] 54) = X := ⟨_, rfl⟩; rw [hX]; obtain ⟨hbX, x0, x1⟩ := row2 hX; have HBX := hid (bel_step HBx4.out hbX); refine (concat2_any w4.heap.size (.slice a3 SB k3) (.slice a4 IB k4) (binL SB s) (binL IB k) X x0 x1 ((Sl.of_owns HO34.out).below hbX) ((Sl.of_owns HO4.out).below hbX) (fun h => HN3.out (by rw [binL_len] at h; exact h)) (fun h => HN4.out (by rw [binL_len] at h; exact h)) (by rw [binL_len]; omega) (by rw [binL_len]; omega)).mono ?_; rintro e w5 ⟨v5, rfl, ho5, hb5⟩; rw [HBT.out, HBl.out] at ho5; obtain ⟨a5, k5, rfl⟩ := own_slice ho5; have HO5 := hid ho5; have HBx5 := hid (bel_step HBX.out hb5); have hbx := bel_step hbX hb5; have c2 := keeps hbx c2; have c3 := keeps hbx c3; have p0 := keeps hbx p0; have p1 := keeps hbx p1; have p2 := keeps hbx p2; clear hX hbX x0 x1 ho5 hb5 hbx)
      | (go_at_call 44; refine (HRun.out _ _ (HC.out.below (bel_step HBel2.out HBx5.out)) (HO.out.below (bel_step HBel2.out HBx5.out)) (Sl.of_owns HO5.out)).mono ?_; rintro e w6 ⟨v6, rfl, ho6, hb6⟩; obtain ⟨a6, k6, rfl⟩ := own_slice ho6; have HO6 := hid ho6; have HBx6 := hid (bel_step HBx5.out hb6); have c2 := keeps hb6 c2; have c3 := keeps hb6 c3; have p0 := keeps hb6 p0; have p1 := keeps hb6 p1; have p2 := keeps hb6 p2; clear ho6 hb6))
  clear HM1 HO3 HN3 HO4 HN4 HO34 HO5 HRun HB1 HB2 HBX HBx3 HBx4 HBx5 HSw c2 c3 p0 p1 p2
  have c1 := keeps HBx6.out c1
  have r0 := row_below r0 HBx6.out
  have HR0 := hid r0
  have hbs6 := HBx6.out.size
  have hs2 := HS2.out
  clear r0
  have HT := hid (show w6.ownsRow w5.heap.size 5 1 (.slice a6 OL k6) OL (u8s (cellBits q n x)) by rw [← HOut.out]; exact HO6.out)
  have HTl := hid (show (cellBits q n x).length = OL from HOl.out.symm)
  have HTe := hid (show (cellBits q n x).length = SB + bl * WQ by rw [cellBits_len, hSBe, hWQe, hxs])
  have hsl := Sl.of_owns HT.out
  obtain ⟨_, _, hv, _, hk1, hk2, _⟩ := hsl
  simp only [Value.slice.injEq] at hv
  obtain ⟨-, -, rfl⟩ := hv
  have hSO : SB ≤ OL := by rw [← HTl.out, HTe.out]; omega
  clear HO6 HOut
  generalize hTT : cellBits q n x = T at *
  have HTT := hid hTT
  clear hTT
  rcases HT.out.2 with ⟨hv, hx⟩ | ⟨g, cap', cur, hv, _⟩
  · simp only [Value.slice.injEq] at hv
    obtain ⟨rfl, hv2, hv3⟩ := hv
    have HZ0 := hid hv2
    clear hv2 hv3 hx
    have hpart := sl_none (w := w6) (lo := 0) HZ0.out hSO none k6 hk2 HTl.out
    rw [Nat.sub_zero, List.drop_zero] at hpart
    have HN1 := hid (number_any _ _ w6 hpart (by rw [List.length_take]; omega))
    have hst : ((numB (T.take SB) : Nat) : Int) = x.st := by rw [← HTT.out, ← hSBe]; exact cell_state hx0 hx1 (by rw [hSBe]; exact HF0.out)
    rw [hst] at HN1
    clear hpart hst
    go_upto_region 4 with (go_at_call 63; refine (HN1.out).mono ?_; rintro e w7 ⟨rfl, rfl⟩)
    obtain ⟨w8, hw8⟩ : ∃ w8, w6.alloc (.cells #[.int .i64 x.st, .string ⟨#[]⟩] 45) = w8 := ⟨_, rfl⟩
    have hrow8 : w8.rowIs w6.heap.size 45 2 (cfun x.st (prefB x.word 0)) := by
      rw [← hw8]
      refine World.rowIs_alloc _ _ _ _ ?_
      intro i hi
      have hi' : i < 2 := hi
      have : i = 0 ∨ i = 1 := by omega
      rcases this with rfl | rfl <;> rfl
    have hb8 : Below w6.heap.size w6 w8 := by rw [← hw8]; exact bel_alloc _ _
    rw [hw8]
    have HR8 := hid hrow8
    have HB8 := hid hb8
    have c1' := keeps hb8 c1
    clear hw8 hrow8 hb8 HN1
    generalize hbx : w6.heap.size = bx at *
    go_wp2_with fail
    go_loopw [13, 14, 42] (fun _ _ i wr => ∃ j : Nat, j ≤ bl ∧ i = .int .i64 (j : Int) ∧ Hid (wr.rowIs bx 45 2 (cfun x.st (prefB x.word j))) ∧ Hid (Below bx w6 wr)) (fun _ _ i _ => bl - (intOf i).toNat)
    case atStart => exact ⟨0, Nat.zero_le _, rfl, HR8, HB8⟩
    case round =>
      obtain ⟨j, hj, rfl, HR, HB⟩ := hrel
      by_cases hlt : j < bl
      · obtain ⟨ch, hch⟩ := some_of_lt (show j < x.word.data.toList.length by rw [ba_len, hxs]; exact hlt)
        obtain ⟨_, _, _, hok⟩ := wordErr_zero.1 HXw.out
        obtain ⟨hd1, hd2, hd3⟩ := dig_lt hok hch
        have hd1 : dig ch < q' := by simpa using hd1
        obtain ⟨LO, hLO⟩ : ∃ LO, SB + j * WQ = LO := ⟨_, rfl⟩
        obtain ⟨HI, hHI⟩ : ∃ HI, LO + WQ = HI := ⟨_, rfl⟩
        obtain ⟨M1, hM1⟩ : ∃ M, j * WQ = M := ⟨_, rfl⟩
        obtain ⟨M2, hM2⟩ : ∃ M, M1 + WQ = M := ⟨_, rfl⟩
        have hHO : HI ≤ OL := by
          have h1 := Nat.mul_le_mul_right WQ (show j + 1 ≤ bl by omega)
          rw [Nat.succ_mul] at h1
          rw [← HTl.out, HTe.out]; omega
        have hOb : OL ≤ 70 := by
          have h1 := Nat.mul_le_mul hbl hF3
          rw [← HTl.out, HTe.out]; omega
        have e1 : IntKind.i64.wrap ((j : Int) * (WQ : Int)) = (M1 : Int) := by rw [← Int.natCast_mul, hM1]; exact IntWalk.i64_in _ (by omega)
        have e2 : IntKind.i64.wrap ((SB : Int) + (M1 : Int)) = (LO : Int) := (IntWalk.i64_in _ (by omega)).trans (by omega)
        have e3 : IntKind.i64.wrap ((j : Int) + 1) = (j : Int) + 1 := IntWalk.i64_in _ (by omega)
        have e4 : IntKind.i64.wrap (((j : Int) + 1) * (WQ : Int)) = (M2 : Int) := by
          have : ((j : Int) + 1) * (WQ : Int) = (M2 : Int) := by rw [Int.add_mul, Int.one_mul, ← Int.natCast_mul, hM1]; omega
          rw [this]; exact IntWalk.i64_in _ (by omega)
        have e5 : IntKind.i64.wrap ((SB : Int) + (M2 : Int)) = (HI : Int) := (IntWalk.i64_in _ (by omega)).trans (by omega)
        have hWL : HI - LO = WQ := by omega
        have hnum : numB ((T.drop LO).take (HI - LO)) = dig ch := by
          rw [← HTT.out, hWL, ← hLO, ← hSBe, ← hWQe]
          exact cell_digit hch hd1 (by rw [hWQe]; exact HQ0.out)
        have hLH : LO ≤ HI := by omega
        have HNm := hid (fun a K X (h1 : HI - LO ≤ K) h2 (h3 : LO < HI → True) (hX : Below bx w6 X) => number_any (.slice a (HI - LO) K) ((T.drop LO).take (HI - LO)) X (sl_none (lo := LO) HZ0.out hHO a K h2 HTl.out) (by rw [List.length_take, hWL]; omega))
        rw [hWL] at hnum HNm
        rw [hnum] at HNm
        clear hLO hM1 hM2 hnum
        have hkl : LO < HI → k6 ≠ LO := fun h => by have := HZ0.out; omega
        go_upto_region 8 with (go_at_call 63; refine (HNm.out _ _ wr (by omega) (by omega) (fun _ => trivial) HB.out).mono ?_; rintro e w9 ⟨rfl, rfl⟩)
        have b1 := HR.out.cell (i := 1) (by omega)
        have f1 := HR.out.frozen 1
        have hext : (⟨#[48, 49, 50, 51, 52, 53, 54, 55, 56, 57, 97, 98, 99, 100, 101, 102]⟩ : ByteArray).extract (dig ch) (dig ch + 1) = ⟨#[ch]⟩ := lett_at ch (by omega)
        have hcat : ∀ X : World, (Op.stringOp .add (prefB x.word j) (⟨#[ch]⟩ : ByteArray)).run Tryz.prog X = .ok (.string (prefB x.word (j + 1))) X := fun X => by
          unfold Op.stringOp
          have h : ¬ (((prefB x.word j).size + (⟨#[ch]⟩ : ByteArray).size : Nat) : Int) > IntKind.i64.max := by
            have := prefB_size x.word j
            show ¬ (((prefB x.word j).size + 1 : Nat) : Int) > 9223372036854775807; omega
          rw [if_neg h, prefB_snoc hch]
          rfl
        obtain ⟨wy, hwy⟩ : ∃ wy, wr.setCell ⟨bx, 1, none⟩ (.string (prefB x.word (j + 1))) = wy := ⟨_, rfl⟩
        have HRy := hid (show wy.rowIs bx 45 2 (cfun x.st (prefB x.word (j + 1))) by
          rw [← hwy]
          refine (HR.out.set 1 (.string (prefB x.word (j + 1)))).congr fun i hi => ?_
          have : i = 0 ∨ i = 1 := by omega
          rcases this with rfl | rfl <;> rfl)
        have HBy := hid (show Below bx w6 wy by rw [← hwy]; exact HB.out.setCell (p := ⟨bx, 1, none⟩) (Nat.le_refl _) _)
        have HD := hid (show Below wy.heap.size wy wy.drew from below_drewN (Below.refl _ _) 1)
        have HWy := hid hwy
        have hbs : bx ≤ wy.heap.size := Nat.le_of_lt HRy.out.lt
        clear hwy e1 e2 e3 e4 e5 HNm hWL hLH hkl hok hd1 hd2 hHI hHO
        simp only [cfun] at b1
        generalize prefB x.word j = S1 at *
        generalize hS2 : prefB x.word (j + 1) = S2 at *
        have HS2e := hid hS2
        clear hS2
        generalize dig ch = D at *
        have hv1 : IntKind.i64.wrap ((D : Int) + 1) = (D : Int) + 1 := IntWalk.i64_in _ (by omega)
        have hv2 : (0 : Int) ≤ (D : Int) + 1 := by omega
        have hv3 : (D : Int) + 1 ≤ 16 := by omega
        have hv4 : (0 : Int) ≤ (D : Int) := by omega
        have hv5 : (D : Int) ≤ (D : Int) + 1 := by omega
        have hv6 : ((D : Int) + 1).toNat = D + 1 := by omega
        go_region
        rw [HWy.out]
        go_wp2
        go_roundw
        case rel => exact ⟨j + 1, by omega, by go_num, hid (by rw [HS2e.out]; exact row_below HRy.out HD.out), hid (HBy.out.trans (HD.out.mono hbs))⟩
        case measure => simp [intOf]; omega
      · obtain rfl : bl = j := by omega
        rw [← hxs, prefB_all] at HR
        have b0 := HR.out.cell (i := 0) (by omega)
        have b1 := HR.out.cell (i := 1) (by omega)
        simp only [cfun] at b0 b1
        have hRw := HR0.out.of_block (HB.out.block (w.heap.size + 2) (by omega))
        have z0 := hRw.cell (i := 0) (by omega)
        have z1 := hRw.cell (i := 1) (by omega)
        have f0 := hRw.frozen 0
        have f1 := hRw.frozen 1
        simp only [if_true, Nat.one_ne_zero, if_false] at z0 z1
        clear hRw
        go_wp2_with fail
        obtain ⟨wz, hwz⟩ : ∃ wz, (wr.setCell ⟨w.heap.size + 2, 0, none⟩ (.int .i64 x.st)).setCell ⟨w.heap.size + 2, 1, none⟩ (.string x.word) = wz := ⟨_, rfl⟩
        have y0 : wz.cell? ⟨w.heap.size + 2, 0, none⟩ = some (.int .i64 x.st) := by rw [← hwz, World.cell?_setCell_other _ _ _ _ (by simp)]; exact World.cell?_setCell_same _ _ _ z0
        have y1 : wz.cell? ⟨w.heap.size + 2, 1, none⟩ = some (.string x.word) := by rw [← hwz]; exact World.cell?_setCell_same _ _ _ ((World.cell?_setCell_other _ _ _ _ (by simp)).trans z1)
        have HBz := hid (show Below w.heap.size w wz by
          rw [← hwz]
          exact (((HBel2.out.trans (HBx6.out.mono HBel2.out.size)).trans (HB.out.mono (by omega))).setCell (p := ⟨w.heap.size + 2, 0, none⟩) (by show w.heap.size ≤ w.heap.size + 2; omega) _).setCell (p := ⟨w.heap.size + 2, 1, none⟩) (by show w.heap.size ≤ w.heap.size + 2; omega) _)
        rw [show w.heap.size + 1 + 1 = w.heap.size + 2 from rfl, hwz]
        refine bodyPost_ret (v := .agg #[.int .i64 x.st, .string x.word]) ?_ rfl ⟨rfl, HBz.out⟩
        simp [results, Tryz.results36, go_sem, y0, y1]
  · simp only [Value.slice.injEq] at hv
    obtain ⟨rfl, -, rfl⟩ := hv
    have hpart := sl_part HT.out (Nat.zero_le SB) hSO hk2 (some ⟨g, 0, none⟩) k6 (by omega) hk2 (fun _ => rfl) HTl.out
    rw [Nat.sub_zero, List.drop_zero] at hpart
    have HN1 := hid (number_any _ _ w6 hpart (by rw [List.length_take]; omega))
    have hst : ((numB (T.take SB) : Nat) : Int) = x.st := by rw [← HTT.out, ← hSBe]; exact cell_state hx0 hx1 (by rw [hSBe]; exact HF0.out)
    rw [hst] at HN1
    clear hpart hst
    go_upto_region 4 with (go_at_call 63; refine (HN1.out).mono ?_; rintro e w7 ⟨rfl, rfl⟩)
    obtain ⟨w8, hw8⟩ : ∃ w8, w6.alloc (.cells #[.int .i64 x.st, .string ⟨#[]⟩] 45) = w8 := ⟨_, rfl⟩
    have hrow8 : w8.rowIs w6.heap.size 45 2 (cfun x.st (prefB x.word 0)) := by
      rw [← hw8]
      refine World.rowIs_alloc _ _ _ _ ?_
      intro i hi
      have hi' : i < 2 := hi
      have : i = 0 ∨ i = 1 := by omega
      rcases this with rfl | rfl <;> rfl
    have hb8 : Below w6.heap.size w6 w8 := by rw [← hw8]; exact bel_alloc _ _
    rw [hw8]
    have HR8 := hid hrow8
    have HB8 := hid hb8
    have c1' := keeps hb8 c1
    clear hw8 hrow8 hb8 HN1
    generalize hbx : w6.heap.size = bx at *
    go_wp2_with fail
    go_loopw [13, 14, 42] (fun _ _ i wr => ∃ j : Nat, j ≤ bl ∧ i = .int .i64 (j : Int) ∧ Hid (wr.rowIs bx 45 2 (cfun x.st (prefB x.word j))) ∧ Hid (Below bx w6 wr)) (fun _ _ i _ => bl - (intOf i).toNat)
    case atStart => exact ⟨0, Nat.zero_le _, rfl, HR8, HB8⟩
    case round =>
      obtain ⟨j, hj, rfl, HR, HB⟩ := hrel
      by_cases hlt : j < bl
      · obtain ⟨ch, hch⟩ := some_of_lt (show j < x.word.data.toList.length by rw [ba_len, hxs]; exact hlt)
        obtain ⟨_, _, _, hok⟩ := wordErr_zero.1 HXw.out
        obtain ⟨hd1, hd2, hd3⟩ := dig_lt hok hch
        have hd1 : dig ch < q' := by simpa using hd1
        obtain ⟨LO, hLO⟩ : ∃ LO, SB + j * WQ = LO := ⟨_, rfl⟩
        obtain ⟨HI, hHI⟩ : ∃ HI, LO + WQ = HI := ⟨_, rfl⟩
        obtain ⟨M1, hM1⟩ : ∃ M, j * WQ = M := ⟨_, rfl⟩
        obtain ⟨M2, hM2⟩ : ∃ M, M1 + WQ = M := ⟨_, rfl⟩
        have hHO : HI ≤ OL := by
          have h1 := Nat.mul_le_mul_right WQ (show j + 1 ≤ bl by omega)
          rw [Nat.succ_mul] at h1
          rw [← HTl.out, HTe.out]; omega
        have hOb : OL ≤ 70 := by
          have h1 := Nat.mul_le_mul hbl hF3
          rw [← HTl.out, HTe.out]; omega
        have e1 : IntKind.i64.wrap ((j : Int) * (WQ : Int)) = (M1 : Int) := by rw [← Int.natCast_mul, hM1]; exact IntWalk.i64_in _ (by omega)
        have e2 : IntKind.i64.wrap ((SB : Int) + (M1 : Int)) = (LO : Int) := (IntWalk.i64_in _ (by omega)).trans (by omega)
        have e3 : IntKind.i64.wrap ((j : Int) + 1) = (j : Int) + 1 := IntWalk.i64_in _ (by omega)
        have e4 : IntKind.i64.wrap (((j : Int) + 1) * (WQ : Int)) = (M2 : Int) := by
          have : ((j : Int) + 1) * (WQ : Int) = (M2 : Int) := by rw [Int.add_mul, Int.one_mul, ← Int.natCast_mul, hM1]; omega
          rw [this]; exact IntWalk.i64_in _ (by omega)
        have e5 : IntKind.i64.wrap ((SB : Int) + (M2 : Int)) = (HI : Int) := (IntWalk.i64_in _ (by omega)).trans (by omega)
        have hWL : HI - LO = WQ := by omega
        have hnum : numB ((T.drop LO).take (HI - LO)) = dig ch := by
          rw [← HTT.out, hWL, ← hLO, ← hSBe, ← hWQe]
          exact cell_digit hch hd1 (by rw [hWQe]; exact HQ0.out)
        have hLH : LO ≤ HI := by omega
        have HNm := hid (fun a K X h1 h2 h3 (hX : Below bx w6 X) => number_any (.slice a (HI - LO) K) ((T.drop LO).take (HI - LO)) X (sl_part (base := w5.heap.size) (by have := own_below HT.out (hbx ▸ hX); exact this) hLH hHO hk2 a K h1 h2 h3 HTl.out) (by rw [List.length_take, hWL]; omega))
        rw [hWL] at hnum HNm
        rw [hnum] at HNm
        clear hLO hM1 hM2 hnum
        have hkl : LO < HI → k6 ≠ LO := fun h => by omega
        go_upto_region 8 with (go_at_call 63; refine (HNm.out _ _ wr (by omega) (by omega) (fun h => if_neg (hkl h)) HB.out).mono ?_; rintro e w9 ⟨rfl, rfl⟩)
        have b1 := HR.out.cell (i := 1) (by omega)
        have f1 := HR.out.frozen 1
        have hext : (⟨#[48, 49, 50, 51, 52, 53, 54, 55, 56, 57, 97, 98, 99, 100, 101, 102]⟩ : ByteArray).extract (dig ch) (dig ch + 1) = ⟨#[ch]⟩ := lett_at ch (by omega)
        have hcat : ∀ X : World, (Op.stringOp .add (prefB x.word j) (⟨#[ch]⟩ : ByteArray)).run Tryz.prog X = .ok (.string (prefB x.word (j + 1))) X := fun X => by
          unfold Op.stringOp
          have h : ¬ (((prefB x.word j).size + (⟨#[ch]⟩ : ByteArray).size : Nat) : Int) > IntKind.i64.max := by
            have := prefB_size x.word j
            show ¬ (((prefB x.word j).size + 1 : Nat) : Int) > 9223372036854775807; omega
          rw [if_neg h, prefB_snoc hch]
          rfl
        obtain ⟨wy, hwy⟩ : ∃ wy, wr.setCell ⟨bx, 1, none⟩ (.string (prefB x.word (j + 1))) = wy := ⟨_, rfl⟩
        have HRy := hid (show wy.rowIs bx 45 2 (cfun x.st (prefB x.word (j + 1))) by
          rw [← hwy]
          refine (HR.out.set 1 (.string (prefB x.word (j + 1)))).congr fun i hi => ?_
          have : i = 0 ∨ i = 1 := by omega
          rcases this with rfl | rfl <;> rfl)
        have HBy := hid (show Below bx w6 wy by rw [← hwy]; exact HB.out.setCell (p := ⟨bx, 1, none⟩) (Nat.le_refl _) _)
        have HD := hid (show Below wy.heap.size wy wy.drew from below_drewN (Below.refl _ _) 1)
        have HWy := hid hwy
        have hbs : bx ≤ wy.heap.size := Nat.le_of_lt HRy.out.lt
        clear hwy e1 e2 e3 e4 e5 HNm hWL hLH hkl hok hd1 hd2 hHI hHO
        simp only [cfun] at b1
        generalize prefB x.word j = S1 at *
        generalize hS2 : prefB x.word (j + 1) = S2 at *
        have HS2e := hid hS2
        clear hS2
        generalize dig ch = D at *
        have hv1 : IntKind.i64.wrap ((D : Int) + 1) = (D : Int) + 1 := IntWalk.i64_in _ (by omega)
        have hv2 : (0 : Int) ≤ (D : Int) + 1 := by omega
        have hv3 : (D : Int) + 1 ≤ 16 := by omega
        have hv4 : (0 : Int) ≤ (D : Int) := by omega
        have hv5 : (D : Int) ≤ (D : Int) + 1 := by omega
        have hv6 : ((D : Int) + 1).toNat = D + 1 := by omega
        go_region
        rw [HWy.out]
        go_wp2
        go_roundw
        case rel => exact ⟨j + 1, by omega, by go_num, hid (by rw [HS2e.out]; exact row_below HRy.out HD.out), hid (HBy.out.trans (HD.out.mono hbs))⟩
        case measure => simp [intOf]; omega
      · obtain rfl : bl = j := by omega
        rw [← hxs, prefB_all] at HR
        have b0 := HR.out.cell (i := 0) (by omega)
        have b1 := HR.out.cell (i := 1) (by omega)
        simp only [cfun] at b0 b1
        have hRw := HR0.out.of_block (HB.out.block (w.heap.size + 2) (by omega))
        have z0 := hRw.cell (i := 0) (by omega)
        have z1 := hRw.cell (i := 1) (by omega)
        have f0 := hRw.frozen 0
        have f1 := hRw.frozen 1
        simp only [if_true, Nat.one_ne_zero, if_false] at z0 z1
        clear hRw
        go_wp2_with fail
        obtain ⟨wz, hwz⟩ : ∃ wz, (wr.setCell ⟨w.heap.size + 2, 0, none⟩ (.int .i64 x.st)).setCell ⟨w.heap.size + 2, 1, none⟩ (.string x.word) = wz := ⟨_, rfl⟩
        have y0 : wz.cell? ⟨w.heap.size + 2, 0, none⟩ = some (.int .i64 x.st) := by rw [← hwz, World.cell?_setCell_other _ _ _ _ (by simp)]; exact World.cell?_setCell_same _ _ _ z0
        have y1 : wz.cell? ⟨w.heap.size + 2, 1, none⟩ = some (.string x.word) := by rw [← hwz]; exact World.cell?_setCell_same _ _ _ ((World.cell?_setCell_other _ _ _ _ (by simp)).trans z1)
        have HBz := hid (show Below w.heap.size w wz by
          rw [← hwz]
          exact (((HBel2.out.trans (HBx6.out.mono HBel2.out.size)).trans (HB.out.mono (by omega))).setCell (p := ⟨w.heap.size + 2, 0, none⟩) (by show w.heap.size ≤ w.heap.size + 2; omega) _).setCell (p := ⟨w.heap.size + 2, 1, none⟩) (by show w.heap.size ≤ w.heap.size + 2; omega) _)
        rw [show w.heap.size + 1 + 1 = w.heap.size + 2 from rfl, hwz]
        refine bodyPost_ret (v := .agg #[.int .i64 x.st, .string x.word]) ?_ rfl ⟨rfl, HBz.out⟩
        simp [results, Tryz.results36, go_sem, y0, y1]
theorem step_any (q bl I n cap s k : Nat) (ao : Option Addr) (vc vo : Value) (c : List Ins) (o : List Int) (x : Cl) (w : World) (hc : Sl 3 w vc c.length (icells c)) (ho : Sl 1 w vo o.length (ints o)) (he : progErr ((wid n + wid I : Nat) : Int) c o = 0)
    (hq1 : 1 ≤ q) (hq2 : q ≤ 16) (hbl : bl ≤ 16) (hi1 : 1 ≤ I) (hi2 : I ≤ 64) (hn1 : 1 ≤ n) (hn2 : n ≤ 64) (hs : s < 1000) (hk : k < 1000) (hcap : n ≤ cap) (hcap2 : cap ≤ 9223372036854775807)
    (hx0 : 0 ≤ x.st) (hx1 : x.st < n) (hxs : x.word.size = bl) (hxw : wordErr (q : Int) x.word = 0) (hout : poutsV (binL (wid n) s ++ binL (wid I) k) c o = cellBits q n x) :
    Calls Tryz.prog 36 #[.agg #[.int .i64 (q : Int), .int .i64 (bl : Int), .int .i64 (I : Int), .slice ao n cap], .agg #[.int .i64 ((wid n + wid I : Nat) : Int), vc, vo], .int .i64 (s : Int), .int .i64 (k : Int)] w fun e w' => e = .returned (.agg #[.int .i64 x.st, .string x.word]) ∧ Below w.heap.size w w' := by
  obtain ⟨hF0, _, _⟩ := wid_fits hn1 hn2
  obtain ⟨hQ0, _, _⟩ := wid_fits hq1 (by omega)
  exact step_gen q bl I n q n cap s k ao vc vo c o x w hc ho he hq1 hq2 hbl hi1 hi2 hn1 hn2 hs hk hcap hcap2 hx0 hx1 hF0 hxs hxw hQ0 hout
end Go.Proofs.YtcdfghogmdhfcaaGreatDoor

namespace Go.Proofs.YtcdfghogmdhfcaaGreatDoor
open Go.RowKit Go.Deep
set_option linter.unusedVariables false

theorem box2E {w w0 : World} {T1 T2 : TypeId} {a b c d e f g : Value} (hw : (w.alloc (.cells #[a, b, c, d] T1)).alloc (.cells #[e, f, g] T2) = w0) :
    Below w.heap.size w w0 ∧ w0.heap.size = w.heap.size + 2 ∧ w0.cell? ⟨w.heap.size, 0, none⟩ = some a ∧ w0.cell? ⟨w.heap.size, 1, none⟩ = some b ∧ w0.cell? ⟨w.heap.size, 2, none⟩ = some c ∧ w0.cell? ⟨w.heap.size, 3, none⟩ = some d ∧ w0.cell? ⟨w.heap.size + 1, 0, none⟩ = some e ∧ w0.cell? ⟨w.heap.size + 1, 1, none⟩ = some f ∧ w0.cell? ⟨w.heap.size + 1, 2, none⟩ = some g := by
  subst hw
  exact ⟨(bel_alloc _ _).alloc (by simp) _, by simp, by simp, by simp, by simp, by simp, by simp, by simp, by simp⟩
set_option maxRecDepth 100000 in
set_option maxHeartbeats 8000000 in
theorem check_ok (q bl I : Nat) (v vc vo : Value) (rows : List (List Cl)) (c : List Ins) (o : List Int) (w : World) (hM : MC w v rows) (hc : Sl 3 w vc c.length (icells c)) (ho : Sl 1 w vo o.length (ints o)) (hE : eErr (q : Int) (bl : Int) (I : Int) rows = 0) (hV : EncV (q : Int) (bl : Int) (I : Int) rows) (he : progErr ((wid rows.length + wid I : Nat) : Int) c o = 0) (hol : o.length = wid rows.length + bl * wid q) :
    Calls Tryz.prog 35 #[.agg #[.int .i64 (q : Int), .int .i64 (bl : Int), .int .i64 (I : Int), v], .agg #[.int .i64 ((wid rows.length + wid I : Nat) : Int), vc, vo]] w fun e w' => e = .returned (.int .i64 0) ∧ Below w.heap.size w w' := by
  have HM := hid hM
  have HC := hid hc
  have HO := hid ho
  have HCk := hid (fun X h => echk_any (q : Int) (bl : Int) (I : Int) v rows X h)
  rw [hE] at HCk
  have HPk := hid (fun X h1 h2 => pcheck_any ((wid rows.length + wid I : Nat) : Int) vc vo c o X h1 h2)
  rw [he] at HPk
  obtain ⟨am, cap, rfl, hm1, hm2⟩ := hM.slice
  obtain ⟨ac, cc, rfl, _, hc1, hc2, _⟩ := hc
  obtain ⟨ao, co, rfl, _, ho1, ho2, _⟩ := ho
  have hq1 := hV.q1
  have hq2 := hV.q16
  have hb2 := hV.b16
  have hi1 := hV.i1
  have hi2 := hV.i256
  have hn1 := hV.r1
  have hn2 := hV.r64
  have HW1 := hid (fun X => width_any rows.length X (by omega) (by omega))
  have HW2 := hid (fun X => width_any I X (by omega) (by omega))
  have HW3 := hid (fun X => width_any q X (by omega) (by omega))
  have hF1 := (wid_fits (show 1 ≤ rows.length by omega) (by omega)).2.1
  have hF3 := (wid_fits (show 1 ≤ q by omega) (by omega)).2.2.1 (by omega)
  have hN24 : wid rows.length + wid I ≤ 24 := by have := (progErr_zero.1 he).2.1; omega
  clear hM hE he hV
  generalize wid rows.length = SB at *
  generalize wid I = IB at *
  generalize wid q = WQ at *
  generalize hNN : SB + IB = NN at *
  have hBW : bl * WQ ≤ 64 := Nat.mul_le_mul (show bl ≤ 16 by omega) hF3
  have hml : IntKind.i64.wrap ((bl : Int) * (WQ : Int)) = ((bl * WQ : Nat) : Int) := by rw [← Int.natCast_mul]; exact IntWalk.i64_in _ (by omega)
  generalize hBWe : bl * WQ = BW at *
  clear hBWe
  have had : IntKind.i64.wrap ((SB : Int) + (BW : Int)) = (o.length : Int) := (IntWalk.i64_in _ (by omega)).trans (by omega)
  have han : IntKind.i64.wrap ((SB : Int) + (IB : Int)) = (NN : Int) := (IntWalk.i64_in _ (by omega)).trans (by omega)
  generalize rows.length = n at *
  generalize c.length = CL at *
  generalize hOL : o.length = OL at *
  clear hol hOL hNN
  go_enter Tryz.func35, Tryz.ntmps35
  go_upto_region 1 with fail
  obtain ⟨w0, hw0⟩ : ∃ w0, (w.alloc (.cells #[.int .i64 (q : Int), .int .i64 (bl : Int), .int .i64 (I : Int), .slice am n cap] 24)).alloc (.cells #[.int .i64 (NN : Int), .slice ac CL cc, .slice ao OL co] 28) = w0 := ⟨_, rfl⟩
  obtain ⟨hb0, hz0, c0, c1, c2, c3, p0, p1, p2⟩ := box2E hw0
  rw [hw0]
  have HB0 := hid hb0
  clear hw0 hb0 hz0
  go_upto_region 4 with (first
    | (go_at_call 19; refine (HCk.out _ (HM.out.below HB0.out)).mono ?_; rintro e w1 ⟨rfl, hb1⟩; have HB1 := hid (bel_step HB0.out hb1); have c0 := keeps hb1 c0; have c1 := keeps hb1 c1; have c2 := keeps hb1 c2; have c3 := keeps hb1 c3; have p0 := keeps hb1 p0; have p1 := keeps hb1 p1; have p2 := keeps hb1 p2; clear hb1)
    | (go_at_call 39; refine (HPk.out _ (HC.out.below HB1.out) (HO.out.below HB1.out)).mono ?_; rintro e w2 ⟨rfl, hb2⟩; have HB2 := hid (bel_step HB1.out hb2); have c0 := keeps hb2 c0; have c1 := keeps hb2 c1; have c2 := keeps hb2 c2; have c3 := keeps hb2 c3; have p0 := keeps hb2 p0; have p1 := keeps hb2 p1; have p2 := keeps hb2 p2; clear hb2)
    | (go_at_call 20; refine (HW1.out _).mono ?_; rintro e w3 ⟨rfl, rfl⟩))
  clear HCk HPk HW1
  go_region_held3 (fun w' => w'.cell? ⟨w.heap.size + 1, 0, none⟩ = some (.int .i64 (NN : Int)) ∧ w'.cell? ⟨w.heap.size, 2, none⟩ = some (.int .i64 (I : Int)) ∧ w'.cell? ⟨w.heap.size + 1, 2, none⟩ = some (.slice ao OL co) ∧ w'.cell? ⟨w.heap.size, 1, none⟩ = some (.int .i64 (bl : Int)) ∧ w'.cell? ⟨w.heap.size, 0, none⟩ = some (.int .i64 (q : Int)))
    (first | exact ⟨p0, c2, p2, c1, c0⟩ | go_keep)
    (first
      | (have _g := HM1.out; clear _g; go_at_call 20; refine (HW3.out _).mono ?_; rintro e w2 ⟨rfl, rfl⟩)
      | (go_at_call 20; refine (HW2.out _).mono ?_; rintro e w2 ⟨rfl, rfl⟩; have HM1 := hid True.intro))
  go_wp2
  go_ret
  exact ⟨rfl, bel_step HB2.out (show Below w2.heap.size w2 w2.drew from below_drewN (Below.refl _ _) 1)⟩
set_option maxRecDepth 100000 in
set_option maxHeartbeats 8000000 in
theorem pstep_ok (q bl I s k : Nat) (v vc vo : Value) (rows : List (List Cl)) (row : List Cl) (x : Cl) (c : List Ins) (o : List Int) (w : World) (hM : MC w v rows) (hc : Sl 3 w vc c.length (icells c)) (ho : Sl 1 w vo o.length (ints o)) (hE : eErr (q : Int) (bl : Int) (I : Int) rows = 0) (hV : EncV (q : Int) (bl : Int) (I : Int) rows) (hi64 : I ≤ 64) (he : progErr ((wid rows.length + wid I : Nat) : Int) c o = 0) (hol : o.length = wid rows.length + bl * wid q)
    (hs : s < rows.length) (hk : k < I) (hrow : rows[s]? = some row) (hx : row[k]? = some x) (hout : poutsV (binL (wid rows.length) s ++ binL (wid I) k) c o = cellBits q rows.length x) :
    Calls Tryz.prog 11 #[.agg #[.int .i64 (q : Int), .int .i64 (bl : Int), .int .i64 (I : Int), v], .agg #[.int .i64 ((wid rows.length + wid I : Nat) : Int), vc, vo], .int .i64 (s : Int), .int .i64 (k : Int)] w fun e w' => e = .returned (.tuple #[.int .i64 x.st, .string x.word, .int .i64 0]) ∧ Below w.heap.size w w' := by
  have HM := hid hM
  have HC := hid hc
  have HO := hid ho
  have HCk := hid (fun X h1 h2 h3 => check_ok q bl I v vc vo rows c o X h1 h2 h3 hE hV he hol)
  obtain ⟨am, cap, rfl, hm1, hm2⟩ := hM.slice
  have hmr := List.mem_of_getElem? hrow
  have hmx := List.mem_of_getElem? hx
  have HSt := hid (fun X h1 h2 => step_any q bl I rows.length cap s k am vc vo c o x X h1 h2 he (by have := hV.q1; omega) (by have := hV.q16; omega) (by have := hV.b16; omega) (by have := hV.i1; omega) hi64 (by have := hV.r1; omega) (by have := hV.r64; omega) (by have := hV.r64; omega) (by omega) hm1 hm2 (hV.to0 row hmr x hmx) (hV.to1 row hmr x hmx) (by have := hV.sz row hmr x hmx; omega) (hV.wd row hmr x hmx) hout)
  have hn64 := hV.r64
  have HNn := hid (show True from trivial)
  obtain ⟨ac, cc, rfl, _, hc1, hc2, _⟩ := hc
  obtain ⟨ao, co, rfl, _, ho1, ho2, _⟩ := ho
  clear hM hE hV he hout hmr hmx hrow hx hol
  generalize wid rows.length + wid I = NN at *
  generalize rows.length = n at *
  generalize c.length = CL at *
  generalize o.length = OL at *
  go_enter Tryz.func11, Tryz.ntmps11
  go_upto_region 1 with fail
  obtain ⟨w0, hw0⟩ : ∃ w0, (w.alloc (.cells #[.int .i64 (q : Int), .int .i64 (bl : Int), .int .i64 (I : Int), .slice am n cap] 24)).alloc (.cells #[.int .i64 (NN : Int), .slice ac CL cc, .slice ao OL co] 28) = w0 := ⟨_, rfl⟩
  obtain ⟨hb0, hz0, c0, c1, c2, c3, p0, p1, p2⟩ := box2E hw0
  rw [hw0]
  have HB0 := hid hb0
  clear hw0 hb0 hz0
  go_upto_region 9 with (first
    | (go_at_call 35; refine (HCk.out _ (HM.out.below HB0.out) (HC.out.below HB0.out) (HO.out.below HB0.out)).mono ?_; rintro e w1 ⟨rfl, hb1⟩; have HB1 := hid (bel_step HB0.out hb1); have c0 := keeps hb1 c0; have c1 := keeps hb1 c1; have c2 := keeps hb1 c2; have c3 := keeps hb1 c3; have p0 := keeps hb1 p0; have p1 := keeps hb1 p1; have p2 := keeps hb1 p2; clear hb1)
    | (go_at_call 36; refine (HSt.out _ (HC.out.below HB1.out) (HO.out.below HB1.out)).mono ?_; rintro e w2 ⟨rfl, hb2⟩; have HB2 := hid (bel_step HB1.out hb2); clear hb2))
  obtain ⟨w3, hw3⟩ : ∃ w3, w2.alloc (.cells #[.int .i64 x.st, .string x.word] 45) = w3 := ⟨_, rfl⟩
  obtain ⟨hb3, y0, y1⟩ := boxedC hw3
  rw [hw3]
  have HB3 := hid (bel_step HB2.out hb3)
  clear hw3 hb3
  go_region
  go_wp2
  go_ret3
  exact ⟨rfl, bel_step HB3.out (show Below w3.heap.size w3 w3.drew from below_drewN (Below.refl _ _) 1)⟩
end Go.Proofs.YtcdfghogmdhfcaaGreatDoor
