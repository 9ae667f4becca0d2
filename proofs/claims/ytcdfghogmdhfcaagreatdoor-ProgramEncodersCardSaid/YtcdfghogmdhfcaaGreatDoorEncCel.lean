/-
  program.width and program.binary: how many bits numbers have, and the bits of a number.
  program.cell: the bits of a cell.
  program.number: what bits say as a number, the highest first.
  slices.Grow and slices.Concat at rows of bytes (bits).
  Conditions: The numbers are small. The cell is valid. At most thirty bits. Grow: of the nil slice. Concat: of two rows of at most thirty bits each.
-/
import Derived.Test.YtcdfghogmdhfcaaGreatDoorMakAlg
import Derived.Test.YtcdfghogmdhfcaaGreatDoorPrRun
import Derived.Test.YtcdfghogmdhfcaaGreatDoorMg10
import Derived.Deep.Slices
import Derived.Test.YtcdfghogmdhfcaaGreatDoorEncChk
import Derived.Test.YtcdfghogmdhfcaaGreatDoorMg15
import Derived.Lib.ConvBytes
import Derived.Laws.AppendOwnNone
import Derived.Deep.RegionHeld3
import Derived.Deep.AppendLies
import Derived.Lib.AppendZeros
namespace Go.Proofs.YtcdfghogmdhfcaaGreatDoor
open Go.RowKit Go.Deep
set_option linter.unusedVariables false

theorem width_any (n : Nat) (w : World) (h1 : 1 ≤ n) (h2 : n ≤ 1000000) : Calls Tryz.prog 20 #[.int .i64 (n : Int)] w fun e w' => e = .returned (.int .i64 (wid n : Int)) ∧ w = w' := by
  have HL := hid (Tryz.bits_Len ((n : Int) - 1) w (by omega) (by omega))
  have e : ((n : Int) - 1).toNat = n - 1 := by omega
  rw [e] at HL
  clear e
  have hw1 : IntKind.i64.wrap ((n : Int) - 1) = (n : Int) - 1 := IntWalk.i64_in _ (by omega)
  have hw2 : IntKind.u64.wrap ((n : Int) - 1) = (n : Int) - 1 := by rw [IntKind.wrap_u64]; omega
  go_enter Tryz.func20, Tryz.ntmps20
  go_wp2_with (go_at_call 49; refine HL.out.mono ?_; rintro e w1 ⟨rfl, rfl⟩)
  go_ret
  exact ⟨rfl, rfl⟩
theorem binL_get : ∀ {w a j : Nat}, j < w → (binL w a)[j]? = some (a.testBit (w - 1 - j))
  | w + 1, a, 0, _ => by rw [binL]; simp
  | w + 1, a, j + 1, h => by
    rw [binL, List.getElem?_cons_succ, binL_get (by omega : j < w)]
    congr 2; omega
theorem binL_take {w a j : Nat} (h : j < w) : (binL w a).take (j + 1) = (binL w a).take j ++ [a.testBit (w - 1 - j)] := take_snoc (binL_get h)
theorem and_i64 (a b : Nat) (ha : a < 1000000) (hb : b < 1000000) : bits .and .i64 (a : Int) (b : Int) = ((a &&& b : Nat) : Int) := by
  have hx : a &&& b ≤ a := Nat.and_le_left
  have h1 : (BitVec.ofInt 64 (a : Int)).toNat = a := by
    rw [BitVec.ofInt_natCast, BitVec.toNat_ofNat]; exact Nat.mod_eq_of_lt (by omega)
  have h2 : (BitVec.ofInt 64 (b : Int)).toNat = b := by
    rw [BitVec.ofInt_natCast, BitVec.toNat_ofNat]; exact Nat.mod_eq_of_lt (by omega)
  show IntKind.i64.wrap ((BitVec.ofInt 64 (a : Int) &&& BitVec.ofInt 64 (b : Int)).toNat : Int) = _
  rw [BitVec.toNat_and, h1, h2]
  exact IntWalk.i64_in _ (by omega)
theorem bit_at (a k : Nat) (ha : a < 1000000) : bits .and .i64 ((a : Int) / 2 ^ k) 1 = bitN (a.testBit k) := by
  have e : (a : Int) / 2 ^ k = ((a / 2 ^ k : Nat) : Int) := by simp
  have h := and_i64 (a / 2 ^ k) 1 (Nat.lt_of_le_of_lt (Nat.div_le_self _ _) ha) (by decide)
  rw [e]
  rw [show ((1 : Nat) : Int) = 1 from rfl] at h
  rw [h, Nat.and_one_is_mod, Nat.testBit_eq_decide_div_mod_eq]
  have h2 : a / 2 ^ k % 2 = 0 ∨ a / 2 ^ k % 2 = 1 := by omega
  rcases h2 with h2 | h2 <;> rw [h2] <;> rfl
set_option maxRecDepth 100000 in
set_option maxHeartbeats 4000000 in
theorem binary_any (a n : Nat) (w : World) (ha : a < 1000000) (h1 : 1 ≤ n) (h2 : n ≤ 64) :
    Calls Tryz.prog 53 #[.int .i64 (a : Int), .int .i64 (n : Int)] w fun e w' => ∃ v, e = .returned v ∧ w'.ownsRow w.heap.size 5 1 v (wid n) (u8s (binL (wid n) a)) ∧ (wid n = 0 → v = .slice none 0 0) ∧ Below w.heap.size w w' := by
  have HW := hid (fun X => width_any n X h1 (by omega))
  have hw6 := (wid_fits h1 h2).2.1
  generalize wid n = W at *
  have HB := hid (fun k => bit_at a k ha)
  go_enter Tryz.func53, Tryz.ntmps53
  go_wp2_with (go_at_call 20; refine (HW.out _).mono ?_; rintro e w1 ⟨rfl, rfl⟩)
  go_loopw [5, 6] (fun v i wr => ∃ (j : Nat) (x : Int), j ≤ W ∧ i = .int .i64 x ∧ Hid (x = (W : Int) - 1 - j) ∧ wr.ownsRow w.heap.size 5 1 v j (u8s ((binL W a).take j)) ∧ (j = 0 → v = .slice none 0 0) ∧ Below w.heap.size w wr) (fun _ i _ => (intOf i + 1).toNat)
  case atStart => exact ⟨0, _, Nat.zero_le _, rfl, hid (by omega), by rw [List.take_zero]; exact World.ownsRow_nil _ _ _ _, fun _ => rfl, Below.refl _ _⟩
  case round =>
    obtain ⟨j, x, hj, rfl, HX, ho, hnil, hb⟩ := hrel
    have HNil := hid hnil
    clear hnil
    have HO := hid ho
    have HBl := hid hb
    have hsz := hb.size
    obtain ⟨av, cv, rfl⟩ := own_slice ho
    clear ho hb
    by_cases hlt : j < W
    · obtain ⟨I, rfl⟩ : ∃ I : Nat, x = I := ⟨x.toNat, by have := HX.out; omega⟩
      have HT := hid (show (binL W a).take (j + 1) = (binL W a).take j ++ [a.testBit I] by rw [binL_take hlt, show W - 1 - j = I by have := HX.out; omega])
      have hand := HB.out I
      have HU := hid (u8s_snoc ((binL W a).take j) (a.testBit I))
      have hB : 0 ≤ bitN (a.testBit I) ∧ bitN (a.testBit I) ≤ 1 := by cases a.testBit I <;> decide
      have HI := hid (show I ≤ 6 by have := HX.out; omega)
      obtain ⟨V, hV⟩ : ∃ V, bitN (a.testBit I) = V := ⟨_, rfl⟩
      rw [hV] at hand hB HU
      have hu8 : IntKind.u8.wrap V = V := by rw [IntKind.wrap_u8]; omega
      have hI6 := HI.out
      clear hV
      go_wp2_with (at_builtin; refine wpList_push wr rfl _ _ 54 rfl w.heap.size 5 (.int .u8 0) 1 1 Tryz.underlying54 Tryz.infoU8 rfl (by decide) (.slice av j cv) j (u8s ((binL W a).take j)) rfl HO.out #[.int .u8 V] rfl (by intro u hu; simp at hu; subst hu; rfl) rfl (by unfold maxLen; omega) (by omega) hsz ?_; intro g cp w3 hown3 hg3 hb3)
      rw [← HU.out, ← HT.out] at hown3
      have HO3 := hid hown3
      have HB3 := hid (HBl.out.trans hb3)
      clear hown3 hg3 hb3 hand hu8
      go_roundw
      case rel => exact ⟨j + 1, _, by omega, rfl, hid (by have := HX.out; omega), HO3.out, fun h => by omega, HB3.out⟩
      case measure => simp [intOf]
    · have hx : x = -1 := by have := HX.out; omega
      subst hx
      go_wp2
      go_ret
      have := HO.out
      rw [show j = W by omega, List.take_of_length_le (by rw [binL_len]; exact Nat.le_refl _)] at this
      exact ⟨_, rfl, by rw [show j = W by omega]; exact this, fun h => HNil.out (by omega), HBl.out⟩
end Go.Proofs.YtcdfghogmdhfcaaGreatDoor

namespace Go.Proofs.YtcdfghogmdhfcaaGreatDoor
open Go.RowKit Go.Deep
set_option linter.unusedVariables false

theorem step_append_nil {P : Program} {ops : Array Oper} {o : Oper} {a : Act} {K : Act → World → Prop} {Q : Exit → Act → World → Prop} {E : Prop} {W : World} (hgd : o.guard = none) (s x : Operand) (t : TypeId)
    (ho : o.op = .call { callee := .builtin .append, args := #[s, x], argTypes := #[t, t] })
    (base : Nat) (e : TypeId) (z : Value) (size bytes : Nat) (ht : P.underlying t = some (.slice e)) (hinfo : (P.info? e).map (fun i => (i.zero, i.size, i.bytes)) = some (some z, size, bytes))
    (v : Value) (n : Nat) (xs : List Value) (hs : a.eval s = v) (hown : W.ownsRow base e size v n xs) (hx : a.eval x = .slice none 0 0)
    (h : K (a.put o.dst v) W) : if Region.wanted o (yielded ops a.tmps) = true then Oper.wp P o a W K Q else E := by
  obtain ⟨i, hi, _⟩ := info_parts hinfo
  have hw : Region.wanted o (yielded ops a.tmps) = true := by simp [Region.wanted, hgd]
  rw [if_pos hw]
  have hrun := run_append_owned_none (P := P) (w := W) base t o.type e i size ht hi v n xs hown
  unfold Oper.wp
  simp [execOp, ho, resolve, invoke, builtin, hs, hx, hrun, Result.andThen]
  exact h
/-- '[]byte(x)'. -/
theorem conv_bytes (w : World) (x : ByteArray) (hx : x.size ≤ maxLen) : ∃ w' cap, (convert 9 54 (.string x)).run Tryz.prog w = .ok (.slice (some ⟨w.heap.size, 0, none⟩) x.size cap) w' ∧ Below w.heap.size w w' ∧ w.heap.size < w'.heap.size ∧ x.size ≤ cap ∧ cap ≤ maxLen ∧
    ∀ (j : Nat) (c : UInt8), x.data.toList[j]? = some c → w'.cell? ⟨w.heap.size, j, none⟩ = some (.int .u8 (c.toNat : Int)) := by
  refine ⟨_, _, Lib.run_convert_string_bytes (P := Tryz.prog) w 9 54 5 x Tryz.underlying9 Tryz.underlying54 Tryz.underlying5, ?_, by rw [Lib.bytesWorld_size]; omega, grownCap_ge _ _ _ _, grownCap_le_maxLen _ _ _ _ hx, ?_⟩
  · exact ⟨rfl, rfl, rfl, by rw [Lib.bytesWorld_size]; omega, fun k hk => Lib.bytesWorld_at_old w _ x k hk⟩
  · intro j c hc
    have hl := lt_of_some hc
    rw [ba_len] at hl
    rw [Lib.bytesWorld_cell w _ x j hl, List.getD_eq_getElem?_getD, hc]
    rfl
def cellPre (q n : Nat) (c : Cl) (k : Nat) : List Bool := binL (wid n) c.st.toNat ++ (c.word.data.toList.take k).flatMap fun ch => binL (wid q) (dig ch)
theorem cellPre_len (q n : Nat) (c : Cl) {k : Nat} (h : k ≤ c.word.size) : (cellPre q n c k).length = wid n + k * wid q := by
  unfold cellPre
  rw [List.length_append, binL_len, flat_len _ _ (wid q) (fun a _ => binL_len _ _), List.length_take, ba_len, Nat.min_eq_left h]
theorem cellPre_succ {q n : Nat} {c : Cl} {k : Nat} {ch : UInt8} (h : c.word.data.toList[k]? = some ch) : cellPre q n c (k + 1) = cellPre q n c k ++ binL (wid q) (dig ch) := by
  unfold cellPre
  rw [take_snoc h, List.flatMap_append, ← List.append_assoc]
  simp
theorem u8s_app (l r : List Bool) : u8s (l ++ r) = u8s l ++ u8s r := by simp [u8s]
set_option maxRecDepth 100000 in
set_option maxHeartbeats 4000000 in
theorem cell_any (q n : Nat) (bl inp : Int) (ao : Option Addr) (cap : Nat) (c : Cl) (w : World) (hq1 : 1 ≤ q) (hq : q ≤ 16) (hn1 : 1 ≤ n) (hn : n ≤ 64) (hs0 : 0 ≤ c.st) (hs1 : c.st < 1000) (hwd : wordErr (q : Int) c.word = 0) (hsz : c.word.size ≤ 16) :
    Calls Tryz.prog 22 #[.agg #[.int .i64 (q : Int), .int .i64 bl, .int .i64 inp, .slice ao n cap], .agg #[.int .i64 c.st, .string c.word]] w fun e w' => ∃ v, e = .returned v ∧ w'.ownsRow w.heap.size 5 1 v (cellBits q n c).length (u8s (cellBits q n c)) ∧ Below w.heap.size w w' := by
  obtain ⟨st, hst⟩ : ∃ st : Nat, c.st = st := ⟨c.st.toNat, by omega⟩
  have HBn := hid (fun X => binary_any st n X (by omega) hn1 hn)
  have HBq := hid (fun d X (hd : d < 1000000) => binary_any d q X hd hq1 (by omega))
  have HW := hid (wordErr_zero.1 hwd).2.2.2
  have HC0 := hid (show cellPre q n c 0 = binL (wid n) st by unfold cellPre; rw [hst]; simp)
  have hwn := (wid_fits hn1 (by omega)).2.1
  have hwq := (wid_fits hq1 (by omega)).2.2.1 hq
  have HPl := hid (fun k h => cellPre_len q n c (k := k) h)
  have HPs := hid (fun k ch h => cellPre_succ (q := q) (n := n) (c := c) (k := k) (ch := ch) h)
  have HEnd := hid (show cellPre q n c c.word.size = cellBits q n c by unfold cellPre cellBits; rw [List.take_of_length_le (by rw [ba_len]; exact Nat.le_refl _)])
  rw [hst]
  clear hst hs0 hs1 hwd
  generalize wid n = WN at *
  generalize wid q = WQ at *
  generalize c.word = wd at *
  go_enter Tryz.func22, Tryz.ntmps22
  go_upto_region 1 with fail
  obtain ⟨w0, hw0⟩ : ∃ w0, (w.alloc (.cells #[.int .i64 (q : Int), .int .i64 bl, .int .i64 inp, .slice ao n cap] 24)).alloc (.cells #[.int .i64 (st : Int), .string wd] 45) = w0 := ⟨_, rfl⟩
  have hb0 : Below w.heap.size w w0 := by rw [← hw0]; exact (bel_alloc _ _).alloc (by simp) _
  have c0 : w0.cell? ⟨w.heap.size, 0, none⟩ = some (.int .i64 (q : Int)) := by rw [← hw0]; simp
  have c3 : w0.cell? ⟨w.heap.size, 3, none⟩ = some (.slice ao n cap) := by rw [← hw0]; simp
  have y0 : w0.cell? ⟨w.heap.size + 1, 0, none⟩ = some (.int .i64 (st : Int)) := by rw [← hw0]; simp
  have y1 : w0.cell? ⟨w.heap.size + 1, 1, none⟩ = some (.string wd) := by rw [← hw0]; simp
  rw [hw0]
  have HB0 := hid hb0
  have HSz := hid (show w.heap.size < w0.heap.size by rw [← hw0]; simp; omega)
  clear hw0 hb0
  go_upto_region 2 with (go_at_call 53; refine (HBn.out _).mono ?_; rintro e w1 ⟨v1, rfl, ho1, _, hb1⟩; have c0 := keeps hb1 c0; have y1 := keeps hb1 y1; have HB1 := hid (bel_step HB0.out hb1); have HO1 := hid ho1; have HSs := hid hb1.size; have HLt1 := hid (show ∀ g, v1.ownBlock = some g → g < w1.heap.size from fun g hg => (Array.getElem?_eq_some_iff.1 (own_block ho1 hg).2.choose_spec).1); clear ho1 hb1)
  clear c3 y0
  obtain ⟨w2, cp, hconv, hb2, hlt2, hcap1, hcap2, hcell⟩ := conv_bytes w1 wd (by unfold maxLen; omega)
  have HB2 := hid (bel_step HB1.out hb2)
  have HO2 := hid (own_below HO1.out hb2)
  have HC2 := hid (keeps hb2 c0)
  have HCe := hid hcell
  clear hcell hb2 c0
  have HB1s := hid (show w0.heap.size ≤ w1.heap.size from HSs.out)
  go_upto_region 3 with fail
  clear hconv y1
  obtain ⟨i0, hi, hz0, hz1, hz2⟩ := info_parts Tryz.infoU8
  go_loopw [5, 18] (fun v i wr => ∃ k : Nat, k ≤ wd.size ∧ i = .int .i64 (k : Int) ∧ wr.ownsRow w0.heap.size 5 1 v (cellPre q n c k).length (u8s (cellPre q n c k)) ∧ Hid (v.ownBlock ≠ some w1.heap.size) ∧ Hid (∀ (j : Nat) (ch : UInt8), wd.data.toList[j]? = some ch → wr.cell? ⟨w1.heap.size, j, none⟩ = some (.int .u8 (ch.toNat : Int))) ∧ wr.cell? ⟨w.heap.size, 0, none⟩ = some (.int .i64 (q : Int)) ∧ w1.heap.size < wr.heap.size ∧ Below w.heap.size w wr) (fun _ i _ => wd.size - (intOf i).toNat)
  case atStart => exact ⟨0, Nat.zero_le _, rfl, by rw [HC0.out, binL_len]; exact HO2.out, hid (fun e => Nat.lt_irrefl _ (HLt1.out _ e)), HCe, HC2.out, hlt2, HB2.out⟩
  case round =>
    obtain ⟨k, hk, rfl, ho, HNe, HCv, c0, hltx, hb⟩ := hrel
    have HB := hid hb
    have HOt := hid ho
    have HLx := hid hltx
    obtain ⟨av, cv, rfl⟩ := own_slice ho
    clear hb ho hltx
    rename World => wr
    by_cases hlt : k < wd.size
    · obtain ⟨ch, hch⟩ := some_of_lt (l := wd.data.toList) (k := k) (by rw [ba_len]; exact hlt)
      have cb := HCv.out k ch hch
      obtain ⟨hd1, hd2, hd3⟩ := dig_lt HW.out hch
      have HI := hid (fun X => ib_letters ch X)
      rw [hd2] at HI
      have HP2 := hid (HPs.out k ch hch)
      have hM := HPl.out k hk
      have hkq : k * WQ ≤ 16 * 4 := Nat.mul_le_mul (by omega) hwq
      have hM2 : (cellPre q n c k).length ≤ 100 := by omega
      have c0x := hid c0
      have HM3 := hid (show (cellPre q n c (k + 1)).length = (cellPre q n c k).length + WQ by rw [HP2.out, List.length_append, binL_len])
      have hd4 : dig ch < 1000000 := by omega
      clear hch hd1 hd2 hd3 hM hkq
      generalize hPre : cellPre q n c k = PR at *
      generalize dig ch = D at *
      clear hPre
      have hbase : w0.heap.size ≤ wr.heap.size := by have := HB1s.out; have := HLx.out; omega
      by_cases hW0 : WQ = 0
      · have HE := hid (show u8s (cellPre q n c (k + 1)) = u8s PR by rw [HP2.out, u8s_app, show binL WQ D = [] from by rw [hW0]; rfl]; simp [u8s])
        have HM4 := hid (show (cellPre q n c (k + 1)).length = PR.length by rw [HM3.out]; omega)
        go_upto_region 5 with fail
        go_region_held3 (fun w' => w'.cell? ⟨w.heap.size, 0, none⟩ = some (.int .i64 (q : Int))) (first | exact c0 | go_keep) (first
          | (go_at_call 54; refine (HI.out _).mono ?_; rintro e w5 ⟨rfl, rfl⟩)
          | (go_at_call 53; refine (HBq.out _ _ hd4).mono ?_; rintro e w6 ⟨v2, rfl, _, hv2, hb2⟩; obtain rfl := hv2 hW0; have c0 := keeps hb2 c0; have HB6 := hid (show Below wr.heap.size wr w6 from (below_drewN (Below.refl _ _) 1).trans hb2); have HO6 := hid (own_below HOt.out HB6.out); clear hb2)
          | (refine step_append_nil (by rfl) _ _ 54 (by rfl) w0.heap.size 5 (.int .u8 0) 1 1 Tryz.underlying54 Tryz.infoU8 (.slice av PR.length cv) PR.length (u8s PR) (by rfl) HO6.out (by rfl) ?_))
        all_goals
          have c06 := keeps HB6.out c0x.out
          go_wp2
          go_roundw
          case rel => exact ⟨k + 1, by omega, by go_num, by rw [HE.out, HM4.out]; exact HO6.out, HNe, hid (fun j x hj => keeps HB6.out (HCv.out j x hj)), c06, Nat.lt_of_lt_of_le HLx.out HB6.out.size, HB.out.trans (HB6.out.mono HB.out.size)⟩
          case measure => simp [intOf]; omega
      · have HE := hid (show u8s (cellPre q n c (k + 1)) = u8s PR ++ u8s (binL WQ D) by rw [HP2.out, u8s_app])
        have HNl := hid (show (u8s (binL WQ D)).length = WQ * 1 by rw [u8s_len, binL_len, Nat.mul_one])
        go_upto_region 5 with fail
        go_region_held3 (fun w' => w'.cell? ⟨w.heap.size, 0, none⟩ = some (.int .i64 (q : Int))) (first | exact c0 | go_keep) (first
          | (go_at_call 54; refine (HI.out _).mono ?_; rintro e w5 ⟨rfl, rfl⟩)
          | (go_at_call 53; refine (HBq.out _ _ hd4).mono ?_; rintro e w6 ⟨v2, rfl, ho2, _, hb2⟩; obtain ⟨g2, cp2, rfl, hg2b, hg2l⟩ := ho2.form (by omega); have c0 := keeps hb2 c0; have HB6 := hid (show Below wr.heap.size wr w6 from (below_drewN (Below.refl _ _) 1).trans hb2); have HO6 := hid (own_below HOt.out HB6.out); have HN6 := hid (fun j u h => ho2.cells (g := g2) rfl j u h); clear ho2 hb2)
          | (refine step_append_lies _ (by rfl) _ _ 54 (by rfl) w0.heap.size 5 i0 (.int .u8 0) 1 1 Tryz.underlying54 hi hz0 hz1 hz2 rfl (by decide) (.slice av PR.length cv) PR.length (u8s PR) (by rfl) HO6.out ⟨g2, 0, none⟩ WQ cp2 (u8s (binL WQ D)) (by rfl) HNl.out HN6.out (u8s_one _) (by omega) (by unfold maxLen; omega) (by omega) (Nat.le_trans hbase HB6.out.size) _ rfl ?_; intro g cp w7 hown7 hg7 hat7 hlt7; have HO7 := hid hown7; have HG7 := hid hg7; have HA7 := hid hat7; have c0 := hg7.cell c0 (row_ne_low53 HO6.out HSz.out); clear hown7 hg7 hat7))
        all_goals
          have HCv7 := hid (fun (j : Nat) (x : UInt8) hj => HG7.out.cell (keeps HB6.out (HCv.out j x hj)) (fun e => HNe.out e.symm))
          have HNe7 := hid (show (Value.slice (some ⟨g, 0, none⟩) (PR.length + WQ) cp).ownBlock ≠ some w1.heap.size from fun e => by
            have e' : g = w1.heap.size := by simpa [Value.ownBlock] using e
            rcases HA7.out with h | h
            · exact HNe.out (by rw [h, e'])
            · have := HLx.out; have := HB6.out.size; omega)
          have HB7 := hid ((HB.out.trans (HB6.out.mono HB.out.size)).grown HG7.out (Nat.le_trans HB.out.size HB6.out.size) (fun kk hkk => by have := (own_block HO6.out hkk).1; have := HSz.out; omega))
          clear hlt7
          go_wp2
          go_roundw
          case rel => exact ⟨k + 1, by omega, by go_num, by rw [HE.out, HM3.out]; exact HO7.out, HNe7, HCv7, c0, Nat.lt_of_lt_of_le HLx.out (Nat.le_trans HB6.out.size HG7.out.size), HB7.out⟩
          case measure => simp [intOf]; omega
    · obtain rfl : k = wd.size := by omega
      go_wp2
      go_ret
      exact ⟨_, rfl, by rw [← HEnd.out]; exact own_base HOt.out HB0.out.size, HB.out⟩
end Go.Proofs.YtcdfghogmdhfcaaGreatDoor

namespace Go.Proofs.YtcdfghogmdhfcaaGreatDoor
open Go.RowKit Go.Deep
set_option linter.unusedVariables false

theorem numB_snoc : ∀ (l : List Bool) (b : Bool), numB (l ++ [b]) = 2 * numB l + (bitN b).toNat
  | [], b => by cases b <;> decide
  | a :: r, b => by
    rw [List.cons_append, numB, numB, numB_snoc r b]
    cases a <;> simp [Nat.pow_succ] <;> omega
theorem numB_take_lt (l : List Bool) (k : Nat) (h : l.length ≤ 30) : numB (l.take k) < 1073741824 := by
  have h1 := numB_lt (l.take k)
  have h2 : 2 ^ (l.take k).length ≤ 2 ^ 30 := Nat.pow_le_pow_right (by decide) (by rw [List.length_take]; omega)
  omega
set_option maxRecDepth 100000 in
set_option maxHeartbeats 4000000 in
theorem number_any (v : Value) (l : List Bool) (w : World) (hl : Sl 1 w v l.length (u8s l)) (h30 : l.length ≤ 30) :
    Calls Tryz.prog 63 #[v] w fun e w' => e = .returned (.int .i64 (numB l : Int)) ∧ w = w' := by
  have HL := hid hl
  obtain ⟨ao, cap, rfl, _, hc1, hc2, _⟩ := hl
  generalize hn : l.length = n at *
  go_enter Tryz.func63, Tryz.ntmps63
  go_upto_region 3 with fail
  go_wp2_with fail
  go_loopw [3, 8] (fun x i wr => ∃ k : Nat, k ≤ n ∧ i = .int .i64 (k : Int) ∧ x = .int .i64 ((numB (l.take k) : Nat) : Int) ∧ w = wr) (fun _ i _ => n - (intOf i).toNat)
  case atStart => exact ⟨0, Nat.zero_le _, rfl, rfl, rfl⟩
  case round =>
    obtain ⟨k, hk, rfl, rfl, rfl⟩ := hrel
    by_cases hlt : k < n
    · obtain ⟨b, o, rfl, c1⟩ := HL.out.cell (u8s_get (by rw [hn]; exact hlt))
      have hbd := numB_take_lt l k (by omega)
      have hs := numB_snoc (l.take k) (l.getD k false)
      rw [← take_snoc (show l[k]? = some (l.getD k false) by simp [hn, hlt])] at hs
      have hV : 0 ≤ bitN (l.getD k false) ∧ bitN (l.getD k false) ≤ 1 := by cases l.getD k false <;> decide
      have HS := hid hs
      clear hs
      generalize bitN (l.getD k false) = VB at *
      generalize numB (l.take k) = A at *
      have hm : IntKind.i64.wrap (2 * (A : Int)) = 2 * (A : Int) := IntWalk.i64_in _ (by omega)
      have hw2 : IntKind.i64.wrap VB = VB := IntWalk.i64_in _ (by omega)
      have ha : IntKind.i64.wrap (2 * (A : Int) + VB) = ((2 * A + VB.toNat : Nat) : Int) := (IntWalk.i64_in _ (by omega)).trans (by omega)
      go_wp2
      go_roundw
      case rel => exact ⟨k + 1, by omega, by go_num, by rw [HS.out]; go_num, trivial⟩
      case measure => simp [intOf]; omega
    · obtain rfl : n = k := by omega
      have hx : numB (l.take n) = numB l := by rw [← hn, List.take_length]
      rw [hx]
      go_wp2
      go_ret
      exact ⟨rfl, rfl⟩
end Go.Proofs.YtcdfghogmdhfcaaGreatDoor

namespace Go.Proofs.YtcdfghogmdhfcaaGreatDoor
open Go.RowKit Go.Deep
set_option linter.unusedVariables false

set_option maxRecDepth 100000 in
set_option maxHeartbeats 4000000 in
theorem grow_any (n : Nat) (w : World) (hn : n ≤ 1000000) :
    Calls Tryz.prog 93 #[.slice none 0 0, .int .i64 (n : Int)] w fun e w' => ∃ v, e = .returned v ∧ w'.ownsRow w.heap.size 5 1 v 0 [] ∧ Below w.heap.size w w' := by
  obtain ⟨i0, hi, hz0, hz1, hz2⟩ := info_parts Tryz.infoU8
  by_cases h0 : n = 0
  · subst h0
    go_enter Tryz.func93, Tryz.ntmps93
    go_wp2
    go_ret
    exact ⟨_, rfl, World.ownsRow_nil _ _ _ _, Below.refl _ _⟩
  · have hz : IntKind.i64.wrap ((n : Int) - 0) = (n : Int) := (IntWalk.i64_in _ (by omega)).trans (by omega)
    have happ := Lib.run_append_nil_zeros (P := Tryz.prog) w 54 3 54 5 i0 (.int .u8 0) .i64 .i64 Tryz.underlying54 Tryz.underlying3 hi hz0 n (by omega) (by omega) (by omega) (by rw [hz2]; omega)
    have hge := grownCap_ge w n 0 5
    have hle := grownCap_le_maxLen w n 0 5 (by unfold maxLen; omega)
    have hle2 : grownCap w n 0 5 ≤ 9223372036854775807 := hle
    have hown := World.ownsRow_made (e := 5) (size := 1) (base := w.heap.size) w.drew (Builtin.zeroCells (Value.int .u8 0).cells n ++ Builtin.zeroCells (Value.int .u8 0).cells (grownCap w n 0 5 - n)) (grownCap w n 0 5) (Nat.le_refl _) hle (by
      rw [Array.size_append, size_zeroCells, size_zeroCells]
      show n * 1 + (grownCap w n 0 5 - n) * 1 = grownCap w n 0 5 * 1
      omega)
    have hbel : Below w.heap.size w (w.drew.alloc (.cells (Builtin.zeroCells (Value.int .u8 0).cells n ++ Builtin.zeroCells (Value.int .u8 0).cells (grownCap w n 0 5 - n)) 5)) := by
      have hb : Below w.heap.size w w.drew := below_drewN (Below.refl _ _) 1
      exact hb.trans (bel_alloc w.drew _)
    have HOw := hid hown
    have HBe := hid hbel
    clear hown hbel hle
    generalize Builtin.zeroCells (Value.int .u8 0).cells n ++ Builtin.zeroCells (Value.int .u8 0).cells (grownCap w n 0 5 - n) = CS at *
    generalize grownCap w n 0 5 = CP at *
    go_enter Tryz.func93, Tryz.ntmps93
    go_wp2_with (at_builtin; refine Lib.wpList_append_run _ rfl _ _ _ _ rfl _ _ rfl rfl _ _ happ ?_)
    go_ret
    exact ⟨_, rfl, HOw.out, HBe.out⟩
/-- The pieces joined. -/
def joinK (L : Nat → List Bool) : Nat → List Bool
  | 0 => []
  | k + 1 => joinK L k ++ L k
theorem joinK_len (L : Nat → List Bool) (h : ∀ k, (L k).length ≤ 30) : ∀ k, (joinK L k).length ≤ 30 * k
  | 0 => by simp [joinK]
  | k + 1 => by
    have := joinK_len L h k
    have := h k
    rw [joinK, List.length_append]
    omega
set_option maxRecDepth 100000 in
set_option maxHeartbeats 4000000 in
theorem concat_any (s : Nat) (V : Nat → Value) (L : Nat → List Bool) (w : World) (hs : ∀ k < 2, w.cell? ⟨s, k, none⟩ = some (V k)) (hV : ∀ k, Sl 1 w (V k) (L k).length (u8s (L k))) (hnil : ∀ k, (L k).length = 0 → V k = .slice none 0 0) (h30 : ∀ k, (L k).length ≤ 30) :
    Calls Tryz.prog 62 #[.slice (some ⟨s, 0, none⟩) 2 2] w fun e w' => ∃ v, e = .returned v ∧ w'.ownsRow w.heap.size 5 1 v (joinK L 2).length (u8s (joinK L 2)) ∧ Below w.heap.size w w' := by
  have HS := hid hs
  have HV := hid hV
  have HNil := hid hnil
  have H30 := hid h30
  have HJ := hid (joinK_len L h30)
  have HGr := hid (fun n X (h : n ≤ 1000000) => grow_any n X h)
  obtain ⟨i0, hi, hz0, hz1, hz2⟩ := info_parts Tryz.infoU8
  have HI := hid (And.intro hi (And.intro hz0 (And.intro hz1 hz2)))
  clear hs hV hnil h30 hi hz0 hz1 hz2
  go_enter Tryz.func62, Tryz.ntmps62
  go_wp2_with fail
  go_loopw [3, 11] (fun x i wr => ∃ k : Nat, k ≤ 2 ∧ i = .int .i64 (k : Int) ∧ x = .int .i64 (((joinK L k).length : Nat) : Int) ∧ w = wr) (fun _ i _ => 2 - (intOf i).toNat)
  case atStart => exact ⟨0, Nat.zero_le _, rfl, rfl, rfl⟩
  case round =>
    obtain ⟨k, hk, rfl, rfl, rfl⟩ := hrel
    by_cases hlt : k < 2
    · have c1 := HS.out k hlt
      obtain ⟨ao, cp, hv, _, hc1, hc2, _⟩ := HV.out k
      rw [hv] at c1
      clear hv
      have h3 := H30.out k
      have hj := HJ.out k
      have hl : (joinK L (k + 1)).length = (joinK L k).length + (L k).length := by rw [joinK, List.length_append]
      have HL := hid hl
      clear hl
      generalize (joinK L k).length = A at *
      generalize (L k).length = B at *
      have ha : IntKind.i64.wrap ((A : Int) + (B : Int)) = ((A + B : Nat) : Int) := (IntWalk.i64_in _ (by omega)).trans (by omega)
      go_wp2
      go_roundw
      case rel => exact ⟨k + 1, by omega, by go_num, by rw [HL.out]; go_num, trivial⟩
      case measure => simp [intOf]; omega
    · obtain rfl : k = 2 := by omega
      have hj := HJ.out 2
      go_upto_region 10 with (go_at_call 93; refine (HGr.out _ _ (by omega)).mono ?_; rintro e w1 ⟨v1, rfl, ho1, hb1⟩)
      have HO1 := hid ho1
      have HB1 := hid hb1
      clear ho1 hb1
      go_wp2_with fail
      go_loopw [6, 27] (fun x i wr => ∃ k : Nat, k ≤ 2 ∧ i = .int .i64 (k : Int) ∧ Hid (wr.ownsRow w.heap.size 5 1 x (joinK L k).length (u8s (joinK L k))) ∧ Hid (Below w.heap.size w wr)) (fun _ i _ => 2 - (intOf i).toNat)
      case atStart => exact ⟨0, Nat.zero_le _, rfl, HO1, HB1⟩
      case round =>
        obtain ⟨k, hk, rfl, HO, HB⟩ := hrel
        rename World => wm
        by_cases hlt : k < 2
        · have c1 := keeps HB.out (HS.out k hlt)
          have hsl := (HV.out k).below HB.out
          have h3 := H30.out k
          have hjk := HJ.out k
          have hbase : w.heap.size ≤ wm.heap.size := HB.out.size
          have HJe := hid (show u8s (joinK L (k + 1)) = u8s (joinK L k) ++ u8s (L k) by rw [joinK]; unfold u8s; rw [List.map_append])
          have HJl := hid (show (joinK L (k + 1)).length = (joinK L k).length + (L k).length by rw [joinK, List.length_append])
          by_cases h0 : (L k).length = 0
          · rw [HNil.out k h0] at c1
            have HOe := hid (show wm.ownsRow w.heap.size 5 1 _ (joinK L (k + 1)).length (u8s (joinK L (k + 1))) by rw [HJe.out, HJl.out, h0, List.length_eq_zero_iff.1 h0, show u8s [] = [] from rfl, List.append_nil]; exact HO.out)
            clear hsl
            go_wp2_with (at_builtin; refine wpList_append_own_none rfl _ _ 54 rfl w.heap.size 5 i0 1 Tryz.underlying54 HI.out.1 _ _ _ rfl HO.out rfl ?_)
            go_roundw
            case rel => exact ⟨k + 1, by omega, by go_num, HOe, HB⟩
            case measure => simp [intOf]; omega
          · obtain ⟨ao, cp, hv, _, hc1, hc2, h4⟩ := hsl
            rcases h4 with h4 | ⟨b, o, rfl, hc⟩
            · exact absurd h4 h0
            rw [hv] at c1
            have HNw := hid (fun (j : Nat) (u : Value) (hj : (u8s (L k))[j]? = some u) => show wm.cell? ((⟨b, o, none⟩ : Addr).add j) = some u by
              rw [Addr.add_lit]
              exact hc j u hj)
            clear hv hc
            have hul : (u8s (L k)).length = (L k).length * 1 := by rw [u8s_len, Nat.mul_one]
            have h1s := u8s_one (L k)
            go_wp2_with (at_builtin; go_loud (refine wpList_append_own _ rfl _ _ 54 rfl w.heap.size 5 i0 (.int .u8 0) 1 1 Tryz.underlying54 HI.out.1 HI.out.2.1 HI.out.2.2.1 HI.out.2.2.2 rfl (by decide) _ _ _ rfl HO.out ⟨b, o, none⟩ (L k).length cp (u8s (L k)) rfl hul HNw.out h1s (by unfold maxLen; omega) (by omega) hbase ?_); intro v2 w2 ho2 hg2 _; have HO2 := hid ho2; have HB2 := hid (HB.out.grown hg2 hbase (fun q hq => (HO.out.lt q hq).1)); clear ho2 hg2)
            go_roundw
            case rel => exact ⟨k + 1, by omega, by go_num, hid (by rw [HJe.out, HJl.out]; exact HO2.out), HB2⟩
            case measure => simp [intOf]; omega
        · obtain rfl : k = 2 := by omega
          go_wp2
          go_ret
          exact ⟨_, rfl, HO.out, HB.out⟩
/-- Two rows. -/
theorem concat2_any (s : Nat) (va vb : Value) (la lb : List Bool) (w : World) (h0 : w.cell? ⟨s, 0, none⟩ = some va) (h1 : w.cell? ⟨s, 1, none⟩ = some vb) (hA : Sl 1 w va la.length (u8s la)) (hB : Sl 1 w vb lb.length (u8s lb)) (nA : la.length = 0 → va = .slice none 0 0) (nB : lb.length = 0 → vb = .slice none 0 0) (lA : la.length ≤ 30) (lB : lb.length ≤ 30) :
    Calls Tryz.prog 62 #[.slice (some ⟨s, 0, none⟩) 2 2] w fun e w' => ∃ v, e = .returned v ∧ w'.ownsRow w.heap.size 5 1 v (la ++ lb).length (u8s (la ++ lb)) ∧ Below w.heap.size w w' := by
  have h := concat_any s (fun k => if k = 0 then va else vb) (fun k => if k = 0 then la else lb) w (fun k hk => by
    have : k = 0 ∨ k = 1 := by omega
    rcases this with rfl | rfl
    · exact h0
    · exact h1) (fun k => by
    by_cases e : k = 0
    · simp only [if_pos e]; exact hA
    · simp only [if_neg e]; exact hB) (fun k => by
    by_cases e : k = 0
    · simp only [if_pos e]; exact nA
    · simp only [if_neg e]; exact nB) (fun k => by
    by_cases e : k = 0
    · simp only [if_pos e]; exact lA
    · simp only [if_neg e]; exact lB)
  have e : joinK (fun k => if k = 0 then la else lb) 2 = la ++ lb := by simp [joinK]
  rw [e] at h
  exact h
end Go.Proofs.YtcdfghogmdhfcaaGreatDoor
