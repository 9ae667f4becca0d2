/-
  The reference of layer 19: Great and Columns.
  No condition beyond the rows being at most 1000.
-/
import Derived.Test.YtppflnkadjddiaaRefStrip
import Derived.Test.YtppflnkadjddiaaValid
namespace Go.Proofs.Ytppflnkadjddiaa
open Go.RowKit
set_option linter.unusedVariables false

def bigRow (r : ByteArray) : Bool := (decide (24 < r.size) && decide (r.size ≤ 65536)) || decide (65544 < r.size)
def greatB (rows : List ByteArray) : Bool := rows.any bigRow || decide (6 < rows.length)
def anyBig (rows : List ByteArray) : Bool := rows.any bigRow

set_option maxRecDepth 100000 in
set_option maxHeartbeats 2000000 in
theorem refGreat_any (v : Value) (rows : List ByteArray) (w : World) (hl : Sl 1 w v rows.length (strs rows)) :
    Calls Try.prog 18 #[v] w fun e w' => e = .returned (.bool (greatB rows)) ∧ w = w' := by
  obtain ⟨ao, cap, rfl, _, _, hm1, _⟩ := id hl
  have HL := hid hl
  clear hl
  go_enter Try.func18, Try.ntmps18
  go_wp2
  go_loop [3] (fun i => ∃ k : Nat, k ≤ rows.length ∧ i = .int .i64 k ∧ Hid (anyBig rows = anyBig (rows.drop k))) (fun i => rows.length - (intOf i).toNat)
  case atStart => exact ⟨0, Nat.zero_le _, rfl, hid rfl⟩
  case round =>
    obtain ⟨k, hk, rfl, HE⟩ := hrel
    by_cases hlt : k < rows.length
    · obtain ⟨r, hr⟩ := some_of_lt hlt
      obtain ⟨b, o, rfl, c1⟩ := HL.out.cell (strs_get hr)
      have HR := hid (drop_cons hr)
      clear hr
      by_cases h24 : 24 < r.size
      · by_cases h65 : r.size ≤ 65536
        · have HB := hid (show bigRow r = true by simp [bigRow, h24, h65])
          go_wp2
          go_ret
          refine ⟨ret_bool ?_, rfl⟩
          have := HE.out
          unfold anyBig at this
          rw [greatB, this, HR.out, List.any_cons, HB.out]; rfl
        · by_cases hbig : 65544 < r.size
          · have HB := hid (show bigRow r = true by simp [bigRow, hbig])
            go_wp2
            go_ret
            refine ⟨ret_bool ?_, rfl⟩
            have := HE.out
            unfold anyBig at this
            rw [greatB, this, HR.out, List.any_cons, HB.out]; rfl
          · have HB := hid (show bigRow r = false by simp [bigRow, hbig, h65])
            go_wp2
            go_round
            case rel => exact ⟨k + 1, by omega, by go_num, hid (by rw [HE.out, anyBig, HR.out, List.any_cons, HB.out, anyBig, Bool.false_or])⟩
            case measure => simp [intOf]; omega
      · have h3 : r.size ≤ 24 := by omega
        have HB := hid (show bigRow r = false by simp [bigRow, h24]; omega)
        go_wp2
        go_round
        case rel => exact ⟨k + 1, by omega, by go_num, hid (by rw [HE.out, anyBig, HR.out, List.any_cons, HB.out, anyBig, Bool.false_or])⟩
        case measure => simp [intOf]; omega
    · go_wp2
      go_ret
      refine ⟨ret_bool ?_, rfl⟩
      have := HE.out
      rw [drop_all (by omega)] at this
      have h2 : rows.any bigRow = false := this
      rw [greatB, h2, Bool.false_or]
      simp; omega

theorem sameLen_first {rows : List ByteArray} {r0 : ByteArray} (h0 : rows[0]? = some r0) : sameLen r0.size (rows.take 1) = true := by
  cases rows with
  | nil => simp at h0
  | cons a t => simp at h0; subst h0; simp [sameLen]
theorem width_first {rows : List ByteArray} {r0 : ByteArray} (h0 : rows[0]? = some r0) : width rows = r0.size := by
  cases rows with
  | nil => simp at h0
  | cons a t => simp at h0; subst h0; rfl
theorem sameLen_snoc {n : Nat} {rows : List ByteArray} {k : Nat} {r : ByteArray} (hr : rows[k]? = some r) : sameLen n (rows.take (k + 1)) = (sameLen n (rows.take k) && r.size == n) := by rw [take_snoc hr]; simp [sameLen]
theorem sameLen_false {n : Nat} {rows : List ByteArray} {k : Nat} {r : ByteArray} (hr : rows[k]? = some r) (h : ¬ r.size = n) : sameLen n rows = false := by
  rw [sameLen, List.all_eq_false]
  exact ⟨r, List.mem_of_getElem? hr, by simpa using h⟩
theorem bitRow_false {r : ByteArray} {k : Nat} (hk : k < r.size) (h : isBit (r[k]'hk) = false) : bitRow r = false := by
  rw [bitRow, List.all_eq_false]
  refine ⟨r[k]'hk, ?_, by simp [h]⟩
  have : r.data.toList[k]? = some (r[k]'hk) := by rw [List.getElem?_eq_getElem (by simpa using hk)]; rfl
  exact List.mem_of_getElem? this
theorem byte_ne {c d : UInt8} (h : ¬ c = d) : ((c.toNat : Int) == (d.toNat : Int)) = false := by
  rw [beq_eq_false_iff_ne]
  intro e
  exact h (UInt8.toNat_inj.1 (by omega))
theorem rowBits {r : ByteArray} {k : Nat} (hk : k < r.size) : (r.data.toList.take (k + 1)).all isBit = ((r.data.toList.take k).all isBit && isBit (r[k]'hk)) := by
  have : r.data.toList[k]? = some (r[k]'hk) := by rw [List.getElem?_eq_getElem (by simpa using hk)]; rfl
  rw [take_snoc this, List.all_append]; simp

theorem colsPost_errD {rows : List ByteArray} {w w' : World} {n : Int} (h : colsErr rows = n) (hn : n ≠ 0) (hd : Dr w w') : ColsPost rows w (.returned (.tuple #[.slice none 0 0, .int .i64 n])) w' := by
  have hL : colsL rows = [] := by rw [colsL, if_neg (by rw [h]; exact hn)]
  exact ⟨_, by rw [h], by rw [hL]; exact World.ownsRow_nil _ _ _ _, hd.below _⟩

set_option maxRecDepth 100000 in
set_option maxHeartbeats 8000000 in
theorem refColumns_any (v : Value) (rows : List ByteArray) (w : World) (hl : Sl 1 w v rows.length (strs rows)) (hn : rows.length ≤ 1000) :
    Calls Try.prog 19 #[v] w (ColsPost rows w) := by
  by_cases hE : 1 ≤ rows.length ∧ rows.length ≤ 4
  · obtain ⟨h1, h4⟩ := hE
    obtain ⟨ao, cap, rfl, _, hcap, hm1, _⟩ := id hl
    have HL := hid hl
    clear hl
    obtain ⟨r0, hr0⟩ := some_of_lt (l := rows) (k := 0) (by omega)
    have HW := hid (width_first hr0)
    have HS0 := hid (sameLen_first hr0)
    have HE := hid (show colsErr rows = if sameLen r0.size rows then (if 65536 < r0.size then 4 else if rows.all bitRow then 0 else 13) else 11 by rw [colsErr, if_pos ⟨h1, h4⟩, HW.out])
    obtain ⟨b, o, rfl, c0⟩ := HL.out.cell (strs_get hr0)
    simp only [Nat.add_zero] at c0
    have HR0 := hid hr0
    clear hr0
    have hpos : (0 : Int) < (rows.length : Int) := by omega
    go_enter Try.func19, Try.ntmps19
    go_upto_region 4 with fail
    go_loopw [4] (fun i wr => ∃ k : Nat, 1 ≤ k ∧ k ≤ rows.length ∧ i = .int .i64 k ∧ Dr w wr ∧ Hid (sameLen r0.size (rows.take k) = true)) (fun i _ => rows.length - (intOf i).toNat)
    case atStart => exact ⟨1, Nat.le_refl _, h1, rfl, Dr.refl _, HS0⟩
    case round =>
      obtain ⟨k, hk1, hk, rfl, ⟨n, rfl⟩, HS⟩ := hrel
      have HD := hid (Dr.drewN (Dr.refl w) n)
      by_cases hlt : k < rows.length
      · obtain ⟨r, hr⟩ := some_of_lt hlt
        obtain ⟨b', o', hbo, c1⟩ := HL.out.cell (strs_get hr)
        simp only [Option.some.injEq, Addr.mk.injEq, and_true] at hbo
        obtain ⟨rfl, rfl⟩ := hbo
        have HR := hid hr
        have hk2 : (k : Int) < (rows.length : Int) := by omega
        clear hr
        by_cases hsz : r.size = r0.size
        · have hb : ((r.size : Int) == (r0.size : Int)) = true := by rw [hsz]; simp
          have hb2 : ((r.size : Int) != (r0.size : Int)) = false := by rw [hsz]; simp
          have HSz := hid hsz
          clear hsz
          go_upto_region 6 with fail
          go_quiet (fail)
          go_wp2
          go_roundw
          case rel => exact ⟨k + 1, by omega, by omega, by go_num, by first | exact ⟨_, rfl⟩ | exact HD.out.drewN _, hid (by rw [sameLen_snoc HR.out, HS.out, HSz.out]; simp)⟩
          case measure => simp [intOf]; omega
        · have hb : ((r.size : Int) == (r0.size : Int)) = false := beq_eq_false_iff_ne.2 (by omega)
          have hb2 : ((r.size : Int) != (r0.size : Int)) = true := by rw [bne_iff_ne]; omega
          have HF := hid (show colsErr rows = 11 by rw [HE.out, sameLen_false HR.out hsz]; rfl)
          clear hsz
          go_upto_region 6 with fail
          go_quiet (fail)
          go_wp2
          go_ret2
          exact colsPost_errD HF.out (by decide) (HD.out.drewN _)
      · have HS2 := hid (show sameLen r0.size rows = true by have := HS.out; rwa [take_all (by omega)] at this)
        have HE2 := hid (show colsErr rows = (if 65536 < r0.size then 4 else if rows.all bitRow then 0 else 13) by rw [HE.out, if_pos HS2.out])
        have HLW := hid (HL.out.dr HD.out)
        obtain ⟨b', o', hbo, c1⟩ := HLW.out.cell (strs_get HR0.out)
        simp only [Option.some.injEq, Addr.mk.injEq, and_true, Nat.add_zero] at hbo c1
        obtain ⟨rfl, rfl⟩ := hbo
        clear c0
        generalize w.drewN n = W at *
        by_cases hbig : 65536 < r0.size
        · have HF := hid (show colsErr rows = 4 by rw [HE2.out, if_pos hbig])
          go_wp2
          go_ret2
          exact colsPost_errD HF.out (by decide) HD.out
        · have HE3 := hid (show colsErr rows = (if rows.all bitRow then 0 else 13) by rw [HE2.out, if_neg hbig])
          go_upto_region 11 with fail
          clear HS HE HE2 hlt hk
          go_loop [5] (fun i => ∃ k : Nat, k ≤ rows.length ∧ i = .int .i64 k ∧ Hid ((rows.take k).all bitRow = true)) (fun i => rows.length - (intOf i).toNat)
          case atStart => exact ⟨0, by omega, rfl, hid rfl⟩
          case round =>
            obtain ⟨i, hi, rfl, HA⟩ := hrel
            by_cases hir : i < rows.length
            · obtain ⟨r, hr⟩ := some_of_lt hir
              obtain ⟨b', o', hbo, c2⟩ := HLW.out.cell (strs_get hr)
              simp only [Option.some.injEq, Addr.mk.injEq, and_true] at hbo
              obtain ⟨rfl, rfl⟩ := hbo
              have HR := hid hr
              have HSz := hid (show r.size = r0.size by
                have := HS2.out
                rw [sameLen, List.all_eq_true] at this
                simpa using this r (List.mem_of_getElem? hr))
              have hrs : r.size ≤ 65536 := by rw [HSz.out]; omega
              clear hr
              go_upto_region 14 with fail
              go_loop [6] (fun j => ∃ k : Nat, k ≤ r.size ∧ j = .int .i64 k ∧ Hid ((r.data.toList.take k).all isBit = true)) (fun j => r.size - (intOf j).toNat)
              case atStart => exact ⟨0, by omega, rfl, hid rfl⟩
              case round =>
                obtain ⟨k, hk, rfl, HB⟩ := hrel
                by_cases hkr : k < r.size
                · have HRB := hid (rowBits hkr)
                  by_cases h48 : r[k] = 48
                  · have e1 : ((r[k].toNat : Int) == 48) = true := by rw [h48]; rfl
                    have e2 : ((r[k].toNat : Int) != 48) = false := by rw [h48]; rfl
                    have HI := hid (show isBit r[k] = true by rw [h48]; rfl)
                    clear h48
                    go_wp2
                    go_round
                    case rel => exact ⟨k + 1, by omega, by go_num, hid (by rw [HRB.out, HB.out, HI.out]; rfl)⟩
                    case measure => simp [intOf]; omega
                  · have e1 : ((r[k].toNat : Int) == 48) = false := byte_ne h48
                    have e2 : ((r[k].toNat : Int) != 48) = true := by rw [bne, e1]; rfl
                    by_cases h49 : r[k] = 49
                    · have e3 : ((r[k].toNat : Int) == 49) = true := by rw [h49]; rfl
                      have e4 : ((r[k].toNat : Int) != 49) = false := by rw [h49]; rfl
                      have HI := hid (show isBit r[k] = true by rw [h49]; rfl)
                      clear h48 h49
                      go_wp2
                      go_round
                      case rel => exact ⟨k + 1, by omega, by go_num, hid (by rw [HRB.out, HB.out, HI.out]; rfl)⟩
                      case measure => simp [intOf]; omega
                    · have e3 : ((r[k].toNat : Int) == 49) = false := byte_ne h49
                      have e4 : ((r[k].toNat : Int) != 49) = true := by rw [bne, e3]; rfl
                      have HI := hid (show isBit r[k] = false by simp [isBit, h48, h49])
                      have HF := hid (show colsErr rows = 13 by
                        rw [HE3.out, if_neg]
                        rw [List.all_eq_true]
                        intro h
                        have := h r (List.mem_of_getElem? HR.out)
                        rw [bitRow_false hkr HI.out] at this
                        cases this)
                      clear h48 h49
                      go_wp2
                      go_ret2
                      exact colsPost_errD HF.out (by decide) HD.out
                · have HI := hid (show bitRow r = true by have := HB.out; rwa [take_all (by simp; omega)] at this)
                  go_wp2
                  go_round
                  case rel => exact ⟨i + 1, by omega, by go_num, hid (by rw [take_snoc HR.out, List.all_append, HA.out]; simp [HI.out])⟩
                  case measure => simp [intOf]; omega
            · have HF := hid (show colsErr rows = 0 by have := HA.out; rw [take_all (by omega)] at this; rw [HE3.out, if_pos this])
              have HAB := hid (show rows.all bitRow = true by have := HA.out; rwa [take_all (by omega)] at this)
              have HC := hid (show colsL rows = (List.range r0.size).map (colAt rows) by rw [colsL, if_pos HF.out, HW.out])
              clear HA HE3 HS0 HL
              go_upto_region 20 with fail
              clear hir hi
              go_loopw [7, 8] (fun u i wr => ∃ k : Nat, k ≤ r0.size ∧ i = .int .i64 k ∧ wr.ownsRow W.heap.size 3 1 u k (ints (upto (colAt rows) k)) ∧ Below W.heap.size W wr) (fun _ i _ => r0.size - (intOf i).toNat)
              case atStart => exact ⟨0, by omega, rfl, own_empty _ _ _, (Below.refl _ _).alloc (Nat.le_refl _) _⟩
              case round =>
                obtain ⟨k, hk, rfl, hown, hbel⟩ := hrel
                obtain ⟨b', o', hbo, c3⟩ := (HLW.out.below hbel).cell (strs_get HR0.out)
                simp only [Option.some.injEq, Addr.mk.injEq, and_true, Nat.add_zero] at hbo c3
                obtain ⟨rfl, rfl⟩ := hbo
                by_cases hkr : k < r0.size
                · have HLr := hid (HLW.out.below hbel)
                  have HOwn := hid hown
                  have HBel := hid hbel
                  have hbs := hbel.size
                  clear hown hbel
                  go_upto_region 24 with fail
                  go_loop [9, 10] (fun c i => ∃ j : Nat, j ≤ rows.length ∧ i = .int .i64 j ∧ c = .int .i64 (colAt (rows.take j) k)) (fun _ i => rows.length - (intOf i).toNat)
                  case atStart => exact ⟨0, by omega, rfl, rfl⟩
                  case round =>
                    obtain ⟨j, hj, rfl, rfl⟩ := hrel
                    have hcb := colAt_bound (rows.take j) k
                    have hcl : (2 : Int) ^ (rows.take j).length ≤ 16 := pow_le16 (by rw [List.length_take]; omega)
                    by_cases hjr : j < rows.length
                    · obtain ⟨r, hr⟩ := some_of_lt hjr
                      obtain ⟨b', o', hbo, c4⟩ := HLr.out.cell (strs_get hr)
                      simp only [Option.some.injEq, Addr.mk.injEq, and_true] at hbo
                      obtain ⟨rfl, rfl⟩ := hbo
                      have HSz : r.size = r0.size := by
                        have := HS2.out
                        rw [sameLen, List.all_eq_true] at this
                        simpa using this r (List.mem_of_getElem? hr)
                      have hkr2 : k < r.size := by omega
                      have hbit : isBit r[k] = true := by
                        have h1 := HAB.out
                        rw [List.all_eq_true] at h1
                        have h2 := h1 r (List.mem_of_getElem? hr)
                        rw [bitRow, List.all_eq_true] at h2
                        have h3 : r.data.toList[k]? = some r[k] := by rw [List.getElem?_eq_getElem (by simpa using hkr2)]; rfl
                        exact h2 _ (List.mem_of_getElem? h3)
                      have HSt := hid (show colAt (rows.take (j + 1)) k = 2 * colAt (rows.take j) k + bitv r[k] by rw [colAt_step hr, byte_at r k hkr2])
                      clear hr HSz
                      generalize colAt (rows.take j) k = A at *
                      obtain ⟨a0, a1⟩ := hcb
                      have a2 : A ≤ 15 := by omega
                      clear a1 hcl
                      by_cases h49 : r[k] = 49
                      · have HV := hid (show bitv r[k] = 1 by rw [h49]; rfl)
                        have he : r[k].toNat = 49 := by rw [h49]; rfl
                        clear h49 hbit
                        go_wp2
                        go_round
                        case rel => exact ⟨j + 1, by omega, by go_num, by rw [HSt.out, HV.out]⟩
                        case measure => simp [intOf]; omega
                      · have h48 : r[k] = 48 := by
                          have : r[k] = 48 ∨ r[k] = 49 := by simpa [isBit] using hbit
                          exact this.resolve_right h49
                        have HV := hid (show bitv r[k] = 0 by rw [h48]; rfl)
                        have he : r[k].toNat = 48 := by rw [h48]; rfl
                        clear h49 h48 hbit
                        go_wp2
                        go_round
                        case rel => exact ⟨j + 1, by omega, by go_num, by rw [HSt.out, HV.out]; go_num⟩
                        case measure => simp [intOf]; omega
                    · have e : rows.take j = rows := take_all (by omega)
                      rw [e] at hcb
                      rw [e]
                      have hown := HOwn.out
                      have HU := hid (upto_succ (colAt rows) k)
                      clear hcb hcl e
                      generalize colAt rows k = A at *
                      go_wp2_with (at_builtin; refine wpList_push _ rfl _ _ 24 rfl W.heap.size 3 (.int .i64 0) 1 8 Try.underlying24 Try.info3 rfl (by decide) _ _ _ rfl hown #[.int .i64 A] rfl (oneCell_int _ _) rfl (by unfold maxLen; omega) (by omega) hbs ?_; intro g gc w1 hown1 hg hb1)
                      go_roundw
                      case rel => exact ⟨k + 1, by omega, by go_num, by rw [HU.out, ints_snoc]; exact hown1, HBel.out.trans hb1⟩
                      case measure => simp [intOf]; omega
                · go_wp2
                  go_ret2
                  obtain rfl : k = r0.size := by omega
                  have hle := (HD.out.below w.heap.size).size
                  have hcl : (colsL rows).length = r0.size := by rw [HC.out]; simp
                  exact colsPost_ok HF.out (by rw [hcl, HC.out]; exact own_base hown hle) ((HD.out.below w.heap.size).trans (hbel.mono hle))
  · obtain ⟨ao, cap, rfl, _, hcap, hm1, _⟩ := id hl
    have HF := hid (show colsErr rows = 2 by rw [colsErr, if_neg hE])
    by_cases h1 : rows.length < 1
    · go_enter Try.func19, Try.ntmps19
      go_wp2
      go_ret2
      exact colsPost_err HF.out (by decide)
    · have h2 : 1 ≤ rows.length := by omega
      have h5 : 4 < rows.length := by omega
      clear hE
      go_enter Try.func19, Try.ntmps19
      go_wp2
      go_ret2
      exact colsPost_err HF.out (by decide)
end Go.Proofs.Ytppflnkadjddiaa
