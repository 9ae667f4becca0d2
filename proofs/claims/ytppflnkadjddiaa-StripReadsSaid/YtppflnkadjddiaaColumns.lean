/-
  strip.Columns: the columns of an array of rows, or the error.
  No condition beyond the rows being at most 1000 (the statements give at most 6, or the rows of a height).
-/
import Derived.Test.YtppflnkadjddiaaBasics
import Derived.Test.YtppflnkadjddiaaShelf
namespace Go.Proofs.Ytppflnkadjddiaa
open Go.RowKit
set_option linter.unusedVariables false

/-- Is the letter 0 or 1? -/
def isBit (b : UInt8) : Bool := b == 48 || b == 49
def bitRow (r : ByteArray) : Bool := r.data.toList.all isBit
def sameLen (n : Nat) (rows : List ByteArray) : Bool := rows.all (fun r => r.size == n)
def width (rows : List ByteArray) : Nat := match rows with | r :: _ => r.size | [] => 0
def colsErr (rows : List ByteArray) : Int :=
  if 1 ≤ rows.length ∧ rows.length ≤ 4 then (if sameLen (width rows) rows then (if 65536 < width rows then 4 else if rows.all bitRow then 0 else 13) else 11) else 2
def bitv (b : UInt8) : Int := if b = 49 then 1 else 0
def colAt (rows : List ByteArray) (k : Nat) : Int := rows.foldl (fun a r => 2 * a + bitv (r.data.toList.getD k 0)) 0
theorem colAt_snoc (rows : List ByteArray) (r : ByteArray) (k : Nat) : colAt (rows ++ [r]) k = 2 * colAt rows k + bitv (r.data.toList.getD k 0) := by simp [colAt]
theorem colAt_bound (rows : List ByteArray) (k : Nat) : 0 ≤ colAt rows k ∧ colAt rows k < 2 ^ rows.length := by
  have key : ∀ (n : Nat) (l : List ByteArray), l.length = n → 0 ≤ colAt l k ∧ colAt l k < 2 ^ l.length := by
    intro n
    induction n with
    | zero => intro l hl; have : l = [] := List.eq_nil_of_length_eq_zero hl; subst this; simp [colAt]
    | succ n ih =>
      intro l hl
      have hne : l ≠ [] := by rintro rfl; simp at hl
      obtain ⟨m, r, rfl⟩ : ∃ m r, l = m ++ [r] := ⟨l.dropLast, l.getLast hne, (List.dropLast_concat_getLast hne).symm⟩
      have hm : m.length = n := by simpa using hl
      obtain ⟨h1, h2⟩ := ih m hm
      rw [colAt_snoc, List.length_append, List.length_singleton, Int.pow_succ]
      have : 0 ≤ bitv (r.data.toList.getD k 0) ∧ bitv (r.data.toList.getD k 0) ≤ 1 := by unfold bitv; split <;> omega
      omega
  exact key _ rows rfl
def colsL (rows : List ByteArray) : List Int := if colsErr rows = 0 then (List.range (width rows)).map (colAt rows) else []
/-- Row j has been put in up to column i. -/
def mixed (rows : List ByteArray) (n j i : Nat) : List Int := (List.range n).map fun k => if k < i then colAt (rows.take (j + 1)) k else colAt (rows.take j) k
theorem mixed_len (rows : List ByteArray) (n j i : Nat) : (mixed rows n j i).length = n := by simp [mixed]
theorem mixed_get (rows : List ByteArray) (n j i k : Nat) (hk : k < n) : (mixed rows n j i)[k]? = some (if k < i then colAt (rows.take (j + 1)) k else colAt (rows.take j) k) := by simp [mixed, hk]
theorem mixed_zero (rows : List ByteArray) (n j : Nat) : mixed rows n j 0 = (List.range n).map (colAt (rows.take j)) := by simp [mixed]
theorem mixed_all (rows : List ByteArray) (n j : Nat) : mixed rows n j n = mixed rows n (j + 1) 0 := by
  apply List.map_congr_left
  intro k hk
  have : k < n := by simpa using hk
  simp [this]
theorem mixed_set (rows : List ByteArray) (n j i : Nat) (hi : i < n) : (ints (mixed rows n j i)).set i (.int .i64 (colAt (rows.take (j + 1)) i)) = ints (mixed rows n j (i + 1)) := by
  apply List.ext_getElem?
  intro k
  rw [List.getElem?_set]
  by_cases hk : k < n
  · simp only [ints, List.getElem?_map, List.length_map, mixed_len, mixed_get _ _ _ _ _ hk]
    by_cases e : i = k
    · subst e; simp [hi]
    · have : (k < i + 1) = (k < i) := by apply propext; omega
      simp [e, this]
  · have h1 : i ≠ k := by omega
    simp [ints, mixed, h1, hk]

set_option maxRecDepth 100000 in
set_option maxHeartbeats 4000000 in
theorem columns_bad (v : Value) (rows : List ByteArray) (w : World) (hl : Sl 1 w v rows.length (strs rows)) (hn : rows.length ≤ 1000) (hE : ¬ (1 ≤ rows.length ∧ rows.length ≤ 4)) :
    Calls Try.prog 13 #[v] w fun e w' => e = .returned (.tuple #[.slice none 0 0, .int .i64 2]) ∧ w = w' := by
  obtain ⟨ao, cap, rfl, _, hl1, hl2, hl3⟩ := hl
  go_enter Try.func13, Try.ntmps13
  go_wp2_with (go_at_call 39; refine (height_no _ _ (by omega)).mono ?_; rintro e w' ⟨rfl, rfl⟩)
  go_ret2
  exact ⟨rfl, rfl⟩

def ColsPost (rows : List ByteArray) (w : World) (e : Ending) (w' : World) : Prop :=
  ∃ v', e = .returned (.tuple #[v', .int .i64 (colsErr rows)]) ∧ w'.ownsRow w.heap.size 3 1 v' (colsL rows).length (ints (colsL rows)) ∧ Below w.heap.size w w'
theorem colsPost_ok {rows : List ByteArray} {w w' : World} {v : Value} (h : colsErr rows = 0) (ho : w'.ownsRow w.heap.size 3 1 v (colsL rows).length (ints (colsL rows))) (hb : Below w.heap.size w w') :
    ColsPost rows w (.returned (.tuple #[v, .int .i64 0])) w' := ⟨v, by rw [h], ho, hb⟩
theorem mixed_start (rows : List ByteArray) (n : Nat) : ints (mixed rows n 0 0) = List.replicate n (.int .i64 0) := by
  rw [mixed_zero]
  apply List.ext_getElem?
  intro k
  by_cases hk : k < n <;> simp [ints, colAt, hk]
theorem pow_le16 {n : Nat} (h : n ≤ 4) : (2 : Int) ^ n ≤ 16 := by
  have : n = 0 ∨ n = 1 ∨ n = 2 ∨ n = 3 ∨ n = 4 := by omega
  rcases this with rfl | rfl | rfl | rfl | rfl <;> decide
theorem byte_at (r : ByteArray) (k : Nat) (h : k < r.size) : r[k]'h = r.data.toList.getD k 0 := by
  have h' : k < r.data.toList.length := by simpa using h
  rw [List.getD_eq_getElem?_getD, List.getElem?_eq_getElem h']
  simp [ByteArray.getElem_eq_getElem_data]
theorem colAt_step {rows : List ByteArray} {j : Nat} {r : ByteArray} (h : rows[j]? = some r) (k : Nat) : colAt (rows.take (j + 1)) k = 2 * colAt (rows.take j) k + bitv (r.data.toList.getD k 0) := by
  rw [take_snoc h, colAt_snoc]
theorem counts_le (r : ByteArray) : Lib.countByte r.data.toList 48 + Lib.countByte r.data.toList 49 ≤ r.size ∧ Lib.countByte r.data.toList 48 ≤ r.size ∧ Lib.countByte r.data.toList 49 ≤ r.size := by
  have key : ∀ l : List UInt8, Lib.countByte l 48 + Lib.countByte l 49 ≤ l.length := by
    intro l
    induction l with
    | nil => simp [Lib.countByte]
    | cons a l ih =>
      simp only [Lib.countByte, List.count_cons, List.length_cons] at ih ⊢
      by_cases h1 : a = 48
      · subst h1; simp; omega
      · by_cases h2 : a = 49
        · subst h2; simp; omega
        · simp [h1, h2]; omega
  have h := key r.data.toList
  have e : r.data.toList.length = r.size := by simp
  omega
theorem counts_iff (l : List UInt8) : Lib.countByte l 48 + Lib.countByte l 49 = l.length ↔ l.all isBit = true := by
  have key : ∀ l : List UInt8, Lib.countByte l 48 + Lib.countByte l 49 ≤ l.length := by
    intro l
    induction l with
    | nil => simp [Lib.countByte]
    | cons a l ih =>
      simp only [Lib.countByte, List.count_cons, List.length_cons] at ih ⊢
      by_cases h1 : a = 48
      · subst h1; simp; omega
      · by_cases h2 : a = 49
        · subst h2; simp; omega
        · simp [h1, h2]; omega
  induction l with
  | nil => simp [Lib.countByte]
  | cons a l ih =>
    have := key l
    simp only [Lib.countByte, List.count_cons, List.length_cons, List.all_cons, Bool.and_eq_true] at ih this ⊢
    rw [show (l.all isBit = true) ↔ _ from ih.symm]
    by_cases h1 : a = 48
    · subst h1; simp [isBit]; omega
    · by_cases h2 : a = 49
      · subst h2; simp [isBit]; omega
      · simp [h1, h2, isBit]; omega
theorem counts_all {r : ByteArray} (h : bitRow r = true) : Lib.countByte r.data.toList 48 + Lib.countByte r.data.toList 49 = r.size := by
  rw [(counts_iff _).2 h]; simp
theorem counts_not {r : ByteArray} (h : ¬ bitRow r = true) : Lib.countByte r.data.toList 48 + Lib.countByte r.data.toList 49 ≠ r.size := by
  intro e
  exact h ((counts_iff _).1 (by rw [e]; simp))

theorem colsPost_err {rows : List ByteArray} {w : World} {n : Int} (h : colsErr rows = n) (hn : n ≠ 0) : ColsPost rows w (.returned (.tuple #[.slice none 0 0, .int .i64 n])) w := by
  subst h
  exact ⟨_, rfl, by rw [colsL, if_neg hn]; exact World.ownsRow_nil _ _ _ _, Below.refl _ _⟩

set_option maxRecDepth 100000 in
set_option maxHeartbeats 4000000 in
theorem columns_any (v : Value) (rows : List ByteArray) (w : World) (hl : Sl 1 w v rows.length (strs rows)) (hn : rows.length ≤ 1000) :
    Calls Try.prog 13 #[v] w (ColsPost rows w) := by
  by_cases hE : 1 ≤ rows.length ∧ rows.length ≤ 4
  · have HE := hid (show colsErr rows = if sameLen (width rows) rows then (if 65536 < width rows then 4 else if rows.all bitRow then 0 else 13) else 11 by rw [colsErr, if_pos hE])
    have HS := hid hl
    obtain ⟨hE1, hE4⟩ := hE
    obtain ⟨ao, cap, rfl, _, hl1, hl2, hl3⟩ := hl
    obtain ⟨r0, hr0⟩ := some_of_lt (l := rows) (k := 0) (by omega)
    have HR0 := hid hr0
    have HW := hid (show width rows = r0.size by cases rows with | nil => simp at hr0 | cons a l => simp at hr0; subst hr0; rfl)
    obtain ⟨b, o, rfl, c0⟩ := HS.out.cell (strs_get hr0)
    clear hr0 hl3
    rw [Nat.add_zero] at c0
    go_enter Try.func13, Try.ntmps13
    go_wp2_with (go_at_call 39; refine (height_yes _ _ (by omega) (by omega)).mono ?_; rintro e w' ⟨rfl, rfl⟩)
    go_loop [18] (fun i => ∃ k : Nat, k ≤ rows.length ∧ i = .int .i64 k ∧ Hid (sameLen r0.size (rows.take k) = true)) (fun i => rows.length - (intOf i).toNat)
    case atStart => exact ⟨0, Nat.zero_le _, rfl, hid rfl⟩
    case round =>
      obtain ⟨k, hk, rfl, HK⟩ := hrel
      by_cases hlt : k < rows.length
      · obtain ⟨r, hr⟩ := some_of_lt hlt
        obtain ⟨b', o', he, c1⟩ := HS.out.cell (strs_get hr)
        obtain ⟨rfl, rfl⟩ : b = b' ∧ o = o' := by simpa using he
        clear he
        have HR := hid hr
        clear hr
        by_cases hsz : r.size = r0.size
        · have hb : ((r.size : Int) != (r0.size : Int)) = false := by simp [hsz]
          have HZ := hid hsz
          clear hsz
          go_wp2
          go_round
          case rel => exact ⟨k + 1, by omega, by go_num, hid (by rw [take_snoc HR.out]; have := HK.out; simp only [sameLen, List.all_append] at this ⊢; simp [this, HZ.out])⟩
          case measure => simp [intOf]; omega
        · have hb : ((r.size : Int) != (r0.size : Int)) = true := by simp; omega
          go_wp2
          go_ret2
          refine colsPost_err ?_ (by decide)
          rw [HE.out, if_neg]
          intro hall
          have := List.all_eq_true.1 hall r (List.mem_of_getElem? HR.out)
          rw [HW.out] at this
          simp at this
          exact hsz this
      · have HL := hid (show sameLen (width rows) rows = true by have := HK.out; rwa [take_all (by omega), ← HW.out] at this)
        by_cases hbig : 65536 < r0.size
        · go_wp2
          go_ret2
          refine colsPost_err ?_ (by decide)
          rw [HE.out, if_pos HL.out, HW.out, if_pos hbig]
        · go_wp2
          go_loop [37] (fun i => ∃ k : Nat, k ≤ rows.length ∧ i = .int .i64 k ∧ Hid ((rows.take k).all bitRow = true)) (fun i => rows.length - (intOf i).toNat)
          case atStart => exact ⟨0, Nat.zero_le _, rfl, hid rfl⟩
          case round =>
            obtain ⟨q, hq, rfl, HQ⟩ := hrel
            by_cases hlt2 : q < rows.length
            · obtain ⟨r, hr⟩ := some_of_lt hlt2
              obtain ⟨b', o', he, c1⟩ := HS.out.cell (strs_get hr)
              obtain ⟨rfl, rfl⟩ : b = b' ∧ o = o' := by simpa using he
              clear he
              have HR := hid hr
              clear hr
              have hcl := counts_le r
              have hrs : r.size = r0.size := by
                have := List.all_eq_true.1 HL.out r (List.mem_of_getElem? HR.out)
                rw [HW.out] at this
                simpa using this
              have HZ := hid hrs
              have hr64 : r.size ≤ 65536 := by omega
              clear hrs
              by_cases hb : bitRow r = true
              · have HB := hid hb
                have hc := counts_all hb
                have hne : (((Lib.countByte r.data.toList 48 : Nat) : Int) + ((Lib.countByte r.data.toList 49 : Nat) : Int) != ((r.size : Nat) : Int)) = false := by simp; omega
                clear hb hc
                go_wp2_with fail
                refine (Try.strings_Count_one r 48 _).mono ?_
                rintro e w' ⟨rfl, rfl⟩
                go_wp2_with fail
                refine (Try.strings_Count_one r 49 _).mono ?_
                rintro e w' ⟨rfl, rfl⟩
                go_wp2
                go_round
                case rel => exact ⟨q + 1, by omega, by go_num, hid (by rw [take_snoc HR.out, List.all_append, HQ.out]; simp [HB.out])⟩
                case measure => simp [intOf]; omega
              · have hc := counts_not hb
                have hne : (((Lib.countByte r.data.toList 48 : Nat) : Int) + ((Lib.countByte r.data.toList 49 : Nat) : Int) != ((r.size : Nat) : Int)) = true := by simp; omega
                have HB := hid hb
                clear hb hc
                go_wp2_with fail
                refine (Try.strings_Count_one r 48 _).mono ?_
                rintro e w' ⟨rfl, rfl⟩
                go_wp2_with fail
                refine (Try.strings_Count_one r 49 _).mono ?_
                rintro e w' ⟨rfl, rfl⟩
                go_wp2
                go_ret2
                refine colsPost_err ?_ (by decide)
                rw [HE.out, if_pos HL.out, HW.out, if_neg hbig, if_neg]
                intro hall
                exact HB.out (List.all_eq_true.1 hall r (List.mem_of_getElem? HR.out))
            · have HA := hid (show rows.all bitRow = true by have := HQ.out; rwa [take_all (by omega)] at this)
              have HC := hid (show colsErr rows = 0 by rw [HE.out, if_pos HL.out, HW.out, if_neg hbig, if_pos HA.out])
              go_wp2_with (at_make; refine wpList_zeros _ rfl _ _ 24 rfl w.heap.size 3 (.int .i64 0) 8 Try.underlying24 Try.info3 rfl _ _ _ _ r0.size rfl rfl rfl rfl (by omega) (by unfold maxLen; omega) (by omega) ?_; intro w1 hown1 hb1)
              obtain ⟨n, hn0⟩ : ∃ n, n = r0.size := ⟨_, rfl⟩
              rw [← hn0] at hown1 hbig ⊢
              have HN := hid hn0
              clear hn0
              go_loopw [57] (fun i wr => ∃ j : Nat, j ≤ rows.length ∧ i = .int .i64 j ∧ wr.ownsRow w.heap.size 3 1 (.slice (some ⟨w.heap.size, 0, none⟩) n n) n (ints (mixed rows n j 0)) ∧ Below w.heap.size w wr) (fun i _ => rows.length - (intOf i).toNat)
              case atStart => exact ⟨0, Nat.zero_le _, rfl, by rw [mixed_start]; exact hown1, hb1⟩
              case round =>
                obtain ⟨j, hj, rfl, hown, hbel⟩ := hrel
                by_cases hlt3 : j < rows.length
                · obtain ⟨r, hr⟩ := some_of_lt hlt3
                  obtain ⟨b', o', he, c1⟩ := (HS.out.below hbel).cell (strs_get hr)
                  obtain ⟨rfl, rfl⟩ : b = b' ∧ o = o' := by simpa using he
                  have HR := hid hr
                  have hrs : r.size = n := by
                    have := List.all_eq_true.1 HL.out r (List.mem_of_getElem? hr)
                    rw [HW.out, ← HN.out] at this
                    simpa using this
                  have HZ := hid hrs
                  have hrl : r.size ≤ n := by omega
                  have hrl' : n ≤ r.size := by omega
                  clear he hr hrs
                  go_wp2
                  obtain ⟨wo, rfl⟩ : ∃ wo : World, wo = wr := ⟨_, rfl⟩
                  go_loopw [63] (fun i wr => ∃ k : Nat, k ≤ n ∧ i = .int .i64 k ∧ wr.ownsRow w.heap.size 3 1 (.slice (some ⟨w.heap.size, 0, none⟩) n n) n (ints (mixed rows n j k)) ∧ Below w.heap.size w wr) (fun i _ => n - (intOf i).toNat)
                  case atStart => exact ⟨0, Nat.zero_le _, rfl, hown, hbel⟩
                  case round =>
                    obtain ⟨k', hk', rfl, hown', hbel'⟩ := hrel
                    by_cases hlt4 : k' < n
                    · obtain ⟨x, hx⟩ : ∃ x, x = colAt (rows.take j) k' := ⟨_, rfl⟩
                      have hb := colAt_bound (rows.take j) k'
                      have h16 : (2 : Int) ^ (rows.take j).length ≤ 16 := pow_le16 (by rw [List.length_take]; omega)
                      have hx0 : 0 ≤ x := by omega
                      have hx1 : x < 16 := by omega
                      have c2 := hown'.cellAt k' (by omega)
                      have f2 := hown'.frozenAt k'
                      rw [ints_get (mixed_get rows n j k' k' hlt4), if_neg (by omega), ← hx] at c2
                      have HX := hid hx
                      clear hx hb h16
                      have hlr : k' < r.size := by omega
                      have hst := colAt_step HR.out k'
                      rw [← HX.out] at hst
                      have HST := hid hst
                      clear hst
                      by_cases hch : r.data.toList.getD k' 0 = 49
                      · have hb9 : (((r[k']'hlr).toNat : Int) == 49) = true := by rw [byte_at, hch]; rfl
                        have HV := hid (show bitv (r.data.toList.getD k' 0) = 1 by rw [bitv, if_pos hch])
                        clear hch
                        go_wp2
                        go_roundw
                        case rel =>
                          refine ⟨k' + 1, by omega, by go_num, ?_, ?_⟩
                          · have s1 := (hown'.stored k' (.int .i64 (x * 2))).1
                            have s2 := (s1.stored k' (.int .i64 (x * 2 + 1))).1
                            rw [List.set_set, ← show colAt (rows.take (j + 1)) k' = x * 2 + 1 by rw [HST.out, HV.out]; omega, mixed_set _ _ _ _ hlt4] at s2
                            rw [← show colAt (rows.take (j + 1)) k' = x * 2 + 1 by rw [HST.out, HV.out]; omega]
                            exact s2
                          · exact (hbel'.setCell (p := ⟨w.heap.size, k', none⟩) (Nat.le_refl _) _).setCell (p := ⟨w.heap.size, k', none⟩) (Nat.le_refl _) _
                        case measure => simp [intOf]; omega
                      · have hb9 : (((r[k']'hlr).toNat : Int) == 49) = false := by
                          rw [byte_at, beq_eq_false_iff_ne]
                          intro e
                          exact hch (UInt8.toNat_inj.1 (by simpa using (by omega : (r.data.toList.getD k' 0).toNat = 49)))
                        have HV := hid (show bitv (r.data.toList.getD k' 0) = 0 by rw [bitv, if_neg hch])
                        clear hch
                        go_wp2
                        go_roundw
                        case rel =>
                          refine ⟨k' + 1, by omega, by go_num, ?_, ?_⟩
                          · have s1 := (hown'.stored k' (.int .i64 (x * 2))).1
                            rw [← show colAt (rows.take (j + 1)) k' = x * 2 by rw [HST.out, HV.out]; omega, mixed_set _ _ _ _ hlt4] at s1
                            rw [← show colAt (rows.take (j + 1)) k' = x * 2 by rw [HST.out, HV.out]; omega]
                            exact s1
                          · exact hbel'.setCell (p := ⟨w.heap.size, k', none⟩) (Nat.le_refl _) _
                        case measure => simp [intOf]; omega
                    · have e : k' = n := by omega
                      subst e
                      rw [mixed_all] at hown'
                      go_wp2
                      go_roundw
                      case rel => exact ⟨j + 1, by omega, by go_num, hown', hbel'⟩
                      case measure => simp [intOf]; omega
                · have e : j = rows.length := by omega
                  subst e
                  go_wp2
                  go_ret2
                  have eC : colsL rows = mixed rows n rows.length 0 := by
                    rw [colsL, if_pos HC.out, mixed_zero, take_all (Nat.le_refl _), HW.out, HN.out]
                  exact colsPost_ok HC.out (by rw [eC, mixed_len]; exact hown) hbel
  · refine (columns_bad v rows w hl hn hE).mono ?_
    rintro e w' ⟨rfl, rfl⟩
    exact colsPost_err (by rw [colsErr, if_neg hE]) (by decide)
end Go.Proofs.Ytppflnkadjddiaa
