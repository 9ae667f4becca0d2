/-
  The reference's numbers: trim, small, mag, addMag and what is made of them, for numbers that are not negative.
  No condition beyond sizes.
-/
import Derived.Test.YtppflnkadjddiaaIntOps
import Derived.Test.YtppflnkadjddiaaLibTwo
namespace Go.Proofs.Ytppflnkadjddiaa
open Go.RowKit
set_option linter.unusedVariables false

/-- Leading zeros are dropped. -/
def trimL : List UInt8 → List UInt8
  | [] => []
  | c :: r => if c = 0 then trimL r else c :: r

def strLen : Value → Nat
  | .string t => t.size
  | _ => 0
theorem tail_data (t : ByteArray) : (t.extract 1 t.size).data.toList = t.data.toList.tail := by
  have e2 : List.take (t.size - 1) t.data.toList.tail = t.data.toList.tail := take_all (by rw [List.length_tail]; simp)
  simp
  exact e2
theorem list_head (t : ByteArray) (h0 : 0 < t.size) : t.data.toList = t[0] :: t.data.toList.tail := by
  cases h : t.data.toList with
  | nil => have : t.data.toList.length = t.size := by simp
           rw [h] at this; simp at this; omega
  | cons a r =>
    have : t.data.toList[0]? = some t[0] := by
      rw [List.getElem?_eq_getElem (by simpa using h0)]; rfl
    rw [h] at this
    simp at this
    rw [this]; rfl
theorem ret_str {t : ByteArray} {l : List UInt8} (h : t.data.toList = l) : Ending.returned (.string t) = .returned (.string ⟨l.toArray⟩) := by
  subst h; rfl
set_option maxRecDepth 100000 in
set_option maxHeartbeats 1000000 in
theorem refTrim_any (s : ByteArray) (w : World) (hs : s.size ≤ 1000000) :
    Calls Try.prog 95 #[.string s] w fun e w' => e = .returned (.string ⟨(trimL s.data.toList).toArray⟩) ∧ w = w' := by
  go_enter Try.func95, Try.ntmps95
  go_wp2
  go_loop [0] (fun u => ∃ t : ByteArray, u = .string t ∧ t.size ≤ 1000000 ∧ trimL t.data.toList = trimL s.data.toList) (fun u => strLen u)
  case atStart => exact ⟨s, rfl, hs, rfl⟩
  case round =>
    obtain ⟨t, rfl, ht, hE⟩ := hrel
    have HE := hid hE
    clear hE
    by_cases h0 : 0 < t.size
    · by_cases hz : t[0] = 0
      · have hz2 : (((t[0].toNat : Nat) : Int) == 0) = true := by rw [hz]; rfl
        have HZ := hid hz
        clear hz
        go_wp2
        go_round
        case rel =>
          have e1 : t.data.toList = 0 :: t.data.toList.tail := by
            have := list_head t h0
            rw [HZ.out] at this
            exact this
          exact ⟨t.extract 1 t.size, rfl, by simp; omega, by rw [tail_data, ← HE.out, e1, trimL, if_pos rfl, List.tail_cons]⟩
        case measure => simp [strLen]; omega
      · have hz2 : (((t[0].toNat : Nat) : Int) == 0) = false := by
          rw [beq_eq_false_iff_ne]
          intro h
          exact hz (UInt8.toNat_inj.1 (by simpa using h))
        have HZ := hid hz
        clear hz
        go_wp2
        go_ret
        refine ⟨?_, rfl⟩
        have e1 := list_head t h0
        have e2 : trimL t.data.toList = t.data.toList := by rw [e1, trimL, if_neg HZ.out]
        exact ret_str (by rw [← HE.out, e2])
    · go_wp2
      go_ret
      refine ⟨?_, rfl⟩
      have e1 : t.data.toList = [] := List.eq_nil_of_length_eq_zero (by simp; simpa using h0)
      exact ret_str (by rw [← HE.out, e1]; rfl)

/-! Digits to the base 256. -/
theorem bytesBE_valBE : ∀ (n : Nat) (l : List UInt8), l.length = n → (∀ c r, l = c :: r → c ≠ 0) → bytesBE (valBE l) = l := by
  intro n
  induction n with
  | zero => intro l hl _; rw [List.eq_nil_of_length_eq_zero hl]; exact bytesBE_zero
  | succ n ih =>
    intro l hl hc
    have hne : l ≠ [] := by rintro rfl; simp at hl
    obtain ⟨m, b, rfl⟩ : ∃ m b, l = m ++ [b] := ⟨l.dropLast, l.getLast hne, (List.dropLast_concat_getLast hne).symm⟩
    have hm : bytesBE (valBE m) = m := ih m (by simpa using hl) (fun c r e => hc c (r ++ [b]) (by rw [e]; rfl))
    have hb : b.toNat < 256 := b.toNat_lt
    rw [valBE_snoc, bytesBE_push _ _ hb, hm]
    · simp
    · by_cases h0 : b.toNat = 0
      · refine .inr ?_
        intro hv
        rw [hv, bytesBE_zero] at hm
        subst hm
        exact hc b [] rfl (UInt8.toNat_inj.1 (by simpa using h0))
      · exact .inl h0
theorem valBE_zero_cons (r : List UInt8) : valBE (0 :: r) = valBE r := by simp [valBE]
theorem trimL_val (l : List UInt8) : trimL l = bytesBE (valBE l) := by
  induction l with
  | nil => simp [trimL, valBE, bytesBE_zero]
  | cons c r ih =>
    rw [trimL]
    split
    · rename_i h; subst h; rw [ih, valBE_zero_cons]
    · rename_i h; exact (bytesBE_valBE _ _ rfl (fun c' r' e => by cases e; exact h)).symm
theorem bytesBE_digit : ∀ (k n : Nat), k < (bytesBE n).length → (bytesBE n)[(bytesBE n).length - 1 - k]? = some (n / 256 ^ k % 256).toUInt8 := by
  intro k
  induction k with
  | zero =>
    intro n h
    have h0 : n ≠ 0 := by rintro rfl; simp [bytesBE_zero] at h
    rw [bytesBE_pos h0]
    simp
  | succ k ih =>
    intro n h
    have h0 : n ≠ 0 := by rintro rfl; simp [bytesBE_zero] at h
    rw [bytesBE_pos h0] at h ⊢
    simp only [List.length_append, List.length_cons, List.length_nil] at h ⊢
    rw [List.getElem?_append_left (by omega)]
    have := ih (n / 256) (by omega)
    rw [show (bytesBE (n / 256)).length + (0 + 1) - 1 - (k + 1) = (bytesBE (n / 256)).length - 1 - k from by omega, this, Nat.div_div_eq_div_mul, Nat.pow_succ, Nat.mul_comm 256]
theorem digit_high {n k : Nat} (h : (bytesBE n).length ≤ k) : n / 256 ^ k % 256 = 0 := by
  rw [Nat.div_eq_of_lt (Nat.lt_of_lt_of_le (lt_pow_len n) (Nat.pow_le_pow_right (by decide) h))]
/-- The last n digits. -/
def bytesN (n v : Nat) : List UInt8 := (List.range n).map fun j => (v / 256 ^ (n - 1 - j) % 256).toUInt8
theorem bytesN_len (n v : Nat) : (bytesN n v).length = n := by simp [bytesN]
theorem bytesN_succ (n v : Nat) : bytesN (n + 1) v = bytesN n (v / 256) ++ [(v % 256).toUInt8] := by
  unfold bytesN
  rw [List.range_succ, List.map_append]
  congr 1
  · apply List.map_congr_left
    intro j hj
    have hj := List.mem_range.1 hj
    rw [show n + 1 - 1 - j = (n - 1 - j) + 1 from by omega, Nat.pow_succ, Nat.mul_comm, Nat.div_div_eq_div_mul]
  · simp
theorem bytesN_val : ∀ (n v : Nat), v < 256 ^ n → valBE (bytesN n v) = v := by
  intro n
  induction n with
  | zero => intro v hv; simp at hv; subst hv; rfl
  | succ n ih =>
    intro v hv
    rw [bytesN_succ, valBE_snoc, ih (v / 256) (by rw [Nat.pow_succ] at hv; omega)]
    have : (v % 256).toUInt8.toNat = v % 256 := by simp
    omega
theorem trim_bytesN {n v : Nat} (h : v < 256 ^ n) : trimL (bytesN n v) = bytesBE v := by rw [trimL_val, bytesN_val _ _ h]

/-! Adding digit by digit. -/
def cry (A B k : Nat) : Nat := (A % 256 ^ k + B % 256 ^ k) / 256 ^ k
theorem cry_le (A B k : Nat) : cry A B k ≤ 1 := by
  have h : 0 < 256 ^ k := Nat.pow_pos (by decide)
  have h1 := Nat.mod_lt A h
  have h2 := Nat.mod_lt B h
  unfold cry
  rw [← Nat.lt_succ_iff, Nat.div_lt_iff_lt_mul h]
  omega
theorem mod_succ (A k : Nat) : A % 256 ^ (k + 1) = A % 256 ^ k + 256 ^ k * (A / 256 ^ k % 256) := by rw [Nat.pow_succ, Nat.mod_mul]
theorem cry_step (A B k : Nat) : cry A B k + A / 256 ^ k % 256 + B / 256 ^ k % 256 = (A % 256 ^ (k + 1) + B % 256 ^ (k + 1)) / 256 ^ k := by
  have h : 0 < 256 ^ k := Nat.pow_pos (by decide)
  rw [mod_succ, mod_succ, show A % 256 ^ k + 256 ^ k * (A / 256 ^ k % 256) + (B % 256 ^ k + 256 ^ k * (B / 256 ^ k % 256)) = A % 256 ^ k + B % 256 ^ k + 256 ^ k * (A / 256 ^ k % 256 + B / 256 ^ k % 256) by rw [Nat.mul_add]; omega, Nat.add_mul_div_left _ _ h, cry]
  omega
theorem cry_next (A B k : Nat) : (cry A B k + A / 256 ^ k % 256 + B / 256 ^ k % 256) / 256 = cry A B (k + 1) := by
  rw [cry_step, Nat.div_div_eq_div_mul, ← Nat.pow_succ, cry]
theorem cry_digit (A B k : Nat) : (cry A B k + A / 256 ^ k % 256 + B / 256 ^ k % 256) % 256 = (A + B) / 256 ^ k % 256 := by
  have h : 0 < 256 ^ k := Nat.pow_pos (by decide)
  have hA := Nat.div_add_mod A (256 ^ (k + 1))
  have hB := Nat.div_add_mod B (256 ^ (k + 1))
  have e : A + B = A % 256 ^ (k + 1) + B % 256 ^ (k + 1) + 256 ^ k * (256 * (A / 256 ^ (k + 1) + B / 256 ^ (k + 1))) := by
    rw [← Nat.mul_assoc, ← Nat.pow_succ]
    generalize 256 ^ (k + 1) = M at *
    rw [Nat.mul_add]
    omega
  rw [cry_step]
  conv => rhs; rw [e, Nat.add_mul_div_left _ _ h, Nat.add_mul_mod_self_left]
theorem cry_zero (A B : Nat) : cry A B 0 = 0 := by simp [cry, Nat.mod_one]
/-- The digits that are written after k steps: the last k ones. -/
def partN (n v k : Nat) : List UInt8 := (List.range n).map fun j => if n - k ≤ j then (v / 256 ^ (n - 1 - j) % 256).toUInt8 else 0
theorem partN_len (n v k : Nat) : (partN n v k).length = n := by simp [partN]
theorem partN_zero (n v : Nat) : Lib.byteCells (partN n v 0) = List.replicate n (.int .u8 0) := by
  apply List.ext_getElem
  · simp [Lib.byteCells, partN]
  · intro i h1 h2
    simp [Lib.byteCells, partN] at h1 ⊢
    rw [if_neg (by omega)]
    rfl
theorem partN_all (n v : Nat) : partN n v n = bytesN n v := by
  unfold partN bytesN
  apply List.map_congr_left
  intro j _
  rw [if_pos (by omega)]
theorem partN_set {n v k : Nat} (h : k < n) : (Lib.byteCells (partN n v k)).set (n - 1 - k) (.int .u8 ((v / 256 ^ k % 256 : Nat) : Int)) = Lib.byteCells (partN n v (k + 1)) := by
  apply List.ext_getElem
  · simp [Lib.byteCells, partN]
  · intro i h1 h2
    simp only [List.length_set, Lib.byteCells, List.length_map, partN_len] at h1
    rw [List.getElem_set]
    simp only [Lib.byteCells, partN, List.getElem_map, List.getElem_range]
    split
    · rename_i e
      subst e
      rw [if_pos (by omega), show n - 1 - (n - 1 - k) = k from by omega]
      simp
    · rename_i e
      by_cases hi : n - k ≤ i
      · rw [if_pos hi, if_pos (by omega)]
      · rw [if_neg hi, if_neg (by omega)]

theorem nmg_size (n : Nat) : (nmg n).size = (bytesBE n).length := by simp [nmg, ByteArray.size]
theorem nmg_at {n k : Nat} (h : k < (bytesBE n).length) : ((nmg n)[(bytesBE n).length - 1 - k]'(by rw [nmg_size]; omega)) = (n / 256 ^ k % 256).toUInt8 := by
  have h1 := bytesBE_digit k n h
  rw [List.getElem?_eq_getElem (by omega), Option.some.injEq] at h1
  exact h1
theorem digit_byte (n k : Nat) : (((n / 256 ^ k % 256).toUInt8).toNat : Int) = ((n / 256 ^ k % 256 : Nat) : Int) := by simp
theorem str_eq {l m : List UInt8} (h : l = m) : Ending.returned (.string ⟨l.toArray⟩) = .returned (.string ⟨m.toArray⟩) := by rw [h]
theorem byte_read {n l k : Nat} (hl : (bytesBE n).length = l) (hk : k < l) : ∃ a : Nat, wrap64 ((((nmg n)[l - (k + 1)]'(by rw [nmg_size]; omega)).toNat : Nat) : Int) = (a : Int) ∧ a < 256 ∧ n / 256 ^ k % 256 = a := by
  refine ⟨n / 256 ^ k % 256, ?_, Nat.mod_lt _ (by decide), rfl⟩
  have h1 := bytesBE_digit k n (by omega)
  rw [hl, show l - 1 - k = l - (k + 1) from by omega] at h1
  have h2 : ((nmg n)[l - (k + 1)]'(by rw [nmg_size]; omega)) = (n / 256 ^ k % 256).toUInt8 := by
    rw [List.getElem?_eq_getElem (by omega), Option.some.injEq] at h1
    exact h1
  rw [h2, digit_byte]
  exact IntWalk.wrap64_in _ ⟨by omega, by omega⟩

set_option maxRecDepth 100000 in
set_option maxHeartbeats 2000000 in
theorem refAddMag_any (A B : Nat) (w : World) (ha : (bytesBE A).length ≤ 1000) (hb : (bytesBE B).length ≤ 1000) :
    Calls Try.prog 74 #[.string (nmg A), .string (nmg B)] w fun e w' => e = .returned (.string (nmg (A + B))) ∧ Below w.heap.size w w' := by
  have hsa := nmg_size A
  have hsb := nmg_size B
  obtain ⟨la, hla⟩ : ∃ la, (bytesBE A).length = la := ⟨_, rfl⟩
  obtain ⟨lb, hlb⟩ : ∃ lb, (bytesBE B).length = lb := ⟨_, rfl⟩
  have HLa := hid hla
  have HLb := hid hlb
  rw [hla] at hsa ha
  rw [hlb] at hsb hb
  clear hla hlb
  go_enter Try.func74, Try.ntmps74
  go_upto_region 1 with fail
  go_cut [5] (fun u wx => w = wx ∧ ∃ n : Nat, u = .int .i64 n ∧ n ≤ 1001 ∧ la < n ∧ lb < n)
  case first =>
    by_cases hll : la < lb
    · go_wp2
      go_meet
      exact ⟨rfl, lb + 1, by go_num, by omega, by omega, by omega⟩
    · go_wp2
      go_meet
      exact ⟨rfl, la + 1, by go_num, by omega, by omega, by omega⟩
  case rest =>
  obtain ⟨rfl, n, rfl, n1, n2, n3⟩ := hcut
  go_wp2_with (at_make; refine wpList_zeros _ rfl _ _ 22 rfl w.heap.size 5 (.int .u8 0) 1 Try.underlying22 Try.infoU8 rfl _ _ _ _ n rfl rfl (by omega) (by omega) (by omega) (by unfold maxLen; omega) (by simp) ?_; intro w1 hown1 hb1)
  go_loopw [7, 8] (fun c i wr => ∃ k : Nat, k ≤ n ∧ i = .int .i64 ((k : Int) + 1) ∧ c = .int .i64 (cry A B k : Nat) ∧ wr.ownsRow w.heap.size 5 1 (.slice (some ⟨w.heap.size, 0, none⟩) n n) n (Lib.byteCells (partN n (A + B) k)) ∧ Below w.heap.size w wr) (fun _ i _ => n + 1 - (intOf i).toNat)
  case atStart => exact ⟨0, by omega, rfl, by rw [cry_zero]; rfl, by rw [partN_zero]; exact hown1, hb1⟩
  case round =>
    obtain ⟨k, hk, rfl, rfl, hown, hbel⟩ := hrel
    clear hown1 hb1
    have hc1 := cry_le A B k
    by_cases hkn : k < n
    · have f2 := hown.frozenAt (n - 1 - k)
      have c2 := hown.cellAt (n - 1 - k) (by omega)
      have hp : (Lib.byteCells (partN n (A + B) k))[n - 1 - k]? = some (.int .u8 (((partN n (A + B) k).getD (n - 1 - k) 0).toNat : Int)) := by
        rw [List.getD_eq_getElem?_getD, Lib.byteCells, List.getElem?_map, List.getElem?_eq_getElem (by rw [partN_len]; omega)]; rfl
      rw [hp] at c2
      have HC1 := hid (cry_next A B k)
      have HC2 := hid (cry_digit A B k)
      have HSt := hid (partN_set (v := A + B) hkn)
      have HStd := hid (fun v => (hown.stored (n - 1 - k) v).1)
      have en : n - (k + 1) = n - 1 - k := by omega
      rw [← en] at c2 f2
      have HEn := hid en
      clear hp hown en
      generalize cry A B k = cn at *
      by_cases hka : k < la
      · obtain ⟨a, ha1, ha2, ha3⟩ := byte_read HLa.out hka
        by_cases hkb : k < lb
        · obtain ⟨b, hb1, hb2, hb3⟩ := byte_read HLb.out hkb
          go_wp2
          go_roundw
          case rel =>
            rw [ha3, hb3] at HC1 HC2
            exact ⟨k + 1, by omega, by go_num, int_eq (by rw [← HC1.out]; omega), by rw [← HSt.out, ← HC2.out, ← HEn.out]; have := HStd.out (.int .u8 (((cn + a + b) % 256 : Nat) : Int)); rw [← HEn.out] at this; exact this, hbel.setCell (p := ⟨w.heap.size, n - (k + 1), none⟩) (Nat.le_refl _) _⟩
          case measure => simp [intOf]; omega
        · have hb3 := digit_high (n := B) (k := k) (by rw [HLb.out]; omega)
          go_wp2
          go_roundw
          case rel =>
            rw [ha3, hb3] at HC1 HC2
            exact ⟨k + 1, by omega, by go_num, int_eq (by rw [← HC1.out]; omega), by rw [← HSt.out, ← HC2.out, ← HEn.out]; have := HStd.out (.int .u8 (((cn + a) % 256 : Nat) : Int)); rw [← HEn.out] at this; exact this, hbel.setCell (p := ⟨w.heap.size, n - (k + 1), none⟩) (Nat.le_refl _) _⟩
          case measure => simp [intOf]; omega
      · have ha3 := digit_high (n := A) (k := k) (by rw [HLa.out]; omega)
        by_cases hkb : k < lb
        · obtain ⟨b, hb1, hb2, hb3⟩ := byte_read HLb.out hkb
          go_wp2
          go_roundw
          case rel =>
            rw [ha3, hb3] at HC1 HC2
            exact ⟨k + 1, by omega, by go_num, int_eq (by rw [← HC1.out]; omega), by rw [← HSt.out, ← HC2.out, ← HEn.out]; have := HStd.out (.int .u8 (((cn + b) % 256 : Nat) : Int)); rw [← HEn.out] at this; exact this, hbel.setCell (p := ⟨w.heap.size, n - (k + 1), none⟩) (Nat.le_refl _) _⟩
          case measure => simp [intOf]; omega
        · have hb3 := digit_high (n := B) (k := k) (by rw [HLb.out]; omega)
          go_wp2
          go_roundw
          case rel =>
            rw [ha3, hb3] at HC1 HC2
            exact ⟨k + 1, by omega, by go_num, int_eq (by rw [← HC1.out]; omega), by rw [← HSt.out, ← HC2.out, ← HEn.out, show (cn + 0 + 0) % 256 = cn from by omega]; have := HStd.out (.int .u8 (cn : Int)); rw [← HEn.out] at this; exact this, hbel.setCell (p := ⟨w.heap.size, n - (k + 1), none⟩) (Nat.le_refl _) _⟩
          case measure => simp [intOf]; omega
    · obtain rfl : k = n := by omega
      have hlt : A + B < 256 ^ k := by
        have h1 := lt_pow_len A
        have h2 := lt_pow_len B
        have h3 : 256 ^ (bytesBE A).length ≤ 256 ^ (k - 1) := Nat.pow_le_pow_right (by decide) (by rw [HLa.out]; omega)
        have h4 : 256 ^ (bytesBE B).length ≤ 256 ^ (k - 1) := Nat.pow_le_pow_right (by decide) (by rw [HLb.out]; omega)
        have h5 : 256 ^ k = 256 ^ (k - 1) * 256 := by rw [← Nat.pow_succ]; congr 1; omega
        omega
      have HT := hid (trim_bytesN hlt)
      have HSz := hid (bytesN_len k (A + B))
      rw [partN_all] at hown
      clear hlt
      generalize bytesN k (A + B) = S at *
      have hconv := run_convert_bytes_back (P := Try.prog) wr 22 9 5 ⟨w.heap.size, 0, none⟩ k S Try.underlying22 Try.underlying5 Try.underlying9 (fun j hj => by
        have := hown.cells (g := w.heap.size) rfl j (.int .u8 (S[j].toNat : Int)) (by simp [Lib.byteCells, hj])
        exact this)
      rw [HSz.out] at hconv
      clear hown hc1
      go_wp2_with (go_at_call 95; refine (refTrim_any _ _ (by have := HSz.out; simp [ByteArray.size]; omega)).mono ?_; rintro e w2 ⟨rfl, rfl⟩)
      go_ret
      exact ⟨str_eq HT.out, hbel⟩
end Go.Proofs.Ytppflnkadjddiaa
