/-
  Plain arithmetic of digits: lists of digits to the base 2^32 (the least significant one first), and lists of bytes (the most significant one first).
  integer: trim, number, Of, digits: the representation of integers.
  integer.Of and digits.
  integer: add, compare, subtract on naturals; Add, Neg, Sub, Compare on integers.
  integer: compare and subtract on naturals.
  integer: Add, Neg, Sub, Compare.
  integer.Neg, Sub and Compare over numbers of up to 200000 digits.
  Conditions: No condition. No condition beyond bounds on the lengths. No condition beyond the int's own range and bounds on the lengths. No condition beyond bounds on the lengths. No condition beyond bounds on the lengths. No condition beyond bounds on the lengths. No condition beyond that size.
-/
import Derived.Test.YtieahckbbohfgaaGreatDoorLib
import Derived.Test.YtieahckbbohfgaaGreatDoorProg
import Derived.Lib.UnsafeStr
import Derived.Deep.RegionWith
import Derived.Deep.RegionHeld3
namespace Go.Proofs.YtieahckbbohfgaaGreatDoor

/-- The value of digits to the base 2^32. -/
def natv : List Int → Nat
  | [] => 0
  | d :: r => d.toNat + 4294967296 * natv r
/-- The digits of a number, without zeros at the end. -/
def digs (n : Nat) : List Int := if n = 0 then [] else ((n % 4294967296 : Nat) : Int) :: digs (n / 4294967296)
termination_by n
decreasing_by omega
theorem digs_zero : digs 0 = [] := by rw [digs]; simp
theorem digs_pos {n : Nat} (h : n ≠ 0) : digs n = ((n % 4294967296 : Nat) : Int) :: digs (n / 4294967296) := by rw [digs]; simp [h]
def U32 (l : List Int) : Prop := ∀ x ∈ l, 0 ≤ x ∧ x < 4294967296
theorem natv_append (l r : List Int) : natv (l ++ r) = natv l + 4294967296 ^ l.length * natv r := by
  induction l with
  | nil => simp [natv]
  | cons a l ih => simp only [List.cons_append, natv, ih, List.length_cons, Nat.pow_succ]; rw [Nat.mul_add, Nat.mul_comm (4294967296 ^ l.length) 4294967296, Nat.mul_assoc]; omega
theorem natv_snoc_zero (l : List Int) : natv (l ++ [0]) = natv l := by rw [natv_append]; simp [natv]
theorem natv_digs (n : Nat) : natv (digs n) = n := by
  induction n using Nat.strongRecOn with
  | _ n ih =>
    by_cases h : n = 0
    · subst h; simp [digs_zero, natv]
    · rw [digs_pos h, natv, ih _ (by omega)]
      have : ((n % 4294967296 : Nat) : Int).toNat = n % 4294967296 := by omega
      rw [this]; omega
theorem digs_u32 (n : Nat) : U32 (digs n) := by
  induction n using Nat.strongRecOn with
  | _ n ih =>
    by_cases h : n = 0
    · subst h; simp [digs_zero, U32]
    · rw [digs_pos h]
      intro x hx
      rcases List.mem_cons.1 hx with rfl | hx
      · omega
      · exact ih _ (by omega) x hx
theorem U32.tail {a : Int} {l : List Int} (h : U32 (a :: l)) : U32 l := fun x hx => h x (List.mem_cons_of_mem _ hx)
theorem U32.take {l : List Int} (h : U32 l) (k : Nat) : U32 (l.take k) := fun x hx => h x (List.mem_of_mem_take hx)
theorem U32.append {l r : List Int} (h : U32 l) (k : U32 r) : U32 (l ++ r) := fun x hx => (List.mem_append.1 hx).elim (h x) (k x)
/-- No zero at the end. -/
def Canon (l : List Int) : Prop := ∀ r, l ≠ r ++ [0]
theorem Canon.tail {a : Int} {l : List Int} (h : Canon (a :: l)) : Canon l := fun r hr => h (a :: r) (by rw [hr]; rfl)
theorem natv_ne_zero {l : List Int} (hu : U32 l) (hc : Canon l) (h : l ≠ []) : natv l ≠ 0 := by
  induction l with
  | nil => exact absurd rfl h
  | cons a l ih =>
    by_cases hl : l = []
    · subst hl
      have := hu a (by simp)
      have : a ≠ 0 := by rintro rfl; exact hc [] rfl
      simp only [natv]; omega
    · have := ih hu.tail hc.tail hl
      simp only [natv]; omega
theorem digs_natv {l : List Int} (hu : U32 l) (hc : Canon l) : digs (natv l) = l := by
  induction l with
  | nil => exact digs_zero
  | cons a l ih =>
    have hne := natv_ne_zero hu hc (by simp)
    have ha := hu a (by simp)
    rw [digs_pos hne, natv]
    have e1 : (a.toNat + 4294967296 * natv l) % 4294967296 = a.toNat := by omega
    have e2 : (a.toNat + 4294967296 * natv l) / 4294967296 = natv l := by omega
    rw [e1, e2, ih hu.tail hc.tail]
    congr 1
    omega
theorem natv_lt (l : List Int) (hu : U32 l) : natv l < 4294967296 ^ l.length := by
  induction l with
  | nil => simp [natv]
  | cons a l ih =>
    have := ih hu.tail
    have := hu a (by simp)
    simp only [natv, List.length_cons, Nat.pow_succ]; omega
theorem natv_zeros (n : Nat) : natv (List.replicate n 0) = 0 := by
  induction n with
  | zero => rfl
  | succ n ih => simp [List.replicate_succ, natv, ih]

/-- The bytes of a number, the most significant one first, without zeros in front. -/
def bytesBE (n : Nat) : List UInt8 := if n = 0 then [] else bytesBE (n / 256) ++ [(n % 256).toUInt8]
termination_by n
decreasing_by omega
theorem bytesBE_zero : bytesBE 0 = [] := by rw [bytesBE]; simp
theorem bytesBE_pos {n : Nat} (h : n ≠ 0) : bytesBE n = bytesBE (n / 256) ++ [(n % 256).toUInt8] := by
  conv => lhs; rw [bytesBE]
  simp [h]
theorem bytesBE_ne {n : Nat} (h : n ≠ 0) : bytesBE n ≠ [] := by rw [bytesBE_pos h]; simp
theorem bytesBE_push (v c : Nat) (hc : c < 256) (h : c ≠ 0 ∨ v ≠ 0) : bytesBE (256 * v + c) = bytesBE v ++ [c.toUInt8] := by
  have hne : 256 * v + c ≠ 0 := by omega
  rw [bytesBE_pos hne]
  have e1 : (256 * v + c) / 256 = v := by omega
  have e2 : (256 * v + c) % 256 = c := by omega
  rw [e1, e2]
/-- The value of bytes, the most significant one first. -/
def valBE (l : List UInt8) : Nat := l.foldl (fun a b => 256 * a + b.toNat) 0
theorem valBE_snoc (l : List UInt8) (b : UInt8) : valBE (l ++ [b]) = 256 * valBE l + b.toNat := by simp [valBE]
theorem valBE_bytes (n : Nat) : valBE (bytesBE n) = n := by
  induction n using Nat.strongRecOn with
  | _ n ih =>
    by_cases h : n = 0
    · subst h; simp [bytesBE_zero, valBE]
    · rw [bytesBE_pos h, valBE_snoc, ih _ (by omega)]
      have : ((n % 256).toUInt8).toNat = n % 256 := by simp
      omega
theorem bytesBE_inj {a b : Nat} (h : bytesBE a = bytesBE b) : a = b := by rw [← valBE_bytes a, h, valBE_bytes]
theorem bytesBE_len (n k : Nat) (h : n < 256 ^ k) : (bytesBE n).length ≤ k := by
  induction k generalizing n with
  | zero => have : n = 0 := by simpa using h
            subst this; simp [bytesBE_zero]
  | succ k ih =>
    by_cases h0 : n = 0
    · subst h0; simp [bytesBE_zero]
    · rw [bytesBE_pos h0, List.length_append]
      have := ih (n / 256) (by rw [Nat.pow_succ] at h; omega)
      simp only [List.length_singleton]; omega
theorem lt_pow_len (n : Nat) : n < 256 ^ (bytesBE n).length := by
  induction n using Nat.strongRecOn with
  | _ n ih =>
    by_cases h : n = 0
    · subst h; simp [bytesBE_zero]
    · have := ih (n / 256) (by omega)
      rw [bytesBE_pos h, List.length_append, List.length_singleton, Nat.pow_succ]
      omega
end Go.Proofs.YtieahckbbohfgaaGreatDoor

namespace Go.Proofs.YtieahckbbohfgaaGreatDoor
open Go.RowKit
set_option linter.unusedVariables false
theorem Tryz.info86 : (Tryz.prog.info? 41).map (fun i => (i.zero, i.size, i.bytes)) = some (some (.int .u32 0), 1, 4) := by kernel_rfl
theorem Tryz.infoU8 : (Tryz.prog.info? 5).map (fun i => (i.zero, i.size, i.bytes)) = some (some (.int .u8 0), 1, 1) := by kernel_rfl

def u32s (l : List Int) : List Value := l.map (.int .u32)
theorem u32s_len (l : List Int) : (u32s l).length = l.length := by simp [u32s]
theorem u32s_get {l : List Int} {k : Nat} {x : Int} (h : l[k]? = some x) : (u32s l)[k]? = some (.int .u32 x) := by simp [u32s, h]
theorem u32s_take (l : List Int) (k : Nat) : u32s (l.take k) = (u32s l).take k := by simp [u32s, List.map_take]

/-- A natural, as it is read: its digits without zeros at the end. -/
def Nt (w : World) (v : Value) (n : Nat) : Prop := Sl 1 w v (digs n).length (u32s (digs n))
theorem Nt.below {w w' : World} {v : Value} {n : Nat} (h : Nt w v n) (hb : Below w.heap.size w w') : Nt w' v n := Sl.below h hb

theorem Sl.take {w : World} {ao : Option Addr} {n cap : Nat} {cs : List Value} (h : Sl 1 w (.slice ao n cap) n cs) (k : Nat) (hk : k ≤ n) : Sl 1 w (.slice ao k cap) k (cs.take k) := by
  obtain ⟨ao', cap', hv, hl, h1, h2, h3⟩ := h
  simp only [Value.slice.injEq] at hv
  obtain ⟨rfl, _, rfl⟩ := hv
  refine ⟨ao, cap, rfl, by rw [List.length_take]; omega, by omega, h2, ?_⟩
  rcases h3 with h3 | ⟨b, o, rfl, h3⟩
  · exact .inl (by omega)
  · refine .inr ⟨b, o, rfl, fun j x hj => h3 j x ?_⟩
    rw [List.getElem?_take] at hj
    split at hj
    · exact hj
    · cases hj

set_option maxRecDepth 100000 in
set_option maxHeartbeats 1000000 in
theorem trim_any (v : Value) (l : List Int) (w : World) (hl : Sl 1 w v l.length (u32s l)) (hu : U32 l) :
    Calls Tryz.prog 150 #[v] w fun e w' => (∃ v', e = .returned v' ∧ Nt w v' (natv l)) ∧ w = w' := by
  have HS := hid hl
  obtain ⟨ao, cap, rfl, _, hc1, hm1, hs⟩ := hl
  clear hs
  have HU := hid hu
  clear hu
  go_enter Tryz.func150, Tryz.ntmps150
  go_wp2
  go_loop [0] (fun u => ∃ k : Nat, k ≤ l.length ∧ u = .slice ao k cap ∧ Hid (natv (l.take k) = natv l)) (fun u => lenOf u)
  case atStart => exact ⟨l.length, Nat.le_refl _, rfl, hid (by rw [take_all (Nat.le_refl _)])⟩
  case round =>
    obtain ⟨k, hk, rfl, HK⟩ := hrel
    have HT := hid (HS.out.take k hk)
    by_cases h0 : k = 0
    · subst h0
      go_wp2
      go_ret
      have e : natv l = 0 := by rw [← HK.out]; rfl
      exact ⟨⟨_, rfl, by rw [e, Nt, digs_zero]; exact HT.out⟩, rfl⟩
    · obtain ⟨x, hx⟩ := some_of_lt (l := l) (k := k - 1) (by omega)
      obtain ⟨b, o, rfl, c1⟩ := HS.out.cell (u32s_get hx)
      have HX := hid hx
      have hk1 : 1 ≤ k := by omega
      have hk0 : 0 < k := by omega
      clear hx h0
      have HE := hid (show l.take k = l.take (k - 1) ++ [x] by have := take_snoc HX.out; rwa [show k - 1 + 1 = k by omega] at this)
      by_cases hx0 : x = 0
      · have hb : (x == 0) = true := by simp [hx0]
        have HX0 := hid hx0
        clear hx0
        go_wp2
        go_round
        case rel => exact ⟨k - 1, by omega, rfl, hid (by rw [← HK.out, HE.out, HX0.out, natv_snoc_zero])⟩
        case measure => simp [lenOf]; omega
      · have hb : (x == 0) = false := by simp [hx0]
        have HX0 := hid hx0
        clear hx0
        go_wp2
        go_ret
        have hcan : Canon (l.take k) := by
          intro r hr
          rw [HE.out] at hr
          have := List.append_inj_right' hr rfl
          simp at this
          exact HX0.out this
        exact ⟨⟨_, rfl, by rw [← HK.out, Nt, digs_natv (HU.out.take k) hcan, List.length_take, show min k l.length = k by omega, u32s_take]; exact HT.out⟩, rfl⟩

theorem digs_len_le (l : List Int) (hu : U32 l) : (digs (natv l)).length ≤ l.length := by
  have key : ∀ n k, n < 4294967296 ^ k → (digs n).length ≤ k := by
    intro n
    induction n using Nat.strongRecOn with
    | _ n ih =>
      intro k h
      by_cases h0 : n = 0
      · subst h0; simp [digs_zero]
      · cases k with
        | zero => simp at h; omega
        | succ k =>
          rw [digs_pos h0, List.length_cons]
          have := ih (n / 4294967296) (by omega) k (by rw [Nat.pow_succ] at h; omega)
          omega
  exact key _ _ (natv_lt l hu)

/-- What has been written behind j bytes of the digit n. -/
def stp (V n j : Nat) : Nat := V * 256 ^ j + n / 256 ^ (4 - j)
theorem stp_zero (V n : Nat) (h : n < 4294967296) : stp V n 0 = V := by
  have : n / 4294967296 = 0 := by omega
  simp [stp, this]
theorem stp_four (V n : Nat) : stp V n 4 = n + 4294967296 * V := by simp [stp]; omega
theorem stp_succ (V n j : Nat) (h : j < 4) : stp V n (j + 1) = 256 * stp V n j + n / 256 ^ (3 - j) % 256 := by
  have e : 256 ^ (4 - j) = 256 ^ (3 - j) * 256 := by rw [← Nat.pow_succ]; congr 1; omega
  simp only [stp, e, ← Nat.div_div_eq_div_mul, show 4 - (j + 1) = 3 - j by omega, Nat.pow_succ]
  generalize n / 256 ^ (3 - j) = q
  rw [← Nat.mul_assoc, Nat.mul_add, Nat.mul_comm 256 (V * 256 ^ j)]
  omega
theorem shift_byte (n j : Nat) : (n : Int) / 2 ^ (8 * (3 - j)) % 256 = ((n / 256 ^ (3 - j) % 256 : Nat) : Int) := by
  have e : (2 : Int) ^ (8 * (3 - j)) = ((256 ^ (3 - j) : Nat) : Int) := by rw [show (256 : Nat) = 2 ^ 8 by decide, ← Nat.pow_mul]; simp
  rw [e]
  omega
theorem drop_lt {l : List Int} (hu : U32 l) (k : Nat) : natv (l.drop k) < 4294967296 ^ l.length := by
  have h1 := natv_lt (l.drop k) (fun x hx => hu x (List.mem_of_mem_drop hx))
  have h2 : 4294967296 ^ (l.drop k).length ≤ 4294967296 ^ l.length := Nat.pow_le_pow_right (by decide) (by simp)
  omega
theorem stp_lt {V n j L : Nat} (hn : n < 4294967296) (hV : V < 4294967296 ^ L) (hj : j ≤ 4) : stp V n j < 256 ^ (4 * L + 4) := by
  have e : 256 ^ (4 * L + 4) = 4294967296 ^ L * 4294967296 := by rw [Nat.pow_add, Nat.pow_mul]
  have h1 : 256 ^ j ≤ 256 ^ 4 := Nat.pow_le_pow_right (by decide) hj
  have h2 : n / 256 ^ (4 - j) < 256 ^ j := by
    rw [Nat.div_lt_iff_lt_mul (Nat.pow_pos (by decide)), ← Nat.pow_add, show j + (4 - j) = 4 by omega]
    exact hn
  rw [e, stp]
  calc V * 256 ^ j + n / 256 ^ (4 - j) < V * 256 ^ j + 256 ^ j := by omega
    _ = (V + 1) * 256 ^ j := by rw [Nat.add_mul, Nat.one_mul]
    _ ≤ 4294967296 ^ L * 4294967296 := Nat.mul_le_mul hV (by simpa using h1)

/-- The sign and the bytes of an integer, as the program holds them: 0 has no sign. -/
def nsg (neg : Bool) (n : Nat) : Bool := neg && decide (n ≠ 0)
def nmg (n : Nat) : ByteArray := ⟨(bytesBE n).toArray⟩
theorem nsg_false (n : Nat) : nsg false n = false := rfl

theorem byteCells_push (S c : Nat) (hc : c < 256) : Lib.byteCells (bytesBE S ++ [c.toUInt8]) = Lib.byteCells (bytesBE S) ++ [.int .u8 c] := by
  rw [Lib.byteCells_append]
  have : (c.toUInt8).toNat = c := by simp; omega
  simp [Lib.byteCells, this]
/-- The world in which number begins. -/
def numW (w : World) : World := w.alloc (.cells #[.bool false, .string ⟨#[]⟩] 56)
/-- What has been written, S, lies in the row at u. -/
def NumB (w : World) (S : Nat) (u : Value) (wr : World) : Prop := ∃ g gc, u = .slice (some ⟨g, 0, none⟩) (bytesBE S).length gc ∧
  wr.ownsRow (w.heap.size + 1) 5 1 (.slice (some ⟨g, 0, none⟩) (bytesBE S).length gc) (bytesBE S).length (Lib.byteCells (bytesBE S)) ∧ Below (w.heap.size + 1) (numW w) wr
def NumOut (w : World) (d : List Int) (u i : Value) (wr : World) : Prop := ∃ k : Nat, k ≤ d.length ∧ i = .int .i64 ((k : Int) - 1) ∧ NumB w (natv (d.drop k)) u wr
def NumIn (w : World) (V n : Nat) (u i : Value) (wr : World) : Prop := ∃ j : Nat, j ≤ 4 ∧ i = .int .i64 (3 - (j : Int)) ∧ NumB w (stp V n j) u wr

theorem numW_cells {w wr : World} (h : Below (w.heap.size + 1) (numW w) wr) :
    wr.cell? ⟨w.heap.size, 0, none⟩ = some (.bool false) ∧ wr.cell? ⟨w.heap.size, 1, none⟩ = some (.string ⟨#[]⟩) ∧ wr.frozen? ⟨w.heap.size, 0, none⟩ = false ∧ wr.frozen? ⟨w.heap.size, 1, none⟩ = false := by
  have hb : wr.heap[w.heap.size]? = some (.cells #[.bool false, .string ⟨#[]⟩] 56 (0, 0)) := by
    rw [h.block _ (by omega)]
    exact heap_alloc_new w _
  refine ⟨?_, ?_, ?_, ?_⟩ <;> simp [World.cell?, World.frozen?, hb]

set_option maxRecDepth 100000 in
set_option maxHeartbeats 4000000 in
theorem number_any (neg : Bool) (v : Value) (l : List Int) (w : World) (hl : Sl 1 w v l.length (u32s l)) (hu : U32 l) (hlen : l.length ≤ 1000000) :
    Calls Tryz.prog 114 #[.bool neg, v] w fun e w' => e = .returned (.agg #[.bool (nsg neg (natv l)), .string (nmg (natv l))]) ∧ Below w.heap.size w w' := by
  have htrim := trim_any v l (w.alloc (.cells #[.bool false, .string ⟨#[]⟩] 56)) (hl.below ((Below.refl _ _).alloc (Nat.le_refl _) _)) hu
  have hdl := digs_len_le l hu
  have HV := hid (natv_digs (natv l))
  have HU := hid (digs_u32 (natv l))
  unfold Nt at htrim
  generalize natv l = V at *
  generalize hd : digs V = d at *
  have HT := hid htrim
  have HD := hid hd
  clear hd hl hu htrim
  have hd6 : d.length ≤ 1000000 := by omega
  clear hdl hlen
  go_enter Tryz.func114, Tryz.ntmps114
  go_wp2_with fail
  refine HT.out.mono ?_
  rintro e w' ⟨⟨v', rfl, hN⟩, rfl⟩
  have HS := hid hN
  obtain ⟨ao, cap, rfl, _, hc1, hm1, hs⟩ := hN
  clear hs HT
  by_cases h0 : d.length = 0
  · have h0' : ((d.length : Int) == 0) = true := by simp [h0]
    have HV0 := hid (show V = 0 by have := HV.out; rw [List.eq_nil_of_length_eq_zero h0] at this; simpa [natv] using this.symm)
    clear h0
    go_wp2
    refine bodyPost_ret (v := .agg #[.bool false, .string ⟨#[]⟩]) ?_ rfl ⟨?_, (Below.refl _ _).alloc (Nat.le_refl _) _⟩
    · simp [results, Tryz.results114, go_sem]
    · rw [HV0.out, nsg, nmg, bytesBE_zero]
      simp
  · have h0' : ((d.length : Int) == 0) = false := by rw [beq_eq_false_iff_ne]; omega
    go_wp2_with (at_make; refine wpList_room0 _ rfl _ _ 67 rfl (w.heap.size + 1) 5 (.int .u8 0) 1 1 Tryz.underlying67 Tryz.infoU8 _ _ _ (4 * d.length) rfl rfl (by omega) (by omega) (by unfold maxLen; omega) (by simp) ?_; intro w1 hown1 hb1)
    simp only [World.size_alloc] at hown1 hb1
    have HN0 := hid (show d.length ≠ 0 from h0)
    clear h0 h0'
    go_loopw [5, 6] (fun u i wr => NumOut w d u i wr) (fun _ i _ => (intOf i + 1).toNat)
    case atStart => exact ⟨d.length, Nat.le_refl _, rfl, _, _, by rw [drop_all (Nat.le_refl _), natv, bytesBE_zero]; rfl, by rw [drop_all (Nat.le_refl _), natv, bytesBE_zero]; exact hown1, hb1⟩
    case round =>
      obtain ⟨k, hk, rfl, g, gc, rfl, hown, hbel⟩ := hrel
      by_cases hk0 : 1 ≤ k
      · obtain ⟨x, hx⟩ := some_of_lt (l := d) (k := k - 1) (by omega)
        obtain ⟨b, o, rfl, c0⟩ := HS.out.cell (u32s_get hx)
        have hx32 := HU.out x (List.mem_of_getElem? hx)
        have HX := hid hx
        clear hx
        obtain ⟨n, rfl⟩ := Int.eq_ofNat_of_zero_le hx32.1
        have hn32 : n < 4294967296 := by omega
        obtain ⟨V', hV'⟩ : ∃ V', V' = natv (d.drop k) := ⟨_, rfl⟩
        rw [← hV'] at hown ⊢
        have HV' := hid hV'
        clear hV' hx32
        go_wp2
        obtain ⟨wo, rfl⟩ : ∃ wo : World, wo = wr := ⟨_, rfl⟩
        go_loopw [5, 7] (fun u i wr => NumIn w V' n u i wr) (fun _ i _ => (intOf i + 1).toNat)
        case atStart => exact ⟨0, by omega, rfl, g, gc, by rw [stp_zero _ _ hn32], by rw [stp_zero _ _ hn32]; exact hown, hbel⟩
        case round =>
          obtain ⟨j, hj, rfl, g', gc', rfl, hown', hbel'⟩ := hrel
          by_cases hj4 : j < 4
          · obtain ⟨c, hc⟩ : ∃ c, c = n / 256 ^ (3 - j) % 256 := ⟨_, rfl⟩
            have hcr : (n : Int) / 2 ^ (8 * (3 - j)) % 256 = (c : Int) := by rw [hc, shift_byte]
            have hst := stp_succ V' n j hj4
            rw [← hc] at hst
            have hc256 : c < 256 := by omega
            have HC := hid hst
            have hSl := bytesBE_len (stp V' n j) (4 * d.length + 4) (stp_lt hn32 (by rw [HV'.out]; exact drop_lt HU.out k) hj)
            clear hc hst
            have c1 := (hbel'.cell (p := ⟨b, o + (k - 1), none⟩) (by have := World.block_lt_of_cell? _ _ c0; simp at this; exact this)).trans c0
            generalize stp V' n j = S at *
            have hj3 : (0 : Int) ≤ 3 - (j : Int) := by omega
            have hbs : w.heap.size + 1 ≤ wr.heap.size := by have := hbel'.size; simp [numW] at this; omega
            by_cases hp : c ≠ 0 ∨ S ≠ 0
            · have HP := hid (bytesBE_push S c hc256 hp)
              have hlen2 : (bytesBE (256 * S + c)).length = (bytesBE S).length + 1 := by rw [HP.out]; simp
              have HL := hid hlen2
              clear hlen2
              by_cases hcz : c = 0
              · have hS0 : 0 < (bytesBE S).length := List.length_pos_iff.2 (bytesBE_ne (by omega))
                have hcb : ((c : Int) != 0) = false := by simp [hcz]
                have HZ := hid hcz
                clear hp hcz
                go_wp2_with (at_builtin; refine wpList_push _ rfl _ _ 67 rfl (w.heap.size + 1) 5 (.int .u8 0) 1 1 Tryz.underlying67 Tryz.infoU8 rfl (by decide) _ _ _ rfl hown' #[.int .u8 c] rfl (oneCell_int _ _) rfl (by unfold maxLen; omega) (by omega) (by omega) ?_; intro g2 gc2 w2 hown2 hg2 hb2)
                go_roundw
                case rel => exact ⟨j + 1, by omega, int_eq (by omega), g2, gc2, by rw [HC.out, HL.out], by rw [HC.out, HL.out, HP.out, byteCells_push S c hc256]; exact hown2, hbel'.trans hb2⟩
                case measure => simp [intOf]; omega
              · have hcb : ((c : Int) != 0) = true := by simp [hcz]
                clear hp hcz
                go_wp2_with (at_builtin; refine wpList_push _ rfl _ _ 67 rfl (w.heap.size + 1) 5 (.int .u8 0) 1 1 Tryz.underlying67 Tryz.infoU8 rfl (by decide) _ _ _ rfl hown' #[.int .u8 c] rfl (oneCell_int _ _) rfl (by unfold maxLen; omega) (by omega) (by omega) ?_; intro g2 gc2 w2 hown2 hg2 hb2)
                go_roundw
                case rel => exact ⟨j + 1, by omega, int_eq (by omega), g2, gc2, by rw [HC.out, HL.out], by rw [HC.out, HL.out, HP.out, byteCells_push S c hc256]; exact hown2, hbel'.trans hb2⟩
                case measure => simp [intOf]; omega
            · obtain ⟨rfl, rfl⟩ : c = 0 ∧ S = 0 := by omega
              have e0 : (bytesBE 0).length = 0 := by rw [bytesBE_zero]; rfl
              rw [e0] at hown' ⊢
              go_wp2
              go_roundw
              case rel => exact ⟨j + 1, by omega, int_eq (by omega), g', gc', by rw [HC.out, Nat.mul_zero, Nat.add_zero, e0], by rw [HC.out, Nat.mul_zero, Nat.add_zero, e0]; exact hown', hbel'⟩
              case measure => simp [intOf]; omega
          · have hj4' : j = 4 := by omega
            subst hj4'
            have HE := hid (show natv (d.drop (k - 1)) = stp V' n 4 by rw [drop_cons HX.out, natv, stp_four, HV'.out, show k - 1 + 1 = k by omega]; simp)
            go_wp2
            go_roundw
            case rel => exact ⟨k - 1, by omega, int_eq (by omega), g', gc', by rw [HE.out], by rw [HE.out]; exact hown', hbel'⟩
            case measure => simp [intOf]; omega
      · have hk0' : k = 0 := by omega
        subst hk0'
        have eV : natv (d.drop 0) = V := by rw [List.drop_zero, HV.out]
        rw [eV] at hown ⊢
        have hconv := run_convert_bytes_back (P := Tryz.prog) wr 67 9 5 ⟨g, 0, none⟩ gc (bytesBE V) Tryz.underlying67 Tryz.underlying5 Tryz.underlying9 (fun j hj => by
          have := hown.cells (g := g) rfl j (.int .u8 ((bytesBE V)[j].toNat : Int)) (by simp [Lib.byteCells, hj])
          exact this)
        obtain ⟨m0, m1, m2, m3⟩ := numW_cells hbel
        have hbw : Below w.heap.size w wr := ((Below.refl w.heap.size w).alloc (Nat.le_refl _) _).trans (hbel.mono (by omega))
        have hs := hbel.size
        simp [numW] at hs
        clear hown HS hown1 hb1 hbel
        go_wp2
        refine bodyPost_ret (v := .agg #[.bool neg, .string ⟨(bytesBE V).toArray⟩]) ?_ rfl ⟨?_, (hbw.setCell (p := ⟨w.heap.size, 0, none⟩) (Nat.le_refl _) _).setCell (p := ⟨w.heap.size, 1, none⟩) (Nat.le_refl _) _⟩
        · simp [results, Tryz.results114, go_sem, m0, m1]
        · have hV0 : V ≠ 0 := by
            intro h
            have := HD.out
            rw [h, digs_zero] at this
            rw [← this] at HN0
            exact HN0.out rfl
          rw [nsg, decide_eq_true hV0, Bool.and_true, nmg]
end Go.Proofs.YtieahckbbohfgaaGreatDoor

namespace Go.Proofs.YtieahckbbohfgaaGreatDoor
open Go.RowKit
set_option linter.unusedVariables false

/-- The sign and the bytes of an integer. -/
def isg (n : Int) : Bool := decide (n < 0)
def img (n : Int) : ByteArray := nmg n.natAbs
theorem isg_of (neg : Bool) (m : Nat) : nsg neg m = isg (if neg then -(m : Int) else m) := by
  cases neg
  · simp [nsg, isg]; try omega
  · by_cases h : m = 0
    · subst h; simp [nsg, isg]
    · simp [nsg, isg, h]; try omega
theorem img_of (neg : Bool) (m : Nat) : nmg m = img (if neg then -(m : Int) else m) := by
  cases neg <;> simp [img]
theorem img_inj {a b : Int} (h1 : isg a = isg b) (h2 : img a = img b) : a = b := by
  have h3 : bytesBE a.natAbs = bytesBE b.natAbs := by simpa [img, nmg] using h2
  have h4 := bytesBE_inj h3
  simp only [isg, decide_eq_decide] at h1
  omega

theorem two_u32 (m : Nat) : U32 [((m : Int) % 4294967296), ((m : Int) / 4294967296 % 4294967296)] := by
  intro x hx
  simp only [List.mem_cons, List.not_mem_nil, or_false] at hx
  rcases hx with rfl | rfl <;> omega
theorem two_digits (m : Nat) (h : m < 18446744073709551616) : natv [((m : Int) % 4294967296), ((m : Int) / 4294967296 % 4294967296)] = m := by
  simp only [natv]
  omega
theorem below_head {w w1 : World} {o o' : Obj} (h : Below ((w.alloc o).alloc o').heap.size ((w.alloc o).alloc o') w1) : Below (w.heap.size + 1) (w.alloc o) w1 :=
  ((Below.refl _ (w.alloc o)).alloc (by simp) o').trans (h.mono (by simp))
/-- A slice that is laid whole, of two elements. -/
theorem Sl.lit2 (w : World) (x y : Value) (e : TypeId) (B : Nat) (hB : B = w.heap.size) : Sl 1 (w.alloc (.cells #[x, y] e)) (.slice (some ⟨B, 0, none⟩) 2 2) 2 [x, y] := by
  subst hB
  refine ⟨_, 2, rfl, by simp, by omega, by omega, .inr ⟨_, 0, rfl, fun j u hj => ?_⟩⟩
  rw [cell_of_row _ w.heap.size (0 + j) #[x, y] e (0, 0) (heap_alloc_new w _)]
  simpa using hj

set_option maxRecDepth 100000 in
set_option maxHeartbeats 1000000 in
theorem of_any (n : Int) (w : World) (h0 : -9223372036854775808 ≤ n) (h1 : n ≤ 9223372036854775807) :
    Calls Tryz.prog 85 #[.int .i64 n] w fun e w' => e = .returned (.agg #[.bool (isg n), .string (img n)]) ∧ Below w.heap.size w w' := by
  by_cases hn : n < 0
  · obtain ⟨U, hU, hm⟩ : ∃ U, IntKind.u64.wrap n = U ∧ IntKind.u64.wrap (-U) = -n := ⟨_, rfl, by rw [IntKind.wrap_u64, IntKind.wrap_u64]; omega⟩
    obtain ⟨m, hm1⟩ : ∃ m : Nat, -n = (m : Int) := ⟨(-n).toNat, by omega⟩
    rw [hm1] at hm
    have HI := hid (show nsg true m = isg n ∧ nmg m = img n by rw [isg_of, img_of true, if_pos rfl, ← hm1]; simp)
    have HL := hid (two_digits m (by omega))
    have HU := hid (two_u32 m)
    clear hm1
    go_enter Tryz.func85, Tryz.ntmps85
    go_wp2_with fail
    refine (number_any true _ [((m : Int) % 4294967296), ((m : Int) / 4294967296 % 4294967296)] _ (Sl.lit2 _ _ _ _ (w.heap.size + 1) (by simp)) HU.out (by simp)).mono ?_
    rintro e w1 ⟨rfl, hb⟩
    rw [HL.out, HI.out.1, HI.out.2]
    obtain ⟨m0, m1, m2, m3⟩ := numW_cells (w := w) (wr := w1) (below_head hb)
    have hbw := (((Below.refl w.heap.size w).alloc (Nat.le_refl _) (.cells #[.bool false, .string ⟨#[]⟩] 56))).trans ((below_head hb).mono (by omega))
    clear hb
    go_wp2
    refine bodyPost_ret (v := .agg #[.bool (isg n), .string (img n)]) ?_ rfl ⟨rfl, (hbw.setCell (p := ⟨w.heap.size, 0, none⟩) (Nat.le_refl _) _).setCell (p := ⟨w.heap.size, 1, none⟩) (Nat.le_refl _) _⟩
    simp [results, Tryz.results85, go_sem, m0, m1]
  · obtain ⟨m, hm1⟩ : ∃ m : Nat, n = (m : Int) := ⟨n.toNat, by omega⟩
    subst hm1
    have HI := hid (show nsg false m = isg m ∧ nmg m = img m by rw [isg_of, img_of false]; simp)
    have HL := hid (two_digits m (by omega))
    have HU := hid (two_u32 m)
    have he : (m : Int) / 4294967296 % 4294967296 = (m : Int) / 4294967296 := by omega
    rw [he] at HL HU
    clear he
    go_enter Tryz.func85, Tryz.ntmps85
    go_wp2_with fail
    refine (number_any false _ [((m : Int) % 4294967296), ((m : Int) / 4294967296)] _ (Sl.lit2 _ _ _ _ (w.heap.size + 1) (by simp)) HU.out (by simp)).mono ?_
    rintro e w1 ⟨rfl, hb⟩
    rw [HL.out, HI.out.1, HI.out.2]
    obtain ⟨m0, m1, m2, m3⟩ := numW_cells (w := w) (wr := w1) (below_head hb)
    have hbw := (((Below.refl w.heap.size w).alloc (Nat.le_refl _) (.cells #[.bool false, .string ⟨#[]⟩] 56))).trans ((below_head hb).mono (by omega))
    clear hb
    go_wp2
    refine bodyPost_ret (v := .agg #[.bool (isg m), .string (img m)]) ?_ rfl ⟨rfl, (hbw.setCell (p := ⟨w.heap.size, 0, none⟩) (Nat.le_refl _) _).setCell (p := ⟨w.heap.size, 1, none⟩) (Nat.le_refl _) _⟩
    simp [results, Tryz.results85, go_sem, m0, m1]

/-- L digits of t to the base 2^32. -/
def digsN (L t : Nat) : List Int := (List.range L).map fun j => ((t / 4294967296 ^ j % 4294967296 : Nat) : Int)
theorem digsN_len (L t : Nat) : (digsN L t).length = L := by simp [digsN]
theorem digsN_get (L t j : Nat) (h : j < L) : (digsN L t)[j]? = some ((t / 4294967296 ^ j % 4294967296 : Nat) : Int) := by simp [digsN, h]
theorem digsN_zero (L : Nat) : u32s (digsN L 0) = List.replicate L (.int .u32 0) := by
  apply List.ext_getElem?
  intro k
  by_cases hk : k < L <;> simp [u32s, digsN, hk]
theorem digsN_u32 (L t : Nat) : U32 (digsN L t) := by
  intro x hx
  simp only [digsN, List.mem_map] at hx
  obtain ⟨j, _, rfl⟩ := hx
  omega
theorem digsN_natv (L t : Nat) (h : t < 4294967296 ^ L) : natv (digsN L t) = t := by
  induction L generalizing t with
  | zero => have : t = 0 := by simpa using h
            subst this; rfl
  | succ L ih =>
    have e : digsN (L + 1) t = ((t % 4294967296 : Nat) : Int) :: digsN L (t / 4294967296) := by
      simp only [digsN, List.range_succ_eq_map, List.map_cons, List.map_map, Nat.pow_zero, Nat.div_one, List.cons.injEq, true_and]
      apply List.map_congr_left
      intro j _
      simp only [Function.comp, Nat.succ_eq_add_one, Nat.pow_succ, Nat.div_div_eq_div_mul]
      rw [Nat.mul_comm]
    rw [e, natv, ih _ (by rw [Nat.pow_succ] at h; exact (Nat.div_lt_iff_lt_mul (by decide)).2 h)]
    have : ((t % 4294967296 : Nat) : Int).toNat = t % 4294967296 := by omega
    rw [this]; omega
/-- One byte more, in front. -/
theorem digsN_step (L t c i : Nat) (hc : c < 256) (ht : t < 256 ^ i) (hi : i / 4 < L) :
    digsN L (t + c * 256 ^ i) = (digsN L t).set (i / 4) (((t / 4294967296 ^ (i / 4) % 4294967296 + c * 256 ^ (i % 4) : Nat)) : Int) ∧
    t / 4294967296 ^ (i / 4) % 4294967296 < 256 ^ (i % 4) ∧ t / 4294967296 ^ (i / 4) % 4294967296 + c * 256 ^ (i % 4) < 4294967296 := by
  have hp : 256 ^ i = 4294967296 ^ (i / 4) * 256 ^ (i % 4) := by
    conv => lhs; rw [← Nat.div_add_mod i 4, Nat.pow_add, Nat.pow_mul]
  have hP : 0 < 4294967296 ^ (i / 4) := Nat.pow_pos (by decide)
  have hq : t / 4294967296 ^ (i / 4) < 256 ^ (i % 4) := by
    rw [Nat.div_lt_iff_lt_mul hP, Nat.mul_comm, ← hp]; exact ht
  have h4 : i % 4 = 0 ∨ i % 4 = 1 ∨ i % 4 = 2 ∨ i % 4 = 3 := by omega
  have hsmall : t / 4294967296 ^ (i / 4) + c * 256 ^ (i % 4) < 4294967296 ∧ 256 ^ (i % 4) ≤ 16777216 := by
    rcases h4 with h | h | h | h <;> rw [h] at hq ⊢ <;> omega
  have hm : t / 4294967296 ^ (i / 4) % 4294967296 = t / 4294967296 ^ (i / 4) := Nat.mod_eq_of_lt (by omega)
  refine ⟨?_, by rw [hm]; exact hq, by rw [hm]; exact hsmall.1⟩
  rw [hm]
  have hsum : t + c * 256 ^ i = t + 4294967296 ^ (i / 4) * (c * 256 ^ (i % 4)) := by rw [hp, ← Nat.mul_assoc, ← Nat.mul_assoc, Nat.mul_comm c]
  apply List.ext_getElem?
  intro k
  rw [List.getElem?_set]
  by_cases hk : k < L
  · rw [digsN_get _ _ _ hk, digsN_get _ _ _ hk, digsN_len]
    by_cases e : i / 4 = k
    · rw [if_pos e, if_pos hi, ← e, hsum, Nat.add_mul_div_left _ _ hP, Nat.mod_eq_of_lt hsmall.1]
    · rw [if_neg e]
      congr 2
      rcases Nat.lt_or_gt_of_ne e with hlt | hgt
      · -- above: nothing is there
        have h1 : 4294967296 ^ (i / 4) * 4294967296 ≤ 4294967296 ^ k := by
          rw [← Nat.pow_succ]; exact Nat.pow_le_pow_right (by decide) hlt
        have h2 : t + c * 256 ^ i < 4294967296 ^ k := by
          rw [hsum]
          have : t < 4294967296 ^ (i / 4) * (t / 4294967296 ^ (i / 4) + 1) := Nat.lt_mul_div_succ t hP
          have h3 : t / 4294967296 ^ (i / 4) + 1 + c * 256 ^ (i % 4) ≤ 4294967296 := by omega
          have h4 := Nat.mul_le_mul_left (4294967296 ^ (i / 4)) h3
          rw [Nat.mul_add] at h4
          omega
        rw [Nat.div_eq_of_lt h2, Nat.div_eq_of_lt (by omega)]
      · -- below: a multiple of 2^32 more
        have e1 : 4294967296 ^ (i / 4) = 4294967296 ^ k * (4294967296 * 4294967296 ^ (i / 4 - k - 1)) := by
          rw [← Nat.pow_succ', ← Nat.pow_add]; congr 1; omega
        rw [hsum, e1, Nat.mul_assoc, Nat.add_mul_div_left _ _ (Nat.pow_pos (by decide)), Nat.mul_assoc, Nat.add_mul_mod_self_left]
  · simp [digsN, hk]; omega

/-- The value of the last i bytes. -/
def lastV (l : List UInt8) (i : Nat) : Nat := valBE (l.drop (l.length - i))
theorem valBE_cons (b : UInt8) (l : List UInt8) : valBE (b :: l) = b.toNat * 256 ^ l.length + valBE l := by
  have key : ∀ (l : List UInt8) (a : Nat), l.foldl (fun a b => 256 * a + b.toNat) a = a * 256 ^ l.length + valBE l := by
    intro l
    induction l with
    | nil => intro a; simp [valBE]
    | cons x l ih =>
      intro a
      simp only [List.foldl_cons, valBE, List.length_cons]
      rw [ih, ih, Nat.pow_succ, Nat.mul_zero, Nat.zero_add, Nat.add_mul, Nat.mul_comm 256 a, Nat.mul_assoc, Nat.mul_comm 256]
      omega
  simp only [valBE, List.foldl_cons]
  rw [key]
  simp [valBE]
theorem lastV_succ {l : List UInt8} {i : Nat} {b : UInt8} (h : i < l.length) (hb : l[l.length - 1 - i]? = some b) : lastV l (i + 1) = lastV l i + b.toNat * 256 ^ i := by
  unfold lastV
  have e : l.drop (l.length - (i + 1)) = b :: l.drop (l.length - i) := by
    rw [show l.length - (i + 1) = l.length - 1 - i by omega, drop_cons hb]
    congr 2; omega
  rw [e, valBE_cons, List.length_drop, show l.length - (l.length - i) = i by omega]
  omega
theorem lastV_lt (l : List UInt8) (i : Nat) (h : i ≤ l.length) : lastV l i < 256 ^ i := by
  induction i with
  | zero => simp [lastV, valBE]
  | succ i ih =>
    obtain ⟨b, hb⟩ := some_of_lt (l := l) (k := l.length - 1 - i) (by omega)
    rw [lastV_succ (by omega) hb, Nat.pow_succ]
    have h1 := ih (by omega)
    have h2 : b.toNat ≤ 255 := by have := b.toNat_lt; omega
    have h3 := Nat.mul_le_mul_right (256 ^ i) h2
    omega
theorem lastV_zero (l : List UInt8) : lastV l 0 = 0 := by simp [lastV, valBE]
theorem lastV_all (l : List UInt8) : lastV l l.length = valBE l := by simp [lastV]

theorem wraps_u32 : ∀ n : Int, 0 ≤ n → n < 2 ^ 32 → IntKind.u32.wrap n = n := by intro n h1 h2; rw [IntKind.wrap_u32]; omega
theorem shl_byte (c k : Nat) (hc : c < 256) : (c : Int) * 2 ^ (8 * (k % 4)) % 4294967296 = ((c * 256 ^ (k % 4) : Nat) : Int) := by
  have h4 : k % 4 = 0 ∨ k % 4 = 1 ∨ k % 4 = 2 ∨ k % 4 = 3 := by omega
  rcases h4 with h | h | h | h <;> rw [h] <;> simp <;> omega
theorem or_byte (d c i : Nat) (hd : d < 256 ^ (i % 4)) (hc : c < 256) : bits .or .u32 (d : Int) ((c * 256 ^ (i % 4) : Nat) : Int) = ((c * 256 ^ (i % 4) : Nat) : Int) + (d : Int) := by
  have hcm : bits .or .u32 (d : Int) ((c * 256 ^ (i % 4) : Nat) : Int) = bits .or .u32 ((c * 256 ^ (i % 4) : Nat) : Int) (d : Int) := by simp only [bits, BitVec.or_comm]
  have h4 : i % 4 = 0 ∨ i % 4 = 1 ∨ i % 4 = 2 ∨ i % 4 = 3 := by omega
  rw [hcm]
  have key : ∀ j : Nat, 256 ^ (i % 4) = 2 ^ j → j ≤ 24 → bits .or .u32 ((c * 256 ^ (i % 4) : Nat) : Int) (d : Int) = ((c * 256 ^ (i % 4) : Nat) : Int) + (d : Int) := by
    intro j hj hj24
    have hb : c * 256 ^ (i % 4) < 4294967296 := by
      rcases h4 with h | h | h | h <;> rw [h] <;> omega
    have hp : 2 ^ j ≤ 16777216 := Nat.pow_le_pow_right (n := 2) (by decide) hj24
    rw [hj] at hd hb ⊢
    refine bits_join .u32 32 (by decide) wraps_u32 j _ _ (by omega) ?_ (by omega) (by omega) (by exact_mod_cast hd) (by omega)
    exact_mod_cast Nat.mul_mod_left c (2 ^ j)
  rcases h4 with h | h | h | h
  · rw [key 0 (by rw [h]) (by decide)]
  · rw [key 8 (by rw [h]) (by decide)]
  · rw [key 16 (by rw [h]) (by decide)]
  · rw [key 24 (by rw [h]) (by decide)]

def DigRel (w : World) (s : ByteArray) (i : Value) (wr : World) : Prop := ∃ k : Nat, k ≤ s.size ∧ i = .int .i64 k ∧
  wr.ownsRow (w.heap.size + 1) 41 1 (.slice (some ⟨w.heap.size + 1, 0, none⟩) ((s.size + 3) / 4) ((s.size + 3) / 4)) ((s.size + 3) / 4) (u32s (digsN ((s.size + 3) / 4) (lastV s.data.toList k))) ∧
  wr.cell? ⟨w.heap.size, 1, none⟩ = some (.string s) ∧ Below w.heap.size w wr ∧ w.heap.size < wr.heap.size

set_option maxRecDepth 100000 in
set_option maxHeartbeats 4000000 in
theorem digits_any (b : Bool) (s : ByteArray) (w : World) (hs : s.size ≤ 1000000) :
    Calls Tryz.prog 117 #[.agg #[.bool b, .string s]] w fun e w' => (∃ v', e = .returned v' ∧ Nt w' v' (valBE s.data.toList)) ∧ Below w.heap.size w w' := by
  go_enter Tryz.func117, Tryz.ntmps117
  go_wp2_with (at_make; refine wpList_zeros _ rfl _ _ 162 rfl (w.heap.size + 1) 41 (.int .u32 0) 4 Tryz.underlying162 Tryz.info86 rfl _ _ _ _ ((s.size + 3) / 4) rfl rfl (by omega) (by omega) (by omega) (by unfold maxLen; omega) (by simp) ?_; intro w1 hown1 hb1; rw [World.size_alloc] at hown1 hb1; have k1 := cell_laid hb1 1 (v := .string s) rfl)
  have hb0 := below_laid hb1
  have hs1 := hb1.size
  rw [World.size_alloc] at hs1
  rw [← digsN_zero] at hown1
  go_loopw [15] (fun i wr => DigRel w s i wr) (fun i _ => s.size - (intOf i).toNat)
  case atStart => exact ⟨0, Nat.zero_le _, rfl, by rw [lastV_zero]; exact hown1, k1, hb0, by omega⟩
  case round =>
    obtain ⟨k, hk, rfl, hown, k1', hbel, hsz⟩ := hrel
    clear hown1 hb1 k1 hb0 hs1
    by_cases hlt : k < s.size
    · have hk' : s.size - 1 - k < s.size := by omega
      obtain ⟨c, hc⟩ : ∃ c, c = s[s.size - 1 - k]'hk' := ⟨_, rfl⟩
      have hlen : s.data.toList.length = s.size := by simp
      have hget : s.data.toList[s.data.toList.length - 1 - k]? = some c := by
        rw [hlen, List.getElem?_eq_getElem (by omega), hc]
        simp [ByteArray.getElem_eq_getElem_data]
      have hst := digsN_step ((s.size + 3) / 4) (lastV s.data.toList k) c.toNat k c.toNat_lt (lastV_lt _ _ (by omega)) (by omega)
      rw [← lastV_succ (by omega) hget] at hst
      obtain ⟨d, hd⟩ : ∃ d, d = lastV s.data.toList k / 4294967296 ^ (k / 4) % 4294967296 := ⟨_, rfl⟩
      rw [← hd] at hst
      have c2 := hown.cellAt (k / 4) (by omega)
      have f2 := hown.frozenAt (k / 4)
      rw [u32s_get (digsN_get _ _ _ (by omega)), ← hd] at c2
      have HST := hid hst
      have HC := hid hc
      have hcn : (s[s.size - 1 - k]'hk').toNat = c.toNat := by rw [hc]
      have hc256 : c.toNat < 256 := c.toNat_lt
      have hk4 : (k : Int) / 4 < ((s.size + 3) / 4 : Nat) := by omega
      have hk40 : 0 ≤ (k : Int) / 4 := by omega
      have hk4n : ((k : Int) / 4).toNat = k / 4 := by omega
      obtain ⟨E, hE⟩ : ∃ E, E = c.toNat * 256 ^ (k % 4) := ⟨_, rfl⟩
      have hsh : (c.toNat : Int) * 2 ^ (8 * (k % 4)) % 4294967296 = (E : Int) := by rw [hE]; exact shl_byte _ _ hc256
      have hor : bits .or .u32 (d : Int) (E : Int) = (d : Int) + (E : Int) := by rw [hE, or_byte _ _ _ hst.2.1 (by omega), Int.add_comm]
      have HE := hid hE
      clear hst hget hc hd hE
      go_wp2
      go_region
      go_wp2
      go_roundw
      case rel =>
        refine ⟨k + 1, by omega, by go_num, ?_, ?_, (hbel.setCell (p := ⟨w.heap.size + 1, k / 4, none⟩) (by simp) _).drew, by simpa using hsz⟩
        · have s1 := (hown.stored (k / 4) (.int .u32 ((d : Int) + (E : Int)))).1
          rw [HST.out.1, ← HE.out, Int.natCast_add]
          have e1 : u32s ((digsN ((s.size + 3) / 4) (lastV s.data.toList k)).set (k / 4) ((d : Int) + (E : Int))) = (u32s (digsN ((s.size + 3) / 4) (lastV s.data.toList k))).set (k / 4) (.int .u32 ((d : Int) + (E : Int))) := by simp [u32s, List.map_set]
          rw [e1]
          exact s1
        · exact (World.cell?_of_block (Below.heap_setCell _ _ _ _ (by simp))).trans k1'
      case measure => simp [intOf]; omega
    · have e : k = s.size := by omega
      subst e
      have hl : s.data.toList.length = s.size := by simp
      have hval : lastV s.data.toList s.size = valBE s.data.toList := by rw [← hl]; exact lastV_all _
      have hlt2 : valBE s.data.toList < 4294967296 ^ ((s.size + 3) / 4) := by
        have h1 := lastV_lt s.data.toList s.size (by omega)
        have h2 : 256 ^ s.size ≤ 256 ^ (4 * ((s.size + 3) / 4)) := Nat.pow_le_pow_right (by decide) (by omega)
        rw [Nat.pow_mul] at h2
        rw [hval] at h1
        exact Nat.lt_of_lt_of_le h1 h2
      have HN := hid (digsN_natv _ _ hlt2)
      rw [hval] at hown
      have hSl := Sl.of_owns hown
      have HU := hid (digsN_u32 ((s.size + 3) / 4) (valBE s.data.toList))
      clear hval hlt2 hl
      go_wp2_with fail
      refine (trim_any _ (digsN ((s.size + 3) / 4) (valBE s.data.toList)) _ (by rw [digsN_len]; exact hSl) HU.out).mono ?_
      rw [HN.out]
      rintro e w2 ⟨⟨v', rfl, hN⟩, rfl⟩
      go_wp2
      go_ret
      exact ⟨⟨_, rfl, hN⟩, hbel⟩
end Go.Proofs.YtieahckbbohfgaaGreatDoor

namespace Go.Proofs.YtieahckbbohfgaaGreatDoor
open Go.RowKit
set_option linter.unusedVariables false

/-- The k-th digit, or 0. -/
def dg (l : List Int) (k : Nat) : Int := l[k]?.getD 0
theorem natv_take_succ {l : List Int} {k : Nat} {x : Int} (h : l[k]? = some x) : natv (l.take (k + 1)) = natv (l.take k) + 4294967296 ^ k * x.toNat := by
  rw [take_snoc h, natv_append, List.length_take]
  have := lt_of_some h
  rw [show min k l.length = k by omega]
  simp [natv]
theorem natv_take_any (l : List Int) (k : Nat) : natv (l.take (k + 1)) = natv (l.take k) + 4294967296 ^ k * (dg l k).toNat := by
  by_cases h : k < l.length
  · obtain ⟨x, hx⟩ := some_of_lt h
    rw [natv_take_succ hx, dg, hx]; rfl
  · rw [take_all (by omega), take_all (by omega), dg, List.getElem?_eq_none (by omega)]; simp

/-- Behind k digits of the sum: the first k digits of out and the carry. -/
def AddRel (w : World) (x y : List Int) (c i : Value) (wr : World) : Prop := ∃ (k : Nat) (cn : Nat) (o : List Int), k ≤ x.length ∧ i = .int .i64 k ∧ c = .int .u64 cn ∧ cn ≤ 1 ∧ o.length = x.length + 1 ∧ U32 o ∧ (∀ j, k ≤ j → j < o.length → o[j]? = some 0) ∧
  natv (o.take k) + 4294967296 ^ k * cn = natv (x.take k) + natv (y.take k) ∧
  wr.ownsRow w.heap.size 41 1 (.slice (some ⟨w.heap.size, 0, none⟩) (x.length + 1) (x.length + 1)) (x.length + 1) (u32s o) ∧ Below w.heap.size w wr

theorem natv_set_take {l : List Int} {k : Nat} (x : Int) (h : k < l.length) : natv ((l.set k x).take (k + 1)) = natv (l.take k) + 4294967296 ^ k * x.toNat := by
  have hx : (l.set k x)[k]? = some x := by simp [h]
  rw [natv_take_succ hx]
  congr 2
  apply List.ext_getElem?
  intro j
  rw [List.getElem?_take, List.getElem?_take]
  split
  · rw [List.getElem?_set_ne (by omega)]
  · rfl
theorem U32.set {l : List Int} {k : Nat} {x : Int} (h : U32 l) (hx : 0 ≤ x ∧ x < 4294967296) : U32 (l.set k x) := by
  intro z hz
  rcases List.mem_or_eq_of_mem_set hz with hz | rfl
  · exact h z hz
  · exact hx
theorem add_next {w wr : World} {x y : List Int} {k cn s : Nat} {o : List Int} (hk : k < x.length) (hol : o.length = x.length + 1) (hou : U32 o) (hoz : ∀ j, k ≤ j → j < o.length → o[j]? = some 0)
    (hsum : natv (o.take k) + 4294967296 ^ k * cn = natv (x.take k) + natv (y.take k))
    (hown : wr.ownsRow w.heap.size 41 1 (.slice (some ⟨w.heap.size, 0, none⟩) (x.length + 1) (x.length + 1)) (x.length + 1) (u32s o)) (hbel : Below w.heap.size w wr)
    (hs : s < 8589934592) (hs2 : natv (x.take (k + 1)) + natv (y.take (k + 1)) + 4294967296 ^ k * cn = natv (x.take k) + natv (y.take k) + 4294967296 ^ k * s) :
    AddRel w x y (.int .u64 ((s / 4294967296 : Nat) : Int)) (.int .i64 ((k : Int) + 1)) (wr.setCell ⟨w.heap.size, k, none⟩ (.int .u32 ((s % 4294967296 : Nat) : Int))) := by
  have e1 : (u32s o).set k (.int .u32 ((s % 4294967296 : Nat) : Int)) = u32s (o.set k ((s % 4294967296 : Nat) : Int)) := by simp [u32s, List.map_set]
  refine ⟨k + 1, s / 4294967296, o.set k ((s % 4294967296 : Nat) : Int), by omega, rfl, rfl, by omega, by simp [hol], hou.set (by omega), ?_, ?_, ?_, hbel.setCell (p := ⟨w.heap.size, k, none⟩) (Nat.le_refl _) _⟩
  · intro j hj hjl
    rw [List.getElem?_set_ne (by omega)]
    exact hoz j (by omega) (by simpa using hjl)
  · rw [natv_set_take _ (by omega)]
    have h1 : ((s % 4294967296 : Nat) : Int).toNat = s % 4294967296 := by omega
    have h2 : 4294967296 ^ (k + 1) * (s / 4294967296) = 4294967296 ^ k * (4294967296 * (s / 4294967296)) := by rw [Nat.pow_succ, Nat.mul_assoc]
    have h3 : 4294967296 ^ k * (s % 4294967296) + 4294967296 ^ k * (4294967296 * (s / 4294967296)) = 4294967296 ^ k * s := by rw [← Nat.mul_add, Nat.mod_add_div]
    rw [h1, h2]
    omega
  · rw [← e1]
    exact (hown.stored k _).1

set_option maxRecDepth 100000 in
set_option maxHeartbeats 4000000 in
/-- The longer one first. -/
theorem add_long (v1 v2 : Value) (a b : Nat) (w : World) (h1 : Nt w v1 a) (h2 : Nt w v2 b) (hlen : (digs b).length ≤ (digs a).length) (hsz : (digs a).length ≤ 1000000) :
    Calls Tryz.prog 166 #[v1, v2] w fun e w' => (∃ v', e = .returned v' ∧ Nt w' v' (a + b)) ∧ Below w.heap.size w w' := by
  unfold Nt at h1 h2
  have HVa := hid (natv_digs a)
  have HVb := hid (natv_digs b)
  have HUa := hid (digs_u32 a)
  have HUb := hid (digs_u32 b)
  generalize digs a = x at *
  generalize digs b = y at *
  have HS1 := hid h1
  have HS2 := hid h2
  obtain ⟨ao1, cap1, rfl, _, _, _, hs1⟩ := h1
  obtain ⟨ao2, cap2, rfl, _, _, _, hs2⟩ := h2
  clear hs1 hs2
  have hnl : ¬ (x.length : Int) < (y.length : Int) := by omega
  go_enter Tryz.func166, Tryz.ntmps166
  go_wp2_with (at_make; refine wpList_zeros _ rfl _ _ 162 rfl w.heap.size 41 (.int .u32 0) 4 Tryz.underlying162 Tryz.info86 rfl _ _ _ _ (x.length + 1) rfl rfl (by omega) (by omega) (by omega) (by unfold maxLen; omega) (by simp) ?_; intro w1 hown1 hb1)
  go_loopw [6, 22] (fun c i wr => AddRel w x y c i wr) (fun _ i _ => x.length - (intOf i).toNat)
  case atStart => exact ⟨0, 0, List.replicate (x.length + 1) 0, Nat.zero_le _, rfl, rfl, by omega, by simp, by intro z hz; rw [List.eq_of_mem_replicate hz]; omega, by intro j _ hj; rw [List.length_replicate] at hj; simp [hj], by simp [natv], by simpa [u32s] using hown1, hb1⟩
  case round =>
    obtain ⟨k, cn, o, hk, rfl, rfl, hc1, hol, hou, hoz, hsum, hown, hbel⟩ := hrel
    clear hown1 hb1
    by_cases hlt : k < x.length
    · obtain ⟨d, hd⟩ := some_of_lt hlt
      obtain ⟨b1, o1, rfl, c1⟩ := (HS1.out.below hbel).cell (u32s_get hd)
      have hd32 := HUa.out d (List.mem_of_getElem? hd)
      obtain ⟨dn, rfl⟩ := Int.eq_ofNat_of_zero_le hd32.1
      have hdn : dn < 4294967296 := by omega
      have f2 := hown.frozenAt k
      have c2 := hown.cellAt k (by omega)
      rw [u32s_get (hoz k (Nat.le_refl _) (by omega))] at c2
      have HD := hid hd
      have HO := hid hoz
      have HSum := hid hsum
      have HU := hid hou
      have HL := hid hol
      clear hd hd32 hoz hsum hou hol
      by_cases hly : k < y.length
      · obtain ⟨e, he⟩ := some_of_lt hly
        obtain ⟨b2, o2, rfl, c3⟩ := (HS2.out.below hbel).cell (u32s_get he)
        have he32 := HUb.out e (List.mem_of_getElem? he)
        obtain ⟨en, rfl⟩ := Int.eq_ofNat_of_zero_le he32.1
        have hen : en < 4294967296 := by omega
        have HE := hid he
        clear he he32
        go_wp2
        go_roundw
        case rel =>
          rw [show ((dn : Int) + cn + en) / 4294967296 = ((dn + cn + en) / 4294967296 : Nat) by omega, show ((dn : Int) + cn + en) % 4294967296 = ((dn + cn + en) % 4294967296 : Nat) by omega]
          exact add_next hlt HL.out HU.out HO.out HSum.out hown hbel (by omega) (by rw [natv_take_succ HD.out, natv_take_succ HE.out]; simp only [Int.toNat_natCast, Nat.mul_add]; omega)
        case measure => simp [intOf]; omega
      · have HY := hid (show y.take (k + 1) = y.take k by rw [take_all (by omega), take_all (by omega)])
        go_wp2
        go_roundw
        case rel =>
          rw [show ((dn : Int) + cn) / 4294967296 = ((dn + cn) / 4294967296 : Nat) by omega, show ((dn : Int) + cn) % 4294967296 = ((dn + cn) % 4294967296 : Nat) by omega]
          exact add_next hlt HL.out HU.out HO.out HSum.out hown hbel (by omega) (by rw [natv_take_succ HD.out, HY.out]; simp only [Int.toNat_natCast, Nat.mul_add]; omega)
        case measure => simp [intOf]; omega
    · have e : k = x.length := by omega
      subst e
      have f2 := hown.frozenAt x.length
      have c2 := hown.cellAt x.length (by omega)
      rw [u32s_get (hoz _ (Nat.le_refl _) (by omega))] at c2
      have s1 := (hown.stored x.length (.int .u32 (cn : Int))).1
      have e1 : (u32s o).set x.length (.int .u32 (cn : Int)) = u32s (o.set x.length (cn : Int)) := by simp [u32s, List.map_set]
      rw [e1] at s1
      have hl2 : (o.set x.length (cn : Int)).length = x.length + 1 := by simp [hol]
      rw [← hl2] at s1
      have hsl := Sl.of_owns s1
      have hu2 : U32 (o.set x.length (cn : Int)) := U32.set hou (by omega)
      have hv : natv (o.set x.length (cn : Int)) = a + b := by
        have := natv_set_take (l := o) (k := x.length) (cn : Int) (by omega)
        rw [take_all (by simp [hol])] at this
        rw [this, Int.toNat_natCast, hsum, take_all (Nat.le_refl _), HVa.out, take_all hlen, HVb.out]
      have ht := trim_any _ (o.set x.length (cn : Int)) _ hsl hu2
      rw [hl2, hv] at ht
      have HT := hid ht
      clear ht hv hu2 hsl s1 e1 hoz hsum hou
      go_wp2_with (go_at_call 150; refine HT.out.mono ?_; rintro e w2 ⟨⟨v', rfl, hN⟩, rfl⟩)
      go_ret
      exact ⟨⟨_, rfl, hN⟩, hbel.setCell (p := ⟨w.heap.size, x.length, none⟩) (Nat.le_refl _) _⟩
set_option maxRecDepth 100000 in
set_option maxHeartbeats 4000000 in
/-- The shorter one first. -/
theorem add_short (v1 v2 : Value) (a b : Nat) (w : World) (h1 : Nt w v1 a) (h2 : Nt w v2 b) (hlen' : (digs b).length < (digs a).length) (hsz : (digs a).length ≤ 1000000) :
    Calls Tryz.prog 166 #[v2, v1] w fun e w' => (∃ v', e = .returned v' ∧ Nt w' v' (a + b)) ∧ Below w.heap.size w w' := by
  unfold Nt at h1 h2
  have HVa := hid (natv_digs a)
  have HVb := hid (natv_digs b)
  have HUa := hid (digs_u32 a)
  have HUb := hid (digs_u32 b)
  generalize digs a = x at *
  generalize digs b = y at *
  have HS1 := hid h1
  have HS2 := hid h2
  obtain ⟨ao1, cap1, rfl, _, _, _, hs1⟩ := h1
  obtain ⟨ao2, cap2, rfl, _, _, _, hs2⟩ := h2
  clear hs1 hs2
  have hlen : y.length ≤ x.length := by omega
  have hnl : (y.length : Int) < (x.length : Int) := by omega
  go_enter Tryz.func166, Tryz.ntmps166
  go_wp2_with (at_make; refine wpList_zeros _ rfl _ _ 162 rfl w.heap.size 41 (.int .u32 0) 4 Tryz.underlying162 Tryz.info86 rfl _ _ _ _ (x.length + 1) rfl rfl (by omega) (by omega) (by omega) (by unfold maxLen; omega) (by simp) ?_; intro w1 hown1 hb1)
  go_loopw [6, 22] (fun c i wr => AddRel w x y c i wr) (fun _ i _ => x.length - (intOf i).toNat)
  case atStart => exact ⟨0, 0, List.replicate (x.length + 1) 0, Nat.zero_le _, rfl, rfl, by omega, by simp, by intro z hz; rw [List.eq_of_mem_replicate hz]; omega, by intro j _ hj; rw [List.length_replicate] at hj; simp [hj], by simp [natv], by simpa [u32s] using hown1, hb1⟩
  case round =>
    obtain ⟨k, cn, o, hk, rfl, rfl, hc1, hol, hou, hoz, hsum, hown, hbel⟩ := hrel
    clear hown1 hb1
    by_cases hlt : k < x.length
    · obtain ⟨d, hd⟩ := some_of_lt hlt
      obtain ⟨b1, o1, rfl, c1⟩ := (HS1.out.below hbel).cell (u32s_get hd)
      have hd32 := HUa.out d (List.mem_of_getElem? hd)
      obtain ⟨dn, rfl⟩ := Int.eq_ofNat_of_zero_le hd32.1
      have hdn : dn < 4294967296 := by omega
      have f2 := hown.frozenAt k
      have c2 := hown.cellAt k (by omega)
      rw [u32s_get (hoz k (Nat.le_refl _) (by omega))] at c2
      have HD := hid hd
      have HO := hid hoz
      have HSum := hid hsum
      have HU := hid hou
      have HL := hid hol
      clear hd hd32 hoz hsum hou hol
      by_cases hly : k < y.length
      · obtain ⟨e, he⟩ := some_of_lt hly
        obtain ⟨b2, o2, rfl, c3⟩ := (HS2.out.below hbel).cell (u32s_get he)
        have he32 := HUb.out e (List.mem_of_getElem? he)
        obtain ⟨en, rfl⟩ := Int.eq_ofNat_of_zero_le he32.1
        have hen : en < 4294967296 := by omega
        have HE := hid he
        clear he he32
        go_wp2
        go_roundw
        case rel =>
          rw [show ((dn : Int) + cn + en) / 4294967296 = ((dn + cn + en) / 4294967296 : Nat) by omega, show ((dn : Int) + cn + en) % 4294967296 = ((dn + cn + en) % 4294967296 : Nat) by omega]
          exact add_next hlt HL.out HU.out HO.out HSum.out hown hbel (by omega) (by rw [natv_take_succ HD.out, natv_take_succ HE.out]; simp only [Int.toNat_natCast, Nat.mul_add]; omega)
        case measure => simp [intOf]; omega
      · have HY := hid (show y.take (k + 1) = y.take k by rw [take_all (by omega), take_all (by omega)])
        go_wp2
        go_roundw
        case rel =>
          rw [show ((dn : Int) + cn) / 4294967296 = ((dn + cn) / 4294967296 : Nat) by omega, show ((dn : Int) + cn) % 4294967296 = ((dn + cn) % 4294967296 : Nat) by omega]
          exact add_next hlt HL.out HU.out HO.out HSum.out hown hbel (by omega) (by rw [natv_take_succ HD.out, HY.out]; simp only [Int.toNat_natCast, Nat.mul_add]; omega)
        case measure => simp [intOf]; omega
    · have e : k = x.length := by omega
      subst e
      have f2 := hown.frozenAt x.length
      have c2 := hown.cellAt x.length (by omega)
      rw [u32s_get (hoz _ (Nat.le_refl _) (by omega))] at c2
      have s1 := (hown.stored x.length (.int .u32 (cn : Int))).1
      have e1 : (u32s o).set x.length (.int .u32 (cn : Int)) = u32s (o.set x.length (cn : Int)) := by simp [u32s, List.map_set]
      rw [e1] at s1
      have hl2 : (o.set x.length (cn : Int)).length = x.length + 1 := by simp [hol]
      rw [← hl2] at s1
      have hsl := Sl.of_owns s1
      have hu2 : U32 (o.set x.length (cn : Int)) := U32.set hou (by omega)
      have hv : natv (o.set x.length (cn : Int)) = a + b := by
        have := natv_set_take (l := o) (k := x.length) (cn : Int) (by omega)
        rw [take_all (by simp [hol])] at this
        rw [this, Int.toNat_natCast, hsum, take_all (Nat.le_refl _), HVa.out, take_all hlen, HVb.out]
      have ht := trim_any _ (o.set x.length (cn : Int)) _ hsl hu2
      rw [hl2, hv] at ht
      have HT := hid ht
      clear ht hv hu2 hsl s1 e1 hoz hsum hou
      go_wp2_with (go_at_call 150; refine HT.out.mono ?_; rintro e w2 ⟨⟨v', rfl, hN⟩, rfl⟩)
      go_ret
      exact ⟨⟨_, rfl, hN⟩, hbel.setCell (p := ⟨w.heap.size, x.length, none⟩) (Nat.le_refl _) _⟩

theorem add_any (v1 v2 : Value) (a b : Nat) (w : World) (h1 : Nt w v1 a) (h2 : Nt w v2 b) (hs1 : (digs a).length ≤ 1000000) (hs2 : (digs b).length ≤ 1000000) :
    Calls Tryz.prog 166 #[v1, v2] w fun e w' => (∃ v', e = .returned v' ∧ Nt w' v' (a + b)) ∧ Below w.heap.size w w' := by
  by_cases h : (digs b).length ≤ (digs a).length
  · exact add_long v1 v2 a b w h1 h2 h hs1
  · rw [Nat.add_comm]
    exact add_short v2 v1 b a w h2 h1 (by omega) hs2
end Go.Proofs.YtieahckbbohfgaaGreatDoor

namespace Go.Proofs.YtieahckbbohfgaaGreatDoor
open Go.RowKit
set_option linter.unusedVariables false

def cmpN (a b : Nat) : Int := if a < b then -1 else if b < a then 1 else 0
theorem natv_split {l : List Int} {k : Nat} {x : Int} (h : l[k]? = some x) : natv l = natv (l.take k) + 4294967296 ^ k * (x.toNat + 4294967296 * natv (l.drop (k + 1))) := by
  have hk := lt_of_some h
  have e : l = l.take k ++ (x :: l.drop (k + 1)) := by rw [← drop_cons h, List.take_append_drop]
  conv => lhs; rw [e]
  rw [natv_append, List.length_take, show min k l.length = k by omega]
  rfl
theorem natv_less {x y : List Int} {k : Nat} {a b : Int} (hx : U32 x) (hy : U32 y) (ha : x[k]? = some a) (hb : y[k]? = some b) (hd : x.drop (k + 1) = y.drop (k + 1)) (h : a < b) : natv x < natv y := by
  rw [natv_split ha, natv_split hb, hd]
  have h1 := natv_lt (x.take k) (hx.take k)
  rw [List.length_take, show min k x.length = k by have := lt_of_some ha; omega] at h1
  have ha0 := hx a (List.mem_of_getElem? ha)
  have h2 : a.toNat + 1 ≤ b.toNat := by omega
  generalize 4294967296 * natv (y.drop (k + 1)) = r
  have h3 : 4294967296 ^ k * (a.toNat + r + 1) ≤ 4294967296 ^ k * (b.toNat + r) := Nat.mul_le_mul_left _ (by omega)
  rw [Nat.mul_add, Nat.mul_one] at h3
  omega
theorem natv_ge {l : List Int} (hu : U32 l) (hc : Canon l) (h : l ≠ []) : 4294967296 ^ (l.length - 1) ≤ natv l := by
  have hk : l.length - 1 < l.length := by have := List.length_pos_iff.2 h; omega
  obtain ⟨x, hx⟩ := some_of_lt hk
  rw [natv_split hx, drop_all (by omega)]
  have hx0 : x ≠ 0 := by
    rintro rfl
    apply hc (l.take (l.length - 1))
    have := take_snoc hx
    rw [show l.length - 1 + 1 = l.length by omega, take_all (Nat.le_refl _)] at this
    exact this
  have h1 := hu x (List.mem_of_getElem? hx)
  have h2 : 1 ≤ x.toNat := by omega
  have h3 := Nat.mul_le_mul_left (4294967296 ^ (l.length - 1)) h2
  simp only [natv, Nat.mul_zero, Nat.add_zero]
  omega
theorem canon_digs (n : Nat) : Canon (digs n) := by
  induction n using Nat.strongRecOn with
  | _ n ih =>
    by_cases h : n = 0
    · subst h; rw [digs_zero]; intro r; simp
    · rw [digs_pos h]
      intro r hr
      cases r with
      | nil =>
        simp only [List.nil_append, List.cons.injEq] at hr
        have h2 : n / 4294967296 = 0 := by
          have := natv_digs (n / 4294967296)
          rw [hr.2] at this
          exact this.symm
        omega
      | cons a r =>
        simp only [List.cons_append, List.cons.injEq] at hr
        exact ih _ (by omega) r hr.2
theorem digs_len_lt {a b : Nat} (h : (digs a).length < (digs b).length) : a < b := by
  have h1 := natv_lt (digs a) (digs_u32 a)
  have h2 := natv_ge (digs_u32 b) (canon_digs b) (by intro e; rw [e] at h; simp at h)
  rw [natv_digs] at h1 h2
  have h3 : 4294967296 ^ (digs a).length ≤ 4294967296 ^ ((digs b).length - 1) := Nat.pow_le_pow_right (by decide) (by omega)
  omega

set_option maxRecDepth 100000 in
set_option maxHeartbeats 4000000 in
theorem compareN_any (v1 v2 : Value) (a b : Nat) (w : World) (h1 : Nt w v1 a) (h2 : Nt w v2 b) :
    Calls Tryz.prog 168 #[v1, v2] w fun e w' => e = .returned (.int .i64 (cmpN a b)) ∧ Dr w w' := by
  unfold Nt at h1 h2
  have hlt1 : (digs a).length < (digs b).length → cmpN a b = -1 := fun h => by rw [cmpN, if_pos (digs_len_lt h)]
  have hlt2 : (digs b).length < (digs a).length → cmpN a b = 1 := fun h => by have := digs_len_lt h; rw [cmpN, if_neg (by omega), if_pos this]
  have HVa := hid (natv_digs a)
  have HVb := hid (natv_digs b)
  have HUa := hid (digs_u32 a)
  have HUb := hid (digs_u32 b)
  generalize digs a = x at *
  generalize digs b = y at *
  have HS1 := hid h1
  have HS2 := hid h2
  obtain ⟨ao1, cap1, rfl, _, _, _, hs1⟩ := h1
  obtain ⟨ao2, cap2, rfl, _, _, _, hs2⟩ := h2
  clear hs1 hs2
  by_cases hne : x.length = y.length
  · have hb : ((x.length : Int) != (y.length : Int)) = false := by simp [hne]
    have HN := hid hne
    have hle : x.length ≤ y.length := by omega
    have hle' : y.length ≤ x.length := by omega
    clear hne hlt1 hlt2
    go_enter Tryz.func168, Tryz.ntmps168
    go_wp2
    go_loopw [5] (fun i wr => ∃ k : Nat, k ≤ x.length ∧ i = .int .i64 ((k : Int) - 1) ∧ Dr w wr ∧ Hid (x.drop k = y.drop k)) (fun i _ => (intOf i + 1).toNat)
    case atStart => exact ⟨x.length, Nat.le_refl _, rfl, Dr.refl _, hid (by rw [drop_all (Nat.le_refl _), drop_all hle'])⟩
    case round =>
      obtain ⟨k, hk, rfl, ⟨n, rfl⟩, HE⟩ := hrel
      have HD := hid (Dr.drewN (Dr.refl w) n)
      by_cases hk0 : 1 ≤ k
      · obtain ⟨d, hd⟩ := some_of_lt (l := x) (k := k - 1) (by omega)
        obtain ⟨e, he⟩ := some_of_lt (l := y) (k := k - 1) (by omega)
        obtain ⟨b1, o1, rfl, c1⟩ := HS1.out.cell (u32s_get hd)
        obtain ⟨b2, o2, rfl, c2⟩ := HS2.out.cell (u32s_get he)
        have HX := hid hd
        have HY := hid he
        have hd0 := (HUa.out d (List.mem_of_getElem? hd)).1
        have he0 := (HUb.out e (List.mem_of_getElem? he)).1
        have hi1 : (0 : Int) ≤ (k : Int) - 1 := by omega
        have hi2 : ((k : Int) - 1) < (x.length : Int) := by omega
        have hi3 : ((k : Int) - 1) < (y.length : Int) := by omega
        have hi4 : ((k : Int) - 1).toNat = k - 1 := by omega
        clear hd he
        by_cases hde : d = e
        · have hb' : (d != e) = false := by simp [hde]
          have HDE := hid hde
          clear hde
          go_wp2
          go_quiet (fail)
          go_wp2
          go_roundw
          case rel => exact ⟨k - 1, by omega, int_eq (by omega), (by first | exact ⟨_, rfl⟩ | exact HD.out.drewN _), hid (by rw [drop_cons HX.out, drop_cons HY.out, HDE.out, show k - 1 + 1 = k by omega, HE.out])⟩
          case measure => simp [intOf]; omega
        · have hb' : (d != e) = true := by simp [hde]
          have hdr : x.drop (k - 1 + 1) = y.drop (k - 1 + 1) := by rw [show k - 1 + 1 = k by omega]; exact HE.out
          by_cases hlt : d < e
          · have HR := hid (show cmpN a b = -1 by rw [cmpN, if_pos (by rw [← HVa.out, ← HVb.out]; exact natv_less HUa.out HUb.out HX.out HY.out hdr hlt)])
            clear hde hdr
            go_wp2
            go_quiet (fail)
            go_wp2
            go_quiet (fail)
            go_wp2
            go_ret
            exact ⟨ret_int HR.out.symm, (by first | exact ⟨_, rfl⟩ | exact HD.out.drewN _ | exact (HD.out.drewN _).drewN _)⟩
          · have hgt := natv_less HUb.out HUa.out HY.out HX.out hdr.symm (by omega)
            rw [HVa.out, HVb.out] at hgt
            have HR := hid (show cmpN a b = 1 by rw [cmpN, if_neg (by omega), if_pos hgt])
            clear hde hdr hgt
            go_wp2
            go_quiet (fail)
            go_wp2
            go_quiet (fail)
            go_wp2
            go_ret
            exact ⟨ret_int HR.out.symm, (by first | exact ⟨_, rfl⟩ | exact HD.out.drewN _ | exact (HD.out.drewN _).drewN _)⟩
      · have hk0' : k = 0 := by omega
        subst hk0'
        have HR := hid (show cmpN a b = 0 by
          have := HE.out
          rw [List.drop_zero, List.drop_zero] at this
          have e : a = b := by rw [← HVa.out, ← HVb.out, this]
          rw [e, cmpN, if_neg (by omega), if_neg (by omega)])
        go_wp2
        go_ret
        exact ⟨ret_int HR.out.symm, HD.out⟩
  · have hb : ((x.length : Int) != (y.length : Int)) = true := by simp; omega
    by_cases hlt : x.length < y.length
    · have HR := hid (hlt1 hlt)
      clear hne hlt1 hlt2
      go_enter Tryz.func168, Tryz.ntmps168
      go_wp2
      go_ret
      exact ⟨ret_int HR.out.symm, Dr.refl _⟩
    · have HR := hid (hlt2 (by omega))
      clear hlt1 hlt2
      go_enter Tryz.func168, Tryz.ntmps168
      go_wp2
      go_ret
      exact ⟨ret_int HR.out.symm, Dr.refl _⟩

/-- Behind k digits of the difference: the first k digits of out and the borrow. -/
def SubRel (w : World) (x y : List Int) (c i : Value) (wr : World) : Prop := ∃ (k : Nat) (cn : Nat) (o : List Int), k ≤ x.length ∧ i = .int .i64 k ∧ c = .int .i64 cn ∧ cn ≤ 1 ∧ o.length = x.length ∧ U32 o ∧ (∀ j, k ≤ j → j < o.length → o[j]? = some 0) ∧
  natv (x.take k) + 4294967296 ^ k * cn = natv (o.take k) + natv (y.take k) ∧
  wr.ownsRow w.heap.size 41 1 (.slice (some ⟨w.heap.size, 0, none⟩) x.length x.length) x.length (u32s o) ∧ Below w.heap.size w wr

theorem sub_next {w wr : World} {x y : List Int} {k cn d e s cn' : Nat} {o : List Int} (hk : k < x.length) (hol : o.length = x.length) (hou : U32 o) (hoz : ∀ j, k ≤ j → j < o.length → o[j]? = some 0)
    (hsum : natv (x.take k) + 4294967296 ^ k * cn = natv (o.take k) + natv (y.take k))
    (hown : wr.ownsRow w.heap.size 41 1 (.slice (some ⟨w.heap.size, 0, none⟩) x.length x.length) x.length (u32s o)) (hbel : Below w.heap.size w wr)
    (hx : natv (x.take (k + 1)) = natv (x.take k) + 4294967296 ^ k * d) (hy : natv (y.take (k + 1)) = natv (y.take k) + 4294967296 ^ k * e) (hs : s < 4294967296) (hc : cn' ≤ 1) (hd : d + 4294967296 * cn' = s + e + cn) :
    SubRel w x y (.int .i64 (cn' : Int)) (.int .i64 ((k : Int) + 1)) (wr.setCell ⟨w.heap.size, k, none⟩ (.int .u32 (s : Int))) := by
  have e1 : (u32s o).set k (.int .u32 (s : Int)) = u32s (o.set k (s : Int)) := by simp [u32s, List.map_set]
  refine ⟨k + 1, cn', o.set k (s : Int), by omega, rfl, rfl, hc, by simp [hol], hou.set (by omega), ?_, ?_, ?_, hbel.setCell (p := ⟨w.heap.size, k, none⟩) (Nat.le_refl _) _⟩
  · intro j hj hjl
    rw [List.getElem?_set_ne (by omega)]
    exact hoz j (by omega) (by simpa using hjl)
  · rw [natv_set_take _ (by omega), hx, hy, Int.toNat_natCast, Nat.pow_succ, Nat.mul_assoc]
    have h1 : 4294967296 ^ k * (d + 4294967296 * cn') = 4294967296 ^ k * (s + e + cn) := by rw [hd]
    simp only [Nat.mul_add] at h1
    omega
  · rw [← e1]
    exact (hown.stored k _).1

set_option maxRecDepth 100000 in
set_option maxHeartbeats 4000000 in
theorem subtract_any (v1 v2 : Value) (a b : Nat) (w : World) (h1 : Nt w v1 a) (h2 : Nt w v2 b) (hab : b ≤ a) (hsz : (digs a).length ≤ 1000000) :
    Calls Tryz.prog 167 #[v1, v2] w fun e w' => (∃ v', e = .returned v' ∧ Nt w' v' (a - b)) ∧ Below w.heap.size w w' := by
  have hlen : (digs b).length ≤ (digs a).length := by
    rcases Nat.lt_or_ge (digs a).length (digs b).length with h | h
    · have := digs_len_lt h; omega
    · exact h
  unfold Nt at h1 h2
  have HVa := hid (natv_digs a)
  have HVb := hid (natv_digs b)
  have HUa := hid (digs_u32 a)
  have HUb := hid (digs_u32 b)
  generalize digs a = x at *
  generalize digs b = y at *
  have HS1 := hid h1
  have HS2 := hid h2
  obtain ⟨ao1, cap1, rfl, _, _, _, hs1⟩ := h1
  obtain ⟨ao2, cap2, rfl, _, _, _, hs2⟩ := h2
  clear hs1 hs2
  have HAB := hid hab
  clear hab
  go_enter Tryz.func167, Tryz.ntmps167
  go_wp2_with (at_make; refine wpList_zeros _ rfl _ _ 162 rfl w.heap.size 41 (.int .u32 0) 4 Tryz.underlying162 Tryz.info86 rfl _ _ _ _ x.length rfl rfl rfl rfl (by omega) (by unfold maxLen; omega) (by simp) ?_; intro w1 hown1 hb1)
  go_loopw [6, 14] (fun c i wr => SubRel w x y c i wr) (fun _ i _ => x.length - (intOf i).toNat)
  case atStart => exact ⟨0, 0, List.replicate x.length 0, Nat.zero_le _, rfl, rfl, by omega, by simp, by intro z hz; rw [List.eq_of_mem_replicate hz]; omega, by intro j _ hj; rw [List.length_replicate] at hj; simp [hj], by simp [natv], by simpa [u32s] using hown1, hb1⟩
  case round =>
    obtain ⟨k, cn, o, hk, rfl, rfl, hc1, hol, hou, hoz, hsum, hown, hbel⟩ := hrel
    clear hown1 hb1
    by_cases hlt : k < x.length
    · obtain ⟨d, hd⟩ := some_of_lt hlt
      obtain ⟨b1, o1, rfl, c1⟩ := (HS1.out.below hbel).cell (u32s_get hd)
      have hd32 := HUa.out d (List.mem_of_getElem? hd)
      obtain ⟨dn, rfl⟩ := Int.eq_ofNat_of_zero_le hd32.1
      have hdn : dn < 4294967296 := by omega
      have f2 := hown.frozenAt k
      have c2 := hown.cellAt k (by omega)
      rw [u32s_get (hoz k (Nat.le_refl _) (by omega))] at c2
      have HD := hid hd
      have HO := hid hoz
      have HSum := hid hsum
      have HU := hid hou
      have HL := hid hol
      clear hd hd32 hoz hsum hou hol
      by_cases hly : k < y.length
      · obtain ⟨e, he⟩ := some_of_lt hly
        obtain ⟨b2, o2, rfl, c3⟩ := (HS2.out.below hbel).cell (u32s_get he)
        have he32 := HUb.out e (List.mem_of_getElem? he)
        obtain ⟨en, rfl⟩ := Int.eq_ofNat_of_zero_le he32.1
        have hen : en < 4294967296 := by omega
        have HE := hid he
        clear he he32
        by_cases hneg : dn < cn + en
        · have hw : IntKind.u32.wrap ((dn : Int) - cn - en + 4294967296) = ((dn + 4294967296 - cn - en : Nat) : Int) := by rw [IntKind.wrap_u32]; omega
          go_wp2
          go_roundw
          case rel => exact sub_next (cn' := 1) (s := dn + 4294967296 - cn - en) hlt HL.out HU.out HO.out HSum.out hown hbel (by rw [natv_take_succ HD.out]) (by rw [natv_take_succ HE.out]) (by omega) (by omega) (by omega)
          case measure => simp [intOf]; omega
        · go_wp2
          go_roundw
          case rel =>
            rw [show (dn : Int) - cn - en = ((dn - cn - en : Nat) : Int) by omega]
            exact sub_next (cn' := 0) (s := dn - cn - en) hlt HL.out HU.out HO.out HSum.out hown hbel (by rw [natv_take_succ HD.out]) (by rw [natv_take_succ HE.out]) (by omega) (by omega) (by omega)
          case measure => simp [intOf]; omega
      · have HY := hid (show y.take (k + 1) = y.take k by rw [take_all (by omega), take_all (by omega)])
        by_cases hneg : dn < cn
        · have hw : IntKind.u32.wrap ((dn : Int) - cn + 4294967296) = ((dn + 4294967296 - cn : Nat) : Int) := by rw [IntKind.wrap_u32]; omega
          go_wp2
          go_roundw
          case rel => exact sub_next (cn' := 1) (e := 0) (s := dn + 4294967296 - cn) hlt HL.out HU.out HO.out HSum.out hown hbel (by rw [natv_take_succ HD.out]) (by rw [HY.out]; simp) (by omega) (by omega) (by omega)
          case measure => simp [intOf]; omega
        · go_wp2
          go_roundw
          case rel =>
            rw [show (dn : Int) - cn = ((dn - cn : Nat) : Int) by omega]
            exact sub_next (cn' := 0) (e := 0) (s := dn - cn) hlt HL.out HU.out HO.out HSum.out hown hbel (by rw [natv_take_succ HD.out]) (by rw [HY.out]; simp) (by omega) (by omega) (by omega)
          case measure => simp [intOf]; omega
    · have e : k = x.length := by omega
      subst e
      have hsl := Sl.of_owns hown
      have hv : natv o = a - b := by
        rw [take_all (Nat.le_refl _), HVa.out, take_all (by omega : o.length ≤ x.length), take_all hlen, HVb.out] at hsum
        have h1 := natv_lt o hou
        rw [hol] at h1
        have hab := HAB.out
        rcases (by omega : cn = 0 ∨ cn = 1) with rfl | rfl
        · omega
        · rw [Nat.mul_one] at hsum
          omega
      rw [← hol] at hsl
      have ht := trim_any _ o _ hsl hou
      rw [hol, hv] at ht
      have HT := hid ht
      clear ht hv hsl hoz hsum hou
      go_wp2_with (go_at_call 150; refine HT.out.mono ?_; rintro e w2 ⟨⟨v', rfl, hN⟩, rfl⟩)
      go_ret
      exact ⟨⟨_, rfl, hN⟩, hbel⟩
end Go.Proofs.YtieahckbbohfgaaGreatDoor

namespace Go.Proofs.YtieahckbbohfgaaGreatDoor
open Go.RowKit
set_option linter.unusedVariables false

theorem img_val (n : Int) : valBE (img n).data.toList = n.natAbs := by simp [img, nmg, valBE_bytes]
/-- An integer of at most a million bytes. -/
def Fits (n : Int) : Prop := (bytesBE n.natAbs).length ≤ 200000
theorem Fits.size {n : Int} (h : Fits n) : (img n).size ≤ 200000 := by
  have h' : (bytesBE n.natAbs).length ≤ 200000 := h
  simpa [img, nmg, ByteArray.size] using h'
theorem bytes_digs (n : Nat) : (digs n).length ≤ (bytesBE n).length := by
  rcases Nat.lt_or_ge (bytesBE n).length (digs n).length with h | h
  · exfalso
    have h1 := lt_pow_len n
    have hne : digs n ≠ [] := by intro e; rw [e] at h; simp at h
    have h2 := natv_ge (digs_u32 n) (canon_digs n) hne
    rw [natv_digs] at h2
    have h3 : 256 ^ (bytesBE n).length ≤ 4294967296 ^ ((digs n).length - 1) :=
      Nat.le_trans (Nat.pow_le_pow_right (by decide) (by omega)) (Nat.pow_le_pow_left (by decide) _)
    omega
  · exact h
theorem Fits.digs {n : Int} (h : Fits n) : (digs n.natAbs).length ≤ 200000 := Nat.le_trans (bytes_digs _) h
theorem digitsI_any (n : Int) (w : World) (h : (img n).size ≤ 200000) :
    Calls Tryz.prog 117 #[.agg #[.bool (isg n), .string (img n)]] w fun e w' => (∃ v', e = .returned v' ∧ Nt w' v' n.natAbs) ∧ Below w.heap.size w w' := by
  have := digits_any (isg n) (img n) w (by omega)
  rwa [img_val] at this

theorem digs_len_of_lt {n k : Nat} (h : n < 4294967296 ^ k) : (digs n).length ≤ k := by
  rcases Nat.lt_or_ge k (digs n).length with hk | hk
  · exfalso
    have hne : digs n ≠ [] := by intro e; rw [e] at hk; simp at hk
    have h2 := natv_ge (digs_u32 n) (canon_digs n) hne
    rw [natv_digs] at h2
    have h3 : 4294967296 ^ k ≤ 4294967296 ^ ((digs n).length - 1) := Nat.pow_le_pow_right (by decide) (by omega)
    omega
  · exact hk
theorem lt_digs_pow (n : Nat) : n < 4294967296 ^ (digs n).length := by
  have := natv_lt (digs n) (digs_u32 n)
  rwa [natv_digs] at this
theorem digs_add_len (a b : Nat) : (digs (a + b)).length ≤ (digs a).length + (digs b).length + 1 := by
  apply digs_len_of_lt
  have h1 := lt_digs_pow a
  have h2 := lt_digs_pow b
  have h3 : 4294967296 ^ (digs a).length ≤ 4294967296 ^ ((digs a).length + (digs b).length) := Nat.pow_le_pow_right (by decide) (by omega)
  have h4 : 4294967296 ^ (digs b).length ≤ 4294967296 ^ ((digs a).length + (digs b).length) := Nat.pow_le_pow_right (by decide) (by omega)
  rw [Nat.pow_succ]
  omega
theorem digs_sub_len (a b : Nat) : (digs (a - b)).length ≤ (digs a).length := digs_len_of_lt (by have := lt_digs_pow a; omega)
theorem nsg_img {g : Bool} {m : Nat} {n : Int} (h : (if g then -(m : Int) else m) = n) : nsg g m = isg n ∧ nmg m = img n := by
  subst h
  exact ⟨isg_of g m, img_of g m⟩
theorem isg_true {n : Int} (h : isg n = true) : n < 0 := by simpa [isg] using h
theorem isg_false {n : Int} (h : isg n = false) : 0 ≤ n := by simpa [isg] using h
theorem add_same {a b : Int} (h : isg a = isg b) : nsg (isg b) (a.natAbs + b.natAbs) = isg (a + b) ∧ nmg (a.natAbs + b.natAbs) = img (a + b) := by
  apply nsg_img
  cases hb : isg b
  · have h1 := isg_false (h.trans hb); have h2 := isg_false hb; simp; omega
  · have h1 := isg_true (h.trans hb); have h2 := isg_true hb; simp; omega
theorem add_less {a b : Int} (h : ¬ isg a = isg b) (hl : a.natAbs < b.natAbs) : nsg (isg b) (b.natAbs - a.natAbs) = isg (a + b) ∧ nmg (b.natAbs - a.natAbs) = img (a + b) := by
  apply nsg_img
  cases hb : isg b
  · have h1 := isg_true (n := a) (by rw [hb] at h; simpa using h); have h2 := isg_false hb; simp; omega
  · have h1 := isg_false (n := a) (by rw [hb] at h; simpa using h); have h2 := isg_true hb; simp; omega
theorem add_more {a b : Int} (h : ¬ isg a = isg b) (hl : ¬ a.natAbs < b.natAbs) : nsg (isg a) (a.natAbs - b.natAbs) = isg (a + b) ∧ nmg (a.natAbs - b.natAbs) = img (a + b) := by
  apply nsg_img
  cases ha : isg a
  · have h1 := isg_true (n := b) (by rw [ha] at h; cases hb : isg b; · exact absurd hb.symm h
                                     · rfl); have h2 := isg_false ha; simp; omega
  · have h1 := isg_false (n := b) (by rw [ha] at h; cases hb : isg b; · rfl
                                      · exact absurd hb.symm h); have h2 := isg_true ha; simp; omega
/-- One call more. -/
theorem bel_step {w wc wd w' : World} (h : Below w.heap.size w wc) (hb : Below wd.heap.size wd w') (hd : wd.os = wc.os ∧ wd.tape = wc.tape ∧ wd.output = wc.output ∧ wd.heap = wc.heap := by exact ⟨rfl, rfl, rfl, rfl⟩) : Below w.heap.size w w' := by
  obtain ⟨d1, d2, d3, d4⟩ := hd
  refine h.trans ⟨hb.os.trans d1, hb.tape.trans d2, hb.output.trans d3, by rw [← d4]; exact hb.size, fun k hk => ?_⟩
  rw [hb.block k (by rw [d4]; have := h.size; omega), d4]
/-- Between the digits and the sum. -/
def AddCut (w : World) (a b : Int) (u v : Value) (wx : World) : Prop :=
  Nt wx u a.natAbs ∧ Nt wx v b.natAbs ∧ Below w.heap.size w wx ∧ w.heap.size + 3 ≤ wx.heap.size ∧
  wx.cell? ⟨w.heap.size, 0, none⟩ = some (.bool (isg a)) ∧ wx.cell? ⟨w.heap.size + 1, 0, none⟩ = some (.bool (isg b)) ∧
  wx.heap[w.heap.size + 2]? = some (.cells #[.bool false, .string ⟨#[]⟩] 56 (0, 0))

set_option maxRecDepth 100000 in
set_option maxHeartbeats 4000000 in
theorem addI_any (a b : Int) (w : World) (ha : Fits a) (hb : Fits b) :
    Calls Tryz.prog 146 #[.agg #[.bool (isg a), .string (img a)], .agg #[.bool (isg b), .string (img b)]] w fun e w' => e = .returned (.agg #[.bool (isg (a + b)), .string (img (a + b))]) ∧ Below w.heap.size w w' := by
  have ha1 := ha.size
  have hb1 := hb.size
  have HA := hid ha
  have HB := hid hb
  clear ha hb
  go_enter Tryz.func146, Tryz.ntmps146
  go_upto_region 1 with fail
  go_cut [5, 6] (fun u v wx => AddCut w a b u v wx)
  case first =>
    obtain ⟨W, hW⟩ : ∃ W, ((w.alloc (.cells #[.bool (isg a), .string (img a)] 56)).alloc (.cells #[.bool (isg b), .string (img b)] 56)).alloc (.cells #[.bool false, .string ⟨#[]⟩] 56) = W := ⟨_, rfl⟩
    have e1 : W.cell? ⟨w.heap.size, 0, none⟩ = some (.bool (isg a)) := by rw [← hW]; simp [go_sem]
    have e2 : W.cell? ⟨w.heap.size, 1, none⟩ = some (.string (img a)) := by rw [← hW]; simp [go_sem]
    have e3 : W.cell? ⟨w.heap.size + 1, 0, none⟩ = some (.bool (isg b)) := by rw [← hW]; simp [go_sem]
    have e4 : W.cell? ⟨w.heap.size + 1, 1, none⟩ = some (.string (img b)) := by rw [← hW]; simp [go_sem]
    have hW0 : Below w.heap.size w W := by
      rw [← hW]
      exact (((Below.refl _ _).alloc (Nat.le_refl _) _).alloc (by simp) _).alloc (by simp; omega) _
    have hWs : W.heap.size = w.heap.size + 3 := by rw [← hW]; simp [go_sem]
    have e5 : W.heap[w.heap.size + 2]? = some (.cells #[.bool false, .string ⟨#[]⟩] 56 (0, 0)) := by
      rw [← hW]
      have := heap_alloc_new ((w.alloc (.cells #[.bool (isg a), .string (img a)] 56)).alloc (.cells #[.bool (isg b), .string (img b)] 56)) (.cells #[.bool false, .string ⟨#[]⟩] 56)
      simpa [World.size_alloc] using this
    rw [hW]
    clear hW
    have hWs := hid hWs
    have hW0 := hid hW0
    have e5 := hid e5
    go_region_held3 (fun w' => w'.cell? ⟨w.heap.size, 0, none⟩ = some (.bool (isg a)) ∧ w'.cell? ⟨w.heap.size, 1, none⟩ = some (.string (img a)) ∧ w'.cell? ⟨w.heap.size + 1, 0, none⟩ = some (.bool (isg b)) ∧ w'.cell? ⟨w.heap.size + 1, 1, none⟩ = some (.string (img b)))
      (first | exact ⟨e1, e2, e3, e4⟩ | go_keep)
      (first | (go_at_call 117; refine (digitsI_any _ _ (by first | assumption)).mono ?_; rintro e w' ⟨⟨v', rfl, hN⟩, hb⟩; have e1 := keeps hb e1; have e2 := keeps hb e2; have e3 := keeps hb e3; have e4 := keeps hb e4))
    all_goals go_wp2_with fail
    all_goals go_meet
    rename_i w1 b1 v1 n1 g1 g2 g3 g4 h1
    have hbb : Below W.heap.size W w' := by
      have hb' : Below W.heap.size w1 w' := hb.mono b1.size
      exact ((below_drewN (Below.refl W.heap.size W) 1).trans b1).trans hb'
    exact ⟨n1.below hb, hN, hW0.out.trans (hbb.mono (by have := hWs.out; omega)), by have := hWs.out; have := hbb.size; omega, e1, e3, by rw [hbb.block _ (by have := hWs.out; omega)]; exact e5.out⟩
  case rest =>
    obtain ⟨hN1, hN2, hbel, hsz, e1, e3, e5⟩ := hcut
    have hda := HA.out.digs
    have hdb := HB.out.digs
    have c5 : wc.cell? ⟨w.heap.size + 1 + 1, 0, none⟩ = some (.bool false) := by rw [cell_of_row _ (w.heap.size + 1 + 1) 0 _ _ _ e5]; rfl
    have c6 : wc.cell? ⟨w.heap.size + 1 + 1, 1, none⟩ = some (.string ⟨#[]⟩) := by rw [cell_of_row _ (w.heap.size + 1 + 1) 1 _ _ _ e5]; rfl
    have f5 : wc.frozen? ⟨w.heap.size + 1 + 1, 0, none⟩ = false := by simp [World.frozen?, e5]
    have f6 : wc.frozen? ⟨w.heap.size + 1 + 1, 1, none⟩ = false := by simp [World.frozen?, e5]
    have e5 := hid e5
    by_cases hs : isg a = isg b
    · have hs' : (isg a == isg b) = true := by simp [hs]
      have hdab := digs_add_len a.natAbs b.natAbs
      go_upto_region 3 with fail
      rw [hs] at e1
      go_region_held3 (fun w' => w'.cell? ⟨w.heap.size, 0, none⟩ = some (.bool (isg b)))
        (first | exact e1 | (rw [World.cell?_setCell_far _ _ _ _ (show w.heap.size + 1 + 1 ≠ w.heap.size by omega), World.cell?_setCell_far _ _ _ _ (show w.heap.size + 1 + 1 ≠ w.heap.size by omega)]; exact e1) | go_keep)
        (first
          | (go_at_call 166; refine (add_any _ _ a.natAbs b.natAbs _ (hN1.below (Dr.below ⟨_, rfl⟩ _)) (hN2.below (Dr.below ⟨_, rfl⟩ _)) (by omega) (by omega)).mono ?_; rintro e w' ⟨⟨v', rfl, hN⟩, hb⟩; have hbel := bel_step hbel hb; have e1 := keeps hb e1; have f5 := keeps_frozen hb c5 f5; have f6 := keeps_frozen hb c6 f6; have c5 := keeps hb c5; have c6 := keeps hb c6)
          | (go_at_call 114; refine (number_any _ _ _ _ hN (digs_u32 _) (by omega)).mono ?_; rintro e w' ⟨rfl, hb⟩; have hbel := bel_step hbel hb; have e1 := keeps hb e1; have f5 := keeps_frozen hb c5 f5; have f6 := keeps_frozen hb c6 f6; have c5 := keeps hb c5; have c6 := keeps hb c6))
      all_goals go_wp2_with fail
      refine bodyPost_ret (v := .agg #[.bool (isg (a + b)), .string (img (a + b))]) ?_ rfl ⟨rfl, ?_⟩
      · simp [results, Tryz.results146, go_sem, c5, c6]
        rw [natv_digs]
        exact add_same hs
      · exact (hbel.setCell (by simp; omega) _).setCell (by simp; omega) _
    · have hs' : (isg a == isg b) = false := by simp [hs]
      go_upto_region 4 with fail
      go_wp2_with fail
      refine (compareN_any _ _ a.natAbs b.natAbs _ hN1 hN2).mono ?_
      rintro e w1 ⟨rfl, hD⟩
      have hbD := hD.below wc.heap.size
      have hN1 := hN1.below hbD
      have hN2 := hN2.below hbD
      have hbel := bel_step hbel hbD
      have e1 := keeps hbD e1; have e3 := keeps hbD e3; have f5 := keeps_frozen hbD c5 f5; have f6 := keeps_frozen hbD c6 f6; have c5 := keeps hbD c5; have c6 := keeps hbD c6
      clear hD hbD
      by_cases hl : a.natAbs < b.natAbs
      · have hc : cmpN a.natAbs b.natAbs = -1 := by rw [cmpN, if_pos hl]
        rw [hc]
        have hds := digs_sub_len b.natAbs a.natAbs
        go_upto_region 5 with fail
        go_region_held3 (fun w' => w'.cell? ⟨w.heap.size + 1, 0, none⟩ = some (.bool (isg b)))
          (first | exact e3 | (rw [World.cell?_setCell_far _ _ _ _ (show w.heap.size + 1 + 1 ≠ w.heap.size + 1 by omega), World.cell?_setCell_far _ _ _ _ (show w.heap.size + 1 + 1 ≠ w.heap.size + 1 by omega)]; exact e3) | go_keep)
          (first
            | (go_at_call 167; refine (subtract_any _ _ b.natAbs a.natAbs _ (hN2.below (Dr.below ⟨_, rfl⟩ _)) (hN1.below (Dr.below ⟨_, rfl⟩ _)) (by omega) (by omega)).mono ?_; rintro e w' ⟨⟨v', rfl, hN⟩, hb⟩; have hbel := bel_step hbel hb; have e3 := keeps hb e3; have f5 := keeps_frozen hb c5 f5; have f6 := keeps_frozen hb c6 f6; have c5 := keeps hb c5; have c6 := keeps hb c6)
            | (go_at_call 114; refine (number_any _ _ _ _ hN (digs_u32 _) (by omega)).mono ?_; rintro e w' ⟨rfl, hb⟩; have hbel := bel_step hbel hb; have e3 := keeps hb e3; have f5 := keeps_frozen hb c5 f5; have f6 := keeps_frozen hb c6 f6; have c5 := keeps hb c5; have c6 := keeps hb c6))
        all_goals go_wp2_with fail
        refine bodyPost_ret (v := .agg #[.bool (isg (a + b)), .string (img (a + b))]) ?_ rfl ⟨rfl, ?_⟩
        · simp [results, Tryz.results146, go_sem, c5, c6]
          rw [natv_digs]
          exact add_less hs hl
        · exact (hbel.setCell (by simp; omega) _).setCell (by simp; omega) _
      · have hc : decide (cmpN a.natAbs b.natAbs < 0) = false := by rw [cmpN, if_neg hl]; split <;> simp
        have hds := digs_sub_len a.natAbs b.natAbs
        go_upto_region 6 with fail
        go_region_held3 (fun w' => w'.cell? ⟨w.heap.size, 0, none⟩ = some (.bool (isg a)))
          (first | exact e1 | (rw [World.cell?_setCell_far _ _ _ _ (show w.heap.size + 1 + 1 ≠ w.heap.size by omega), World.cell?_setCell_far _ _ _ _ (show w.heap.size + 1 + 1 ≠ w.heap.size by omega)]; exact e1) | go_keep)
          (first
            | (go_at_call 167; refine (subtract_any _ _ a.natAbs b.natAbs _ (hN1.below (Dr.below ⟨_, rfl⟩ _)) (hN2.below (Dr.below ⟨_, rfl⟩ _)) (by omega) (by omega)).mono ?_; rintro e w' ⟨⟨v', rfl, hN⟩, hb⟩; have hbel := bel_step hbel hb; have e1 := keeps hb e1; have f5 := keeps_frozen hb c5 f5; have f6 := keeps_frozen hb c6 f6; have c5 := keeps hb c5; have c6 := keeps hb c6)
            | (go_at_call 114; refine (number_any _ _ _ _ hN (digs_u32 _) (by omega)).mono ?_; rintro e w' ⟨rfl, hb⟩; have hbel := bel_step hbel hb; have e1 := keeps hb e1; have f5 := keeps_frozen hb c5 f5; have f6 := keeps_frozen hb c6 f6; have c5 := keeps hb c5; have c6 := keeps hb c6))
        all_goals go_wp2_with fail
        refine bodyPost_ret (v := .agg #[.bool (isg (a + b)), .string (img (a + b))]) ?_ rfl ⟨rfl, ?_⟩
        · simp [results, Tryz.results146, go_sem, c5, c6]
          rw [natv_digs]
          exact add_more hs hl
        · exact (hbel.setCell (by simp; omega) _).setCell (by simp; omega) _
end Go.Proofs.YtieahckbbohfgaaGreatDoor

namespace Go.Proofs.YtieahckbbohfgaaGreatDoor
open Go.RowKit
set_option linter.unusedVariables false

theorem neg_img (n : Int) : nsg (!isg n) n.natAbs = isg (-n) ∧ nmg n.natAbs = img (-n) := by
  apply nsg_img
  unfold isg
  by_cases h : n < 0
  · simp [h]; omega
  · simp [h]; omega

set_option maxRecDepth 100000 in
set_option maxHeartbeats 2000000 in
theorem negI_any (a : Int) (w : World) (ha : Fits a) :
    Calls Tryz.prog 142 #[.agg #[.bool (isg a), .string (img a)]] w fun e w' => e = .returned (.agg #[.bool (isg (-a)), .string (img (-a))]) ∧ Below w.heap.size w w' := by
  have ha1 := ha.size
  have hda := ha.digs
  have HI := hid (neg_img a)
  clear ha
  obtain ⟨W, hW⟩ : ∃ W, (w.alloc (.cells #[.bool (isg a), .string (img a)] 56)).alloc (.cells #[.bool false, .string ⟨#[]⟩] 56) = W := ⟨_, rfl⟩
  have e1 : W.cell? ⟨w.heap.size, 0, none⟩ = some (.bool (isg a)) := by rw [← hW]; simp [go_sem]
  have e2 : W.cell? ⟨w.heap.size, 1, none⟩ = some (.string (img a)) := by rw [← hW]; simp [go_sem]
  have c5 : W.cell? ⟨w.heap.size + 1, 0, none⟩ = some (.bool false) := by rw [← hW]; simp [go_sem]
  have c6 : W.cell? ⟨w.heap.size + 1, 1, none⟩ = some (.string ⟨#[]⟩) := by rw [← hW]; simp [go_sem]
  have f5 : W.frozen? ⟨w.heap.size + 1, 0, none⟩ = false := by rw [← hW]; simp [go_sem]
  have f6 : W.frozen? ⟨w.heap.size + 1, 1, none⟩ = false := by rw [← hW]; simp [go_sem]
  have hbel : Below w.heap.size w W := by
    rw [← hW]
    exact ((Below.refl _ _).alloc (Nat.le_refl _) _).alloc (by simp) _
  have HW := hid hW
  clear hW
  go_enter Tryz.func142, Tryz.ntmps142
  go_upto_region 1 with fail
  rw [HW.out]
  go_region_held3 (fun w' => w'.cell? ⟨w.heap.size, 0, none⟩ = some (.bool (isg a)) ∧ w'.cell? ⟨w.heap.size, 1, none⟩ = some (.string (img a)))
    (first | exact ⟨e1, e2⟩ | (rw [World.cell?_setCell_far _ _ _ _ (show w.heap.size + 1 ≠ w.heap.size by omega), World.cell?_setCell_far _ _ _ _ (show w.heap.size + 1 ≠ w.heap.size by omega), World.cell?_setCell_far _ _ _ _ (show w.heap.size + 1 ≠ w.heap.size by omega), World.cell?_setCell_far _ _ _ _ (show w.heap.size + 1 ≠ w.heap.size by omega)]; exact ⟨e1, e2⟩) | go_keep)
    (first
      | (go_at_call 117; refine (digitsI_any _ _ (by first | assumption)).mono ?_; rintro e w' ⟨⟨v', rfl, hN⟩, hb⟩; have hbel := bel_step hbel hb; have e1 := keeps hb e1; have e2 := keeps hb e2; have f5 := keeps_frozen hb c5 f5; have f6 := keeps_frozen hb c6 f6; have c5 := keeps hb c5; have c6 := keeps hb c6)
      | (go_at_call 114; refine (number_any _ _ _ _ hN (digs_u32 _) (by omega)).mono ?_; rintro e w' ⟨rfl, hb⟩; have hbel := bel_step hbel hb; have e1 := keeps hb e1; have e2 := keeps hb e2; have f5 := keeps_frozen hb c5 f5; have f6 := keeps_frozen hb c6 f6; have c5 := keeps hb c5; have c6 := keeps hb c6))
  all_goals go_wp2_with fail
  refine bodyPost_ret (v := .agg #[.bool (isg (-a)), .string (img (-a))]) ?_ rfl ⟨rfl, ?_⟩
  · simp [results, Tryz.results142, go_sem, c5, c6]
    rw [natv_digs]
    exact HI.out
  · exact (hbel.setCell (by simp) _).setCell (by simp) _
theorem fits_neg {a : Int} (h : Fits a) : Fits (-a) := by
  unfold Fits at h ⊢
  rwa [Int.natAbs_neg]

set_option maxRecDepth 100000 in
set_option maxHeartbeats 2000000 in
theorem subI_any (a b : Int) (w : World) (ha : Fits a) (hb : Fits b) :
    Calls Tryz.prog 115 #[.agg #[.bool (isg a), .string (img a)], .agg #[.bool (isg b), .string (img b)]] w fun e w' => e = .returned (.agg #[.bool (isg (a - b)), .string (img (a - b))]) ∧ Below w.heap.size w w' := by
  have HA := hid ha
  have HB := hid hb
  have HNB := hid (fits_neg hb)
  clear ha hb
  obtain ⟨W, hW⟩ : ∃ W, ((w.alloc (.cells #[.bool (isg a), .string (img a)] 56)).alloc (.cells #[.bool (isg b), .string (img b)] 56)).alloc (.cells #[.bool false, .string ⟨#[]⟩] 56) = W := ⟨_, rfl⟩
  have e1 : W.cell? ⟨w.heap.size, 0, none⟩ = some (.bool (isg a)) := by rw [← hW]; simp [go_sem]
  have e2 : W.cell? ⟨w.heap.size, 1, none⟩ = some (.string (img a)) := by rw [← hW]; simp [go_sem]
  have e3 : W.cell? ⟨w.heap.size + 1, 0, none⟩ = some (.bool (isg b)) := by rw [← hW]; simp [go_sem]
  have e4 : W.cell? ⟨w.heap.size + 1, 1, none⟩ = some (.string (img b)) := by rw [← hW]; simp [go_sem]
  have c5 : W.cell? ⟨w.heap.size + 1 + 1, 0, none⟩ = some (.bool false) := by rw [← hW]; simp [go_sem]
  have c6 : W.cell? ⟨w.heap.size + 1 + 1, 1, none⟩ = some (.string ⟨#[]⟩) := by rw [← hW]; simp [go_sem]
  have f5 : W.frozen? ⟨w.heap.size + 1 + 1, 0, none⟩ = false := by rw [← hW]; simp [go_sem]
  have f6 : W.frozen? ⟨w.heap.size + 1 + 1, 1, none⟩ = false := by rw [← hW]; simp [go_sem]
  have hbel : Below w.heap.size w W := by
    rw [← hW]
    exact (((Below.refl _ _).alloc (Nat.le_refl _) _).alloc (by simp) _).alloc (by simp; omega) _
  have HW := hid hW
  clear hW
  go_enter Tryz.func115, Tryz.ntmps115
  go_upto_region 1 with fail
  rw [HW.out]
  go_region_held3 (fun w' => w'.cell? ⟨w.heap.size, 0, none⟩ = some (.bool (isg a)) ∧ w'.cell? ⟨w.heap.size, 1, none⟩ = some (.string (img a)) ∧ w'.cell? ⟨w.heap.size + 1, 0, none⟩ = some (.bool (isg b)) ∧ w'.cell? ⟨w.heap.size + 1, 1, none⟩ = some (.string (img b)))
    (first | exact ⟨e1, e2, e3, e4⟩ | (rw [World.cell?_setCell_far _ _ _ _ (show w.heap.size + 1 + 1 ≠ w.heap.size by omega), World.cell?_setCell_far _ _ _ _ (show w.heap.size + 1 + 1 ≠ w.heap.size by omega), World.cell?_setCell_far _ _ _ _ (show w.heap.size + 1 + 1 ≠ w.heap.size by omega), World.cell?_setCell_far _ _ _ _ (show w.heap.size + 1 + 1 ≠ w.heap.size by omega), World.cell?_setCell_far _ _ _ _ (show w.heap.size + 1 + 1 ≠ w.heap.size + 1 by omega), World.cell?_setCell_far _ _ _ _ (show w.heap.size + 1 + 1 ≠ w.heap.size + 1 by omega), World.cell?_setCell_far _ _ _ _ (show w.heap.size + 1 + 1 ≠ w.heap.size + 1 by omega), World.cell?_setCell_far _ _ _ _ (show w.heap.size + 1 + 1 ≠ w.heap.size + 1 by omega)]; exact ⟨e1, e2, e3, e4⟩) | go_keep)
    (first
      | (go_at_call 142; refine (negI_any b _ HB.out).mono ?_; rintro e w' ⟨rfl, hb⟩; have hbel := bel_step hbel hb; have e1 := keeps hb e1; have e2 := keeps hb e2; have e3 := keeps hb e3; have e4 := keeps hb e4; have f5 := keeps_frozen hb c5 f5; have f6 := keeps_frozen hb c6 f6; have c5 := keeps hb c5; have c6 := keeps hb c6)
      | (go_at_call 146; refine (addI_any a (-b) _ HA.out HNB.out).mono ?_; rintro e w' ⟨rfl, hb⟩; have hbel := bel_step hbel hb; have e1 := keeps hb e1; have e2 := keeps hb e2; have e3 := keeps hb e3; have e4 := keeps hb e4; have f5 := keeps_frozen hb c5 f5; have f6 := keeps_frozen hb c6 f6; have c5 := keeps hb c5; have c6 := keeps hb c6))
  all_goals go_wp2_with fail
  refine bodyPost_ret (v := .agg #[.bool (isg (a - b)), .string (img (a - b))]) ?_ rfl ⟨rfl, ?_⟩
  · simp [results, Tryz.results115, go_sem, c5, c6, Int.sub_eq_add_neg]
  · exact (hbel.setCell (by simp; omega) _).setCell (by simp; omega) _

def cmpI (a b : Int) : Int := if a < b then -1 else if a = b then 0 else 1
theorem img_empty {n : Int} : (img n).toList = [] ↔ n = 0 := by
  constructor
  · intro h
    by_cases h0 : n = 0
    · exact h0
    · exfalso
      have h1 : (img n).data.toList = [] := by
        rwa [ByteArray.toList_eq] at h
      exact bytesBE_ne (n := n.natAbs) (by omega) (by simpa [img, nmg] using h1)
  · rintro rfl
    rw [ByteArray.toList_eq]
    simp [img, nmg, bytesBE_zero]

set_option maxRecDepth 100000 in
set_option maxHeartbeats 2000000 in
theorem compareI_any (a b : Int) (w : World) (ha : Fits a) (hb : Fits b) :
    Calls Tryz.prog 87 #[.agg #[.bool (isg a), .string (img a)], .agg #[.bool (isg b), .string (img b)]] w fun e w' => e = .returned (.int .i64 (cmpI a b)) ∧ Below w.heap.size w w' := by
  have HA := hid ha
  have HB := hid hb
  clear ha hb
  have hbw := Below.refl w.heap.size w
  by_cases h1 : a < b
  · have e1 : isg (a - b) = true := by simp [isg]; omega
    have HR := hid (show cmpI a b = -1 by rw [cmpI, if_pos h1])
    clear h1
    go_enter Tryz.func87, Tryz.ntmps87
    go_wp2_with (go_at_call 115; refine (subI_any a b _ HA.out HB.out).mono ?_; rintro e w' ⟨rfl, hb⟩)
    go_ret
    exact ⟨ret_int HR.out.symm, ((((Below.refl _ _).alloc (Nat.le_refl _) _).alloc (by simp) _).trans (hb.mono (by simp; omega))).alloc (by have := hb.size; simp at this; omega) _⟩
  · have e1 : isg (a - b) = false := by simp [isg]; omega
    by_cases h2 : a = b
    · have e2 : (img (a - b)).toList = [] := img_empty.2 (by omega)
      have e3 : (img (a - b)).toList.isEmpty = true := by rw [e2]; rfl
      have HR := hid (show cmpI a b = 0 by rw [cmpI, if_neg h1, if_pos h2])
      clear h1 h2 e2
      go_enter Tryz.func87, Tryz.ntmps87
      go_wp2_with (go_at_call 115; refine (subI_any a b _ HA.out HB.out).mono ?_; rintro e w' ⟨rfl, hb⟩)
      go_ret
      exact ⟨ret_int HR.out.symm, ((((Below.refl _ _).alloc (Nat.le_refl _) _).alloc (by simp) _).trans (hb.mono (by simp; omega))).alloc (by have := hb.size; simp at this; omega) _⟩
    · have e3 : (img (a - b)).toList.isEmpty = false := by rw [List.isEmpty_eq_false_iff]; intro h; have := img_empty.1 h; omega
      have HR := hid (show cmpI a b = 1 by rw [cmpI, if_neg h1, if_neg h2])
      clear h1 h2
      go_enter Tryz.func87, Tryz.ntmps87
      go_wp2_with (go_at_call 115; refine (subI_any a b _ HA.out HB.out).mono ?_; rintro e w' ⟨rfl, hb⟩)
      go_ret
      exact ⟨ret_int HR.out.symm, ((((Below.refl _ _).alloc (Nat.le_refl _) _).alloc (by simp) _).trans (hb.mono (by simp; omega))).alloc (by have := hb.size; simp at this; omega) _⟩
end Go.Proofs.YtieahckbbohfgaaGreatDoor
