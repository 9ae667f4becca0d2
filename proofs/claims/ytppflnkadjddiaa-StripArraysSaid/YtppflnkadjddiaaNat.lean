/-
  Plain arithmetic of digits: lists of digits to the base 2^32 (the least significant one first), and lists of bytes (the most significant one first).
  No condition.
-/
import Derived.Test.YtppflnkadjddiaaLib
namespace Go.Proofs.Ytppflnkadjddiaa

/-- The value of digits to the base 2^32. -/
def natv : List Int → Nat
  | [] => 0
  | d :: r => d.toNat + 4294967296 * natv r
/-- The digits of a number, without zeros at the end. -/
def digs (n : Nat) : List Int := if n = 0 then [] else ((n % 4294967296 : Nat) : Int) :: digs (n / 4294967296)
termination_by n
decreasing_by omega
theorem digs_zero : digs 0 = [] := by rw [digs]; simp
theorem digs_pos {n : Nat} (h : n ≠ 0) : digs n = ((n % 4294967296 : Nat) : Int) :: digs (n / 4294967296) := by rw [digs]; simp [h]
def U32 (l : List Int) : Prop := ∀ x ∈ l, 0 ≤ x ∧ x < 4294967296
theorem natv_append (l r : List Int) : natv (l ++ r) = natv l + 4294967296 ^ l.length * natv r := by
  induction l with
  | nil => simp [natv]
  | cons a l ih => simp only [List.cons_append, natv, ih, List.length_cons, Nat.pow_succ]; rw [Nat.mul_add, Nat.mul_comm (4294967296 ^ l.length) 4294967296, Nat.mul_assoc]; omega
theorem natv_snoc_zero (l : List Int) : natv (l ++ [0]) = natv l := by rw [natv_append]; simp [natv]
theorem natv_digs (n : Nat) : natv (digs n) = n := by
  induction n using Nat.strongRecOn with
  | _ n ih =>
    by_cases h : n = 0
    · subst h; simp [digs_zero, natv]
    · rw [digs_pos h, natv, ih _ (by omega)]
      have : ((n % 4294967296 : Nat) : Int).toNat = n % 4294967296 := by omega
      rw [this]; omega
theorem digs_u32 (n : Nat) : U32 (digs n) := by
  induction n using Nat.strongRecOn with
  | _ n ih =>
    by_cases h : n = 0
    · subst h; simp [digs_zero, U32]
    · rw [digs_pos h]
      intro x hx
      rcases List.mem_cons.1 hx with rfl | hx
      · omega
      · exact ih _ (by omega) x hx
theorem U32.tail {a : Int} {l : List Int} (h : U32 (a :: l)) : U32 l := fun x hx => h x (List.mem_cons_of_mem _ hx)
theorem U32.take {l : List Int} (h : U32 l) (k : Nat) : U32 (l.take k) := fun x hx => h x (List.mem_of_mem_take hx)
theorem U32.append {l r : List Int} (h : U32 l) (k : U32 r) : U32 (l ++ r) := fun x hx => (List.mem_append.1 hx).elim (h x) (k x)
/-- No zero at the end. -/
def Canon (l : List Int) : Prop := ∀ r, l ≠ r ++ [0]
theorem Canon.tail {a : Int} {l : List Int} (h : Canon (a :: l)) : Canon l := fun r hr => h (a :: r) (by rw [hr]; rfl)
theorem natv_ne_zero {l : List Int} (hu : U32 l) (hc : Canon l) (h : l ≠ []) : natv l ≠ 0 := by
  induction l with
  | nil => exact absurd rfl h
  | cons a l ih =>
    by_cases hl : l = []
    · subst hl
      have := hu a (by simp)
      have : a ≠ 0 := by rintro rfl; exact hc [] rfl
      simp only [natv]; omega
    · have := ih hu.tail hc.tail hl
      simp only [natv]; omega
theorem digs_natv {l : List Int} (hu : U32 l) (hc : Canon l) : digs (natv l) = l := by
  induction l with
  | nil => exact digs_zero
  | cons a l ih =>
    have hne := natv_ne_zero hu hc (by simp)
    have ha := hu a (by simp)
    rw [digs_pos hne, natv]
    have e1 : (a.toNat + 4294967296 * natv l) % 4294967296 = a.toNat := by omega
    have e2 : (a.toNat + 4294967296 * natv l) / 4294967296 = natv l := by omega
    rw [e1, e2, ih hu.tail hc.tail]
    congr 1
    omega
theorem natv_lt (l : List Int) (hu : U32 l) : natv l < 4294967296 ^ l.length := by
  induction l with
  | nil => simp [natv]
  | cons a l ih =>
    have := ih hu.tail
    have := hu a (by simp)
    simp only [natv, List.length_cons, Nat.pow_succ]; omega
theorem natv_zeros (n : Nat) : natv (List.replicate n 0) = 0 := by
  induction n with
  | zero => rfl
  | succ n ih => simp [List.replicate_succ, natv, ih]

/-- The bytes of a number, the most significant one first, without zeros in front. -/
def bytesBE (n : Nat) : List UInt8 := if n = 0 then [] else bytesBE (n / 256) ++ [(n % 256).toUInt8]
termination_by n
decreasing_by omega
theorem bytesBE_zero : bytesBE 0 = [] := by rw [bytesBE]; simp
theorem bytesBE_pos {n : Nat} (h : n ≠ 0) : bytesBE n = bytesBE (n / 256) ++ [(n % 256).toUInt8] := by
  conv => lhs; rw [bytesBE]
  simp [h]
theorem bytesBE_ne {n : Nat} (h : n ≠ 0) : bytesBE n ≠ [] := by rw [bytesBE_pos h]; simp
theorem bytesBE_push (v c : Nat) (hc : c < 256) (h : c ≠ 0 ∨ v ≠ 0) : bytesBE (256 * v + c) = bytesBE v ++ [c.toUInt8] := by
  have hne : 256 * v + c ≠ 0 := by omega
  rw [bytesBE_pos hne]
  have e1 : (256 * v + c) / 256 = v := by omega
  have e2 : (256 * v + c) % 256 = c := by omega
  rw [e1, e2]
/-- The value of bytes, the most significant one first. -/
def valBE (l : List UInt8) : Nat := l.foldl (fun a b => 256 * a + b.toNat) 0
theorem valBE_snoc (l : List UInt8) (b : UInt8) : valBE (l ++ [b]) = 256 * valBE l + b.toNat := by simp [valBE]
theorem valBE_bytes (n : Nat) : valBE (bytesBE n) = n := by
  induction n using Nat.strongRecOn with
  | _ n ih =>
    by_cases h : n = 0
    · subst h; simp [bytesBE_zero, valBE]
    · rw [bytesBE_pos h, valBE_snoc, ih _ (by omega)]
      have : ((n % 256).toUInt8).toNat = n % 256 := by simp
      omega
theorem bytesBE_inj {a b : Nat} (h : bytesBE a = bytesBE b) : a = b := by rw [← valBE_bytes a, h, valBE_bytes]
theorem bytesBE_len (n k : Nat) (h : n < 256 ^ k) : (bytesBE n).length ≤ k := by
  induction k generalizing n with
  | zero => have : n = 0 := by simpa using h
            subst this; simp [bytesBE_zero]
  | succ k ih =>
    by_cases h0 : n = 0
    · subst h0; simp [bytesBE_zero]
    · rw [bytesBE_pos h0, List.length_append]
      have := ih (n / 256) (by rw [Nat.pow_succ] at h; omega)
      simp only [List.length_singleton]; omega
theorem lt_pow_len (n : Nat) : n < 256 ^ (bytesBE n).length := by
  induction n using Nat.strongRecOn with
  | _ n ih =>
    by_cases h : n = 0
    · subst h; simp [bytesBE_zero]
    · have := ih (n / 256) (by omega)
      rw [bytesBE_pos h, List.length_append, List.length_singleton, Nat.pow_succ]
      omega
end Go.Proofs.Ytppflnkadjddiaa
