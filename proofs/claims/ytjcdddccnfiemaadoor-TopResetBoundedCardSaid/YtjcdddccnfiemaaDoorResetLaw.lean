/-
  The law TopResetBounded in plain words: where all pairs agree within so many letters, a word that long leads all states to one.
  No condition: plain laws.
-/
import Derived.Test.YtjcdddccnfiemaaDoorRunLaw
import Derived.Test.YtjcdddccnfiemaaDoorBitSet
namespace Go.Proofs.YtjcdddccnfiemaaDoor
set_option linter.unusedVariables false

theorem reset_pair {n q : Nat} {nx : Nat → Nat → Nat} {T : Nat → Nat → Int} (hcl : Closed n q nx) (h : PreTab n q nx T) {s t : Nat} (hs : s < n) (ht : t < n) {l : List UInt8} (hd : ∀ c ∈ l, dig c < q) (h0 : 0 ≤ T s t) (hle : T s t ≤ l.length) : runN nx s l = runN nx t l := by
  have h1 := (agree_le hcl h hs ht hd h0).2 hle
  cases ha : agreeN nx s t l with
  | none => exact absurd ha h1
  | some k =>
    obtain ⟨h2, h3, _⟩ := firstN_some.1 ha
    have h4 := ag_stay h3 (show k ≤ l.length by omega)
    unfold agAt at h4
    rw [List.take_of_length_le (Nat.le_refl _)] at h4
    exact beq_iff_eq.1 h4
theorem reset_one {n q : Nat} {nx : Nat → Nat → Nat} {T : Nat → Nat → Int} (hcl : Closed n q nx) (h : PreTab n q nx T) (hn : 0 < n) {l : List UInt8} (hd : ∀ c ∈ l, dig c < q) (hall : ∀ s < n, ∀ t < n, 0 ≤ T s t ∧ T s t ≤ l.length) {O : Nat} (hO : ImgOf (2 ^ n - 1) (fun s => runN nx s l) O) :
    O = 2 ^ runN nx 0 l :=
  img_const hn hO fun s hs => reset_pair hcl h hs hn hd (hall s hs 0 hn).1 (hall s hs 0 hn).2
/-- One letter more. -/
theorem lead_step {S : Nat} {nx : Nat → Nat → Nat} {l : List UInt8} {k : Nat} {c : UInt8} {O O' : Nat} (hc : l[k]? = some c) (h : ImgOf S (fun s => runN nx s (l.take k)) O) (h' : ImgOf O (fun s => nx s (dig c)) O') :
    ImgOf S (fun s => runN nx s (l.take (k + 1))) O' := by
  have h2 := h.comp h'
  have e : (fun s => runN nx s (l.take (k + 1))) = fun s => nx (runN nx s (l.take k)) (dig c) := by
    funext s
    have hk : k < l.length := (List.getElem?_eq_some_iff.1 hc).1
    rw [List.take_succ_eq_append_getElem hk, runN_snoc]
    rw [List.getElem?_eq_getElem hk] at hc
    rw [Option.some.inj hc]
  rw [e]
  exact h2
theorem lead_start (n : Nat) (nx : Nat → Nat → Nat) (l : List UInt8) : ImgOf (2 ^ n - 1) (fun s => runN nx s (l.take 0)) (2 ^ n - 1) := ImgOf.id _
/-- The sets stay below 2^n. -/
theorem img_lt {n : Nat} {f : Nat → Nat} {S O : Nat} (hS : S < 2 ^ n) (hf : ∀ s < n, f s < n) (h : ImgOf S f O) : O < 2 ^ n := by
  apply Nat.lt_pow_two_of_testBit
  intro i hi
  cases hb : O.testBit i with
  | false => rfl
  | true =>
    obtain ⟨s, h1, h2⟩ := (h i).1 hb
    have hs : s < n := by
      apply Nat.lt_of_not_le
      intro hle
      have h3 : S < 2 ^ s := Nat.lt_of_lt_of_le hS (Nat.pow_le_pow_right (by decide) hle)
      rw [Nat.testBit_lt_two_pow h3] at h1
      cases h1
    have := hf s hs
    omega
end Go.Proofs.YtjcdddccnfiemaaDoor
