/-
  reset.Verify at an automaton and a word that is long enough.
  What TrailingZeros yields is a hypothesis.
-/
import Derived.Test.YtjcdddccnfiemaaDoorVerify
import Derived.Test.YtjcdddccnfiemaaDoorShort
namespace Go.Proofs.YtjcdddccnfiemaaDoor
open Go.RowKit
set_option linter.unusedVariables false

theorem run_low {n q : Nat} {nx : Nat → Nat → Nat} (hcl : Closed n q nx) {l : List UInt8} : ∀ {s : Nat}, s < n → (∀ c ∈ l, dig c < q) → runN nx s l < n := by
  induction l with
  | nil => intro s hs _; exact hs
  | cons c l ih =>
    intro s hs hd
    rw [runN_cons]
    exact ih (hcl s hs _ (hd c (by simp))) fun c' h => hd c' (by simp [h])
theorem ixAt (q : Nat) (w : World) : IxAt q w := fun c X h0 _ _ => (ib_letters c X).mono fun e X' ⟨he, hX⟩ => ⟨by rw [he, h0], by rw [hX]; exact Below.refl _ _⟩
theorem word_digs {m : Nat} {x : ByteArray} (h : wordErr (m : Int) x = 0) : (∀ c ∈ x.data.toList, digit c = dig c ∧ dig c < m) ∧ x.size ≤ 65536 := by
  obtain ⟨_, _, h3, h4⟩ := wordErr_zero.1 h
  refine ⟨fun c hc => ?_, h3⟩
  obtain ⟨k, hk⟩ := List.getElem?_of_mem hc
  have := dig_lt h4 hk
  exact ⟨this.2.1, by simpa using this.1⟩
theorem vfy_any (v : Value) (n m : Nat) (f : Nat → Nat → Int) (T : Nat → Nat → Int) (x : ByteArray) (w : World) (hM : Mt w v n m f) (hf : ∀ i < n, ∀ j < m, 0 ≤ f i j ∧ f i j < n) (hn0 : 0 < n) (hn : n ≤ 16) (hm0 : 0 < m) (hm : m ≤ 8) (hT : TzAt w) (hx : wordErr (m : Int) x = 0)
    (hP : PreTab n m (nxF f) T) (hall : ∀ s < n, ∀ t < n, 0 ≤ T s t ∧ T s t ≤ x.size) :
    Calls Tryd.prog 9 #[.agg #[.int .i64 (m : Int), v], .string x] w fun e w' => e = .returned (.int .i64 0) ∧ Below w.heap.size w w' := by
  obtain ⟨hd, hz⟩ := word_digs hx
  have hcl : Closed n m (nxF f) := fun s hs a ha => by have := hf s hs a ha; unfold nxF; omega
  refine verify_any m v n m f x w hM hf hn hT (ixAt m w) hd (by omega) (fun X hX => rcheck_any v n m f x X (hM.below hX) hf hn0 hn hm0 hm hx) fun O hO => ?_
  have h1 := reset_one hcl hP hn0 (fun c hc => (hd c hc).2) (fun s hs t ht => by have := hall s hs t ht; rw [ba_len]; exact this) hO
  exact ⟨_, by have := run_low hcl hn0 (fun c hc => (hd c hc).2); omega, h1⟩
end Go.Proofs.YtjcdddccnfiemaaDoor
