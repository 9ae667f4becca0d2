/-
  strip.Count, whole.
  No condition.
-/
import Derived.Test.YtppflnkadjddiaaCountGo
namespace Go.Proofs.Ytppflnkadjddiaa
open Go.RowKit
theorem count_any (h n : Int) (v : Value) (l : List Int) (w : World) (hl : Sl 1 w v l.length (ints l)) :
    Calls Try.prog 22 #[.int .i64 h, .int .i64 n, v] w (CountPost h n l w) := by
  by_cases hE : cntE h n l = 0
  · have hc : chk h l = 0 := by
      rw [cntE] at hE
      split at hE
      · rename_i h1; exact absurd hE h1
      · rename_i h1; simpa using h1
    have hn : ¬ (n < 0 ∨ 4096 < n) := by
      intro h1
      rw [cntE, if_neg (by simp [hc]), if_pos h1] at hE
      cases hE
    exact count_good h n v l w hl hc (by omega) (by omega)
  · exact count_bad h n v l w hl hE
end Go.Proofs.Ytppflnkadjddiaa
