/-
  resync.build has no error at a machine's code and a word.
  No condition: a plain law.
-/
import Derived.Test.YtalklhjmnoodeaaRBuild
namespace Go.Proofs.Ytalklhjmnoodeaa
open Go.RowKit
theorem bnd_err {q : Int} {ws : List ByteArray} {x : ByteArray} (hA : aErr q ws = 0) (hs : sizeW ws ≤ 64) (hx : wordErr q x = 0) : rErr q ws [x] = 0 := by
  rw [rErr, if_neg (by simp [hA]), if_neg (by omega), wordsErr_good hx]; rfl
end Go.Proofs.Ytalklhjmnoodeaa
