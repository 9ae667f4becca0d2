/-
  A text of lines, split at its ends of line, is the lines and an empty one.
  No line holds an end of line.
-/
import Derived.Test.YtpgkigjmjognjaaDoorCodeLaw
import Derived.Lib.SplitLaws
import Derived.Lib.IndexLaws
namespace Go.Proofs.YtpgkigjmjognjaaDoor
set_option linter.unusedVariables false

def eol : ByteArray := ⟨#[10]⟩
/-- Lines, one behind the other. -/
def catL : List ByteArray → ByteArray
  | [] => ⟨#[]⟩
  | l :: r => (l ++ eol) ++ catL r
theorem index_line (l r : List UInt8) (h : (10 : UInt8) ∉ l) : Lib.index (l ++ 10 :: r) [10] = l.length := by
  induction l with
  | nil => simp [Lib.index]
  | cons c l ih =>
    have h1 : c ≠ 10 := fun e => h (by simp [e])
    have h2 := ih fun e => h (by simp [e])
    rw [List.cons_append, Lib.index, if_neg (by simp [List.isPrefixOf]; exact fun e => h1 e.symm), if_neg (by rw [h2, beq_iff_eq]; omega), h2]
    simp
theorem cat_data (l : ByteArray) (r : ByteArray) : ((l ++ eol) ++ r).data.toList = l.data.toList ++ 10 :: r.data.toList := by simp [eol]
theorem indexB_line {l r : ByteArray} (h : (10 : UInt8) ∉ l.data.toList) : Lib.indexB ((l ++ eol) ++ r) eol = (l.size : Nat) := by
  show Lib.index ((l ++ eol) ++ r).data.toList eol.data.toList = _
  rw [cat_data, show eol.data.toList = [10] from rfl, index_line _ _ h, ba_len]
theorem rest_line (l r : ByteArray) : ((l ++ eol) ++ r).extract (l.size + eol.size) ((l ++ eol) ++ r).size = r := by
  apply ba_ext
  rw [Lib.extract_to_end, cat_data, show eol.size = 1 from rfl, show l.data.toList ++ 10 :: r.data.toList = (l.data.toList ++ [10]) ++ r.data.toList by simp]
  exact List.drop_left' (by simp)
theorem head_line (l r : ByteArray) : ((l ++ eol) ++ r).extract 0 (l.size + 0) = l := by
  apply ba_ext
  rw [Lib.extract_data, cat_data]
  simp
theorem count_cat : ∀ {ls : List ByteArray}, (∀ l ∈ ls, (10 : UInt8) ∉ l.data.toList) → Lib.countB (catL ls) eol = ls.length
  | [], _ => by decide
  | l :: r, h => by
    rw [catL, Lib.countB_hit _ _ l.size (by decide) (indexB_line (h l (by simp))), rest_line, count_cat fun x hx => h x (by simp [hx])]
    simp; omega
theorem split_cat : ∀ {ls : List ByteArray}, (∀ l ∈ ls, (10 : UInt8) ∉ l.data.toList) → Lib.splitB eol 0 ls.length (catL ls) = ls ++ [⟨#[]⟩]
  | [], _ => rfl
  | l :: r, h => by
    rw [catL, List.length_cons, Lib.splitB_hit _ _ _ _ l.size (indexB_line (h l (by simp))), rest_line, head_line, split_cat fun x hx => h x (by simp [hx])]
    rfl
end Go.Proofs.YtpgkigjmjognjaaDoor
