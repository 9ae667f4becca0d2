/-
  Words of 0 and 1 as strings, and what Run answers, as plain functions.
  No condition.
-/
import Derived.Test.YtobbinppkjmhhaaDoorInsIdem
namespace Go.Proofs.YtobbinppkjmhhaaDoor
open Go.RowKit
set_option linter.unusedVariables false

def bitsB (s : ByteArray) : List Bool := s.data.toList.map fun c => c == 49
def bitC (b : Bool) : UInt8 := if b then 49 else 48
def bitS (l : List Bool) : ByteArray := ⟨(l.map bitC).toArray⟩
def okBits (s : ByteArray) : Bool := s.data.toList.all fun c => c == 48 || c == 49
/-- Why Run does not run. -/
def runErr (n : Int) (c : List Ins) (o : List Int) (s : ByteArray) : Int := if progErr n c o ≠ 0 then 1 else if (s.size : Int) ≠ n then 11 else if okBits s = false then 13 else 0
def runStr (n : Int) (c : List Ins) (o : List Int) (s : ByteArray) : ByteArray := if runErr n c o s = 0 then bitS (poutsV (bitsB s) c o) else ⟨#[]⟩
theorem bitsB_len (s : ByteArray) : (bitsB s).length = s.size := by simp [bitsB]
theorem bitS_list (l : List Bool) : (bitS l).data.toList = l.map bitC := by simp [bitS]
theorem bitS_size (l : List Bool) : (bitS l).size = l.length := by show (l.map bitC).toArray.size = _; simp
theorem runErr_zero {n : Int} {c : List Ins} {o : List Int} {s : ByteArray} : runErr n c o s = 0 ↔ progErr n c o = 0 ∧ (s.size : Int) = n ∧ okBits s = true := by
  unfold runErr
  by_cases h1 : progErr n c o = 0
  · rw [if_neg (by simp [h1])]
    by_cases h2 : (s.size : Int) = n
    · rw [if_neg (by simp [h2])]
      cases h3 : okBits s <;> simp [h1, h2]
    · rw [if_pos h2]; simp [h2]
  · rw [if_pos h1]; simp [h1]
theorem okBits_bitS (l : List Bool) : okBits (bitS l) = true := by
  unfold okBits
  rw [bitS_list, List.all_map, List.all_eq_true]
  intro b _
  cases b <;> rfl
theorem bitsB_bitS (l : List Bool) : bitsB (bitS l) = l := by
  unfold bitsB
  rw [bitS_list, List.map_map]
  conv => rhs; rw [← List.map_id l]
  exact List.map_congr_left fun b _ => by cases b <;> rfl
theorem poutsV_len (l : List Bool) (c : List Ins) (o : List Int) : (poutsV l c o).length = o.length := by simp [poutsV]
/-- A program of inputs n, as it is read. -/
def redN (n : Int) (c : List Ins) (o : List Int) : List Ins := if progErr n c o = 0 then redC n.toNat c o else []
def redP (n : Int) (c : List Ins) (o : List Int) : List Int := if progErr n c o = 0 then redO n.toNat c o else []
def redE (n : Int) (c : List Ins) (o : List Int) : Int := if progErr n c o = 0 then 0 else 1
def redI (n : Int) (c : List Ins) (o : List Int) : Int := if progErr n c o = 0 then n else 0
end Go.Proofs.YtobbinppkjmhhaaDoor
