/-
  The text that Print writes is the text that Parse reads (plain).
  No condition: no program in sight.
-/
import Derived.Test.YtmabciajhmjmeaaGreatDoorPrPrint
import Derived.Test.YtmabciajhmjmeaaGreatDoorInsTxt
namespace Go.Proofs.YtmabciajhmjmeaaGreatDoor
open Go.RowKit
set_option linter.unusedVariables false

/-- The digits of a number. -/
def dgT (k : Int) : List UInt8 := Lib.decDigits k.toNat
theorem joinC_flat (c : UInt8) : ∀ (a : List UInt8) (ps : List (List UInt8)), joinC c (a :: ps) = a ++ ps.flatMap (fun p => c :: p)
  | a, [] => by simp [joinC]
  | a, b :: t => by
    rw [joinC_cons c a (by simp), joinC_flat c b t]
    simp
theorem join_end (c : UInt8) : ∀ (ps : List (List UInt8)), ps ≠ [] → joinC c ps ++ [c] = ps.flatMap (fun p => p ++ [c])
  | [], h => absurd rfl h
  | [a], _ => by simp [joinC]
  | a :: b :: t, _ => by
    rw [joinC_cons c a (by simp), List.append_assoc, List.cons_append, join_end c (b :: t) (by simp)]
    simp
theorem lineT_eq (wd : List UInt8) (l : List Nat) : lineT wd l ++ [10] = lineL dgT wd (l.map fun n : Nat => (n : Int)) := by
  rw [lineT, joinC_flat, lineL, numsL]
  congr 2
  rw [List.flatMap_map, List.flatMap_map]
  rfl
theorem insN_eq (x : Ins) (ha : 0 ≤ x.a) (hb : 0 ≤ x.b) : (insN x).map (fun n : Nat => (n : Int)) = insA x := by
  rw [insN, insA, List.map_take]
  congr 1
  simp
  omega
theorem opWs_listP (op : Int) : (opWs op).data.toList = opWL op := by
  unfold opWs opWL
  split; rfl; split; rfl; split; rfl; split; rfl; rfl
theorem code_eq : ∀ {c : List Ins}, (∀ x ∈ c, 0 ≤ x.a ∧ 0 ≤ x.b) → (c.map insT).flatMap (fun p => p ++ [10]) = codeL dgT c
  | [], _ => rfl
  | x :: c, h => by
    have hx := h x (List.mem_cons_self ..)
    rw [List.map_cons, List.flatMap_cons, code_eq (fun y hy => h y (List.mem_cons_of_mem _ hy)), insT, lineT_eq, insN_eq x hx.1 hx.2, codeL, codeL, List.flatMap_cons, opWs_listP]
theorem print_text {n : Nat} {c : List Ins} {o : List Nat} (h : ∀ x ∈ c, 0 ≤ x.a ∧ 0 ≤ x.b) : printL dgT (n : Int) c (o.map fun k : Nat => (k : Int)) = textT n c o := by
  rw [textT, join_end 10 _ (by simp [textL]), textL, List.flatMap_cons, List.flatMap_append, code_eq h, lineT_eq, printL]
  simp [lineT_eq, wProg, wOut]
theorem valid_form {n : Int} {c : List Ins} {o : List Int} (h : progErr n c o = 0) : ∃ (N : Nat) (oN : List Nat), n = (N : Int) ∧ o = oN.map (fun k : Nat => (k : Int)) ∧ FormP N c oN ∧ (∀ x ∈ c, 0 ≤ x.a ∧ 0 ≤ x.b) := by
  obtain ⟨h1, h2, h3, h4, h5, h6⟩ := progErr_zero.1 h
  have hc := pcodeErr_at.1 h5
  have hI : ∀ x ∈ c, FormI x := fun x hx => by
    obtain ⟨i, hi⟩ := List.getElem?_of_mem hx
    have hl := lt_of_some hi
    have := insErr_zero.1 (hc i x hi)
    obtain ⟨op, a, b⟩ := x
    unfold FormI
    simp only at this ⊢
    rcases this with ⟨g1, g2, g3⟩ | ⟨g1, g2, g3, g4⟩ | ⟨g1, g2, g3, g4, g5⟩
    · exact ⟨by omega, by omega, by omega, by omega, by omega, by omega, fun _ => g2, fun _ => g3⟩
    · subst g1
      exact ⟨by omega, by omega, by omega, by omega, by omega, by omega, fun h => by simp [usedN] at h, fun _ => g4⟩
    · refine ⟨by omega, by omega, by omega, by omega, by omega, by omega, fun h => ?_, fun h => ?_⟩
      · rcases g1 with rfl | rfl <;> simp [usedN] at h
      · rcases g1 with rfl | rfl <;> simp [usedN] at h
  refine ⟨n.toNat, o.map Int.toNat, by omega, ?_, ⟨by omega, hI, fun k hk => ?_⟩, fun x hx => ?_⟩
  · rw [List.map_map]
    conv => lhs; rw [← List.map_id o]
    refine List.map_congr_left fun z hz => ?_
    have := h6 z hz
    simp
    omega
  · obtain ⟨z, hz, rfl⟩ := List.mem_map.1 hk
    have := h6 z hz
    omega
  · obtain ⟨_, _, g3, _, g5, _⟩ := hI x hx
    exact ⟨g3, g5⟩
theorem form_nn {n : Nat} {c : List Ins} {o : List Nat} (h : FormP n c o) : ∀ x ∈ c, 0 ≤ x.a ∧ 0 ≤ x.b := fun x hx => by
  obtain ⟨_, _, g3, _, g5, _⟩ := h.2.1 x hx
  exact ⟨g3, g5⟩
end Go.Proofs.YtmabciajhmjmeaaGreatDoor
