/-
  The closure of reset.search: the queue, empty and without room, grows by one.
  The queue is empty and has no room; the word is empty.
-/
import Derived.Test.YtjcdddccnfiemaaDoorAid
import Derived.Test.YtjcdddccnfiemaaDoorCodeLaw
import Derived.Deep.AppendLies
import Derived.Deep.RegionLawGrows
namespace Go.Proofs.YtjcdddccnfiemaaDoor
open Go.RowKit
set_option linter.unusedVariables false

theorem Tryd.infoFound : (Tryd.prog.info? 99).map (fun i => (i.zero, i.size, i.bytes)) = some (some (.agg #[.int .i64 0, .string ⟨#[]⟩]), 2, 24) := by kernel_rfl
/-- Behind the append and the store. -/
theorem set_grown {w w1 : World} (h : Below w.heap.size w w1) (b i : Nat) (v : Value) : w.grownBy (w1.setCell ⟨b, i, none⟩ v) (some b) :=
  ⟨h.os, h.tape, h.output, by rw [World.size_setCell]; exact h.size, fun k hk hne => by
    rw [Below.heap_setCell _ _ _ _ (by intro e; exact hne (congrArg some e))]
    exact h.block k hk⟩
set_option maxRecDepth 100000 in
set_option maxHeartbeats 4000000 in
theorem each_any (a bq bx : Nat) (N : Int) (ao : Option Addr) (w : World) (ha : a < 16) (cq : w.cell? ⟨bq, 0, none⟩ = some (.slice ao 0 0)) (fq : w.frozen? ⟨bq, 0, none⟩ = false) (cx : w.cell? ⟨bx, 1, none⟩ = some (.string ⟨#[]⟩)) :
    Calls Tryd.prog 59 #[.int .i64 (a : Int), .int .i64 N, .pointer (some ⟨bq, 0, none⟩), .pointer (some ⟨bx, 0, none⟩)] w fun e w' => e = .returned (.tuple #[]) ∧ w.grownBy w' (some bq) ∧
      ∃ g c, 1 ≤ c ∧ w'.cell? ⟨bq, 0, none⟩ = some (.slice (some ⟨g, 0, none⟩) 1 c) ∧ w'.frozen? ⟨bq, 0, none⟩ = false ∧ w'.cell? ⟨g, 0, none⟩ = some (.int .i64 N) ∧ w'.cell? ⟨g, 1, none⟩ = some (.string ((⟨#[48, 49, 50, 51, 52, 53, 54, 55, 56, 57, 97, 98, 99, 100, 101, 102]⟩ : ByteArray).extract a (a + 1))) := by
  obtain ⟨i0, hi, hz0, hz1, hz2⟩ := info_parts Tryd.infoFound
  have hv1 : IntKind.i64.wrap ((a : Int) + 1) = (a : Int) + 1 := by rw [IntKind.wrap_i64]; omega
  have hv2 : (0 : Int) ≤ (a : Int) + 1 := by omega
  have hv3 : (a : Int) + 1 ≤ 16 := by omega
  have hv4 : (0 : Int) ≤ (a : Int) := by omega
  have hv5 : (a : Int) ≤ (a : Int) + 1 := by omega
  have hv6 : ((a : Int) + 1).toNat = a + 1 := by omega
  have hsz : ((⟨#[48, 49, 50, 51, 52, 53, 54, 55, 56, 57, 97, 98, 99, 100, 101, 102]⟩ : ByteArray).extract a (a + 1)).size ≤ 16 := by
    have h2 : (List.range 16).all (fun a => decide (((⟨#[48, 49, 50, 51, 52, 53, 54, 55, 56, 57, 97, 98, 99, 100, 101, 102]⟩ : ByteArray).extract a (a + 1)).size ≤ 16)) = true := by decide +kernel
    exact of_decide_eq_true (List.all_eq_true.1 h2 a (List.mem_range.2 ha))
  have hcat : ∀ X : World, (Op.stringOp .add ⟨#[]⟩ ((⟨#[48, 49, 50, 51, 52, 53, 54, 55, 56, 57, 97, 98, 99, 100, 101, 102]⟩ : ByteArray).extract a (a + 1))).run Tryd.prog X = .ok (.string ((⟨#[48, 49, 50, 51, 52, 53, 54, 55, 56, 57, 97, 98, 99, 100, 101, 102]⟩ : ByteArray).extract a (a + 1))) X := fun X => by
    unfold Op.stringOp
    have h : ¬ (((⟨#[]⟩ : ByteArray).size + ((⟨#[48, 49, 50, 51, 52, 53, 54, 55, 56, 57, 97, 98, 99, 100, 101, 102]⟩ : ByteArray).extract a (a + 1)).size : Nat) : Int) > IntKind.i64.max := by
      show ¬ ((0 + _ : Nat) : Int) > 9223372036854775807; omega
    rw [if_neg h]
    have : (⟨#[]⟩ : ByteArray) ++ ((⟨#[48, 49, 50, 51, 52, 53, 54, 55, 56, 57, 97, 98, 99, 100, 101, 102]⟩ : ByteArray).extract a (a + 1)) = ((⟨#[48, 49, 50, 51, 52, 53, 54, 55, 56, 57, 97, 98, 99, 100, 101, 102]⟩ : ByteArray).extract a (a + 1)) := ba_ext (by simp)
    rw [this]
    rfl
  generalize hla : (⟨#[48, 49, 50, 51, 52, 53, 54, 55, 56, 57, 97, 98, 99, 100, 101, 102]⟩ : ByteArray).extract a (a + 1) = la at *
  have cqA : (w.alloc (.cells #[.int .i64 N, .string la] 99)).cell? ⟨bq, 0, none⟩ = some (.slice ao 0 0) := keeps (bel_alloc w _) cq
  go_enter Tryd.func59, Tryd.ntmps59
  go_region_law (refine step_append_grows rfl _ _ 100 (by rfl) 99 i0 (.agg #[.int .i64 0, .string ⟨#[]⟩]) 2 24 Tryd.underlying100 hi hz0 hz1 hz2 rfl (by decide) ao 0 0 [] (by rfl) (fun _ => ⟨rfl, rfl⟩) rfl (fun b _ j u hj => by simp at hj) _ 1 1 [.int .i64 N, .string la] (by rfl) rfl (World.news_of_block (heap_alloc_new _ _)) (by simp [Value.oneCell']) (by decide) (by unfold maxLen; omega) (by omega) ?_; intro v1 w1 hown1 hg1; obtain ⟨g, cp, rfl, hgb, hgl⟩ := hown1.form (by decide); have hb1 := Below.grown (B := w.heap.size) (a := w) (by exact below_now ⟨rfl, rfl, rfl⟩ (.inr ⟨_, rfl⟩)) hg1 (by simp) (fun k hk => by cases hk); have fq1 := keeps_frozen hb1 cq fq; have cq1 := keeps hb1 cq)
  all_goals
    go_end0
    have hlt := World.block_lt_of_cell? _ _ cq1
    have hne : bq ≠ g := by
      have := World.block_lt_of_cell? _ _ cq
      simp at hgb
      have h9 : (⟨bq, 0, none⟩ : Addr).block = bq := rfl
      omega
    have ecp : 1 ≤ cp := by
      obtain ⟨_, ⟨hv, _⟩ | ⟨_, cc, _, hv, _, _, hcc, _⟩⟩ := hown1
      · cases hv
      · cases hv; exact hcc
    have e0 := hown1.cells (g := g) rfl 0 (.int .i64 N) rfl
    have e1 := hown1.cells (g := g) rfl 1 (.string la) rfl
    rw [Addr.add_lit] at e0 e1
    refine ⟨rfl, set_grown hb1 bq 0 _, g, cp, ecp, ?_, ?_, ?_, ?_⟩
    · exact World.cell?_setCell_same _ _ _ cq1
    · rw [World.frozen?_setCell]; exact fq1
    · exact (World.cell?_setCell_other _ _ _ _ (by simp)).trans e0
    · exact (World.cell?_setCell_other _ _ _ _ (by simp)).trans e1
end Go.Proofs.YtjcdddccnfiemaaDoor
