/-
  The reference's Add, for numbers that are not negative.
  No condition beyond sizes.
-/
import Derived.Test.YtppflnkadjddiaaRefNum
import Derived.Test.YtppflnkadjddiaaAwake
namespace Go.Proofs.Ytppflnkadjddiaa
open Go.RowKit
set_option linter.unusedVariables false

/-- The two numbers and the result's cells, while the reference's Add runs. -/
structure RA (w : World) (A B : Nat) (X : World) : Prop where
  a0 : X.cell? ⟨w.heap.size, 0, none⟩ = some (.bool false)
  a1 : X.cell? ⟨w.heap.size, 1, none⟩ = some (.string (nmg A))
  b0 : X.cell? ⟨w.heap.size + 1, 0, none⟩ = some (.bool false)
  b1 : X.cell? ⟨w.heap.size + 1, 1, none⟩ = some (.string (nmg B))
  r0 : X.cell? ⟨w.heap.size + 1 + 1, 0, none⟩ = some (.bool false)
  r1 : X.cell? ⟨w.heap.size + 1 + 1, 1, none⟩ = some (.string ⟨#[]⟩)
  fa0 : X.frozen? ⟨w.heap.size, 0, none⟩ = false
  fa1 : X.frozen? ⟨w.heap.size, 1, none⟩ = false
  fb0 : X.frozen? ⟨w.heap.size + 1, 0, none⟩ = false
  fb1 : X.frozen? ⟨w.heap.size + 1, 1, none⟩ = false
  fr0 : X.frozen? ⟨w.heap.size + 1 + 1, 0, none⟩ = false
  fr1 : X.frozen? ⟨w.heap.size + 1 + 1, 1, none⟩ = false
  bel : Below w.heap.size w X
theorem RA.keep {w X Y : World} {A B : Nat} (h : RA w A B X) (hb : Below X.heap.size X Y) : RA w A B Y :=
  ⟨keeps hb h.a0, keeps hb h.a1, keeps hb h.b0, keeps hb h.b1, keeps hb h.r0, keeps hb h.r1, keeps_frozen hb h.a0 h.fa0, keeps_frozen hb h.a1 h.fa1, keeps_frozen hb h.b0 h.fb0, keeps_frozen hb h.b1 h.fb1, keeps_frozen hb h.r0 h.fr0, keeps_frozen hb h.r1 h.fr1, bel_step h.bel hb⟩
theorem RA.step {w X Z Y : World} {A B : Nat} (h : RA w A B X) (hb : Below Z.heap.size Z Y) (h1 : Z.os = X.os ∧ Z.tape = X.tape ∧ Z.output = X.output) (h2 : Z.heap = X.heap ∨ ∃ o, Z.heap = X.heap.push o) : RA w A B Y :=
  h.keep (below_via hb h1 h2)

theorem set_other {X : World} {g h o o' : Nat} {v u : Value} (hne : h ≠ g) (hx : X.cell? ⟨g, o, none⟩ = some v) : (X.setCell ⟨h, o', none⟩ u).cell? ⟨g, o, none⟩ = some v := by
  rw [World.cell?_setCell_far _ _ _ _ hne]; exact hx
theorem set_two {X : World} {g : Nat} {u v : Value} (h0 : X.cell? ⟨g, 0, none⟩ = some u) (h1 : X.cell? ⟨g, 1, none⟩ = some v) (u' v' : Value) :
    ((X.setCell ⟨g, 0, none⟩ u').setCell ⟨g, 1, none⟩ v').cell? ⟨g, 0, none⟩ = some u' ∧ ((X.setCell ⟨g, 0, none⟩ u').setCell ⟨g, 1, none⟩ v').cell? ⟨g, 1, none⟩ = some v' := by
  constructor
  · rw [World.cell?_setCell_other _ _ _ _ (by simp)]; exact World.cell?_setCell_same _ _ _ h0
  · exact World.cell?_setCell_same _ _ _ (by rw [World.cell?_setCell_other _ _ _ _ (by simp)]; exact h1)
theorem RA.setA {w X : World} {A B : Nat} (h : RA w A B X) : RA w A B ((X.setCell ⟨w.heap.size, 0, none⟩ (.bool false)).setCell ⟨w.heap.size, 1, none⟩ (.string (nmg A))) := by
  have h2 := set_two h.a0 h.a1 (.bool false) (.string (nmg A))
  refine ⟨h2.1, h2.2, set_other (by omega) (set_other (by omega) h.b0), set_other (by omega) (set_other (by omega) h.b1), set_other (by omega) (set_other (by omega) h.r0), set_other (by omega) (set_other (by omega) h.r1), ?_, ?_, ?_, ?_, ?_, ?_, (h.bel.setCell (p := ⟨w.heap.size, 0, none⟩) (Nat.le_refl _) _).setCell (p := ⟨w.heap.size, 1, none⟩) (Nat.le_refl _) _⟩
  all_goals rw [World.frozen?_setCell, World.frozen?_setCell]
  all_goals first | exact h.fa0 | exact h.fa1 | exact h.fb0 | exact h.fb1 | exact h.fr0 | exact h.fr1
theorem RA.setB {w X : World} {A B : Nat} (h : RA w A B X) : RA w A B ((X.setCell ⟨w.heap.size + 1, 0, none⟩ (.bool false)).setCell ⟨w.heap.size + 1, 1, none⟩ (.string (nmg B))) := by
  have h2 := set_two h.b0 h.b1 (.bool false) (.string (nmg B))
  refine ⟨set_other (by omega) (set_other (by omega) h.a0), set_other (by omega) (set_other (by omega) h.a1), h2.1, h2.2, set_other (by omega) (set_other (by omega) h.r0), set_other (by omega) (set_other (by omega) h.r1), ?_, ?_, ?_, ?_, ?_, ?_, (h.bel.setCell (p := ⟨w.heap.size + 1, 0, none⟩) (Nat.le_succ _) _).setCell (p := ⟨w.heap.size + 1, 1, none⟩) (Nat.le_succ _) _⟩
  all_goals rw [World.frozen?_setCell, World.frozen?_setCell]
  all_goals first | exact h.fa0 | exact h.fa1 | exact h.fb0 | exact h.fb1 | exact h.fr0 | exact h.fr1
theorem RA.four {w X : World} {A B : Nat} (h : RA w A B X) : X.cell? ⟨w.heap.size, 0, none⟩ = some (.bool false) ∧ X.cell? ⟨w.heap.size, 1, none⟩ = some (.string (nmg A)) ∧ X.cell? ⟨w.heap.size + 1, 0, none⟩ = some (.bool false) ∧ X.cell? ⟨w.heap.size + 1, 1, none⟩ = some (.string (nmg B)) := ⟨h.a0, h.a1, h.b0, h.b1⟩

set_option maxRecDepth 100000 in
set_option maxHeartbeats 4000000 in
theorem refAdd_any (A B : Nat) (w : World) (ha : (bytesBE A).length ≤ 1000) (hb : (bytesBE B).length ≤ 1000) :
    Calls Try.prog 50 #[.agg #[.bool false, .string (nmg A)], .agg #[.bool false, .string (nmg B)]] w fun e w' => e = .returned (.agg #[.bool false, .string (nmg (A + B))]) ∧ Below w.heap.size w w' := by
  have hsa := nmg_size A
  have hsb := nmg_size B
  have hF : RA w A B (((w.alloc (.cells #[.bool false, .string (nmg A)] 41)).alloc (.cells #[.bool false, .string (nmg B)] 41)).alloc (.cells #[.bool false, .string ⟨#[]⟩] 41)) := by
    refine ⟨?_, ?_, ?_, ?_, ?_, ?_, ?_, ?_, ?_, ?_, ?_, ?_, ?_⟩
    all_goals first | (simp [go_sem]; done) | exact (((Below.refl _ _).alloc (Nat.le_refl _) _).alloc (by simp) _).alloc (by simp; omega) _
  go_enter Try.func50, Try.ntmps50
  go_upto_region 1 with fail
  generalize ((w.alloc (.cells #[.bool false, .string (nmg A)] 41)).alloc (.cells #[.bool false, .string (nmg B)] 41)).alloc (.cells #[.bool false, .string ⟨#[]⟩] 41) = W at *
  go_cut [4] (fun u wx => u = .pointer (some ⟨w.heap.size + 1 + 1, 0, none⟩) ∧ RA w A B wx)
  case first =>
    go_region_held3 (fun w' => w'.cell? ⟨w.heap.size, 0, none⟩ = some (.bool false) ∧ w'.cell? ⟨w.heap.size, 1, none⟩ = some (.string (nmg A)) ∧ w'.cell? ⟨w.heap.size + 1, 0, none⟩ = some (.bool false) ∧ w'.cell? ⟨w.heap.size + 1, 1, none⟩ = some (.string (nmg B)))
      (first | exact hF.four | exact hF.setA.four | exact hF.setB.four | exact hF.setA.setB.four | exact hF.setB.setA.four | go_keep)
      (first
        | (go_at_call 72; refine (refCanonical_any _ _).mono ?_; rintro e w7 ⟨rfl, hb⟩; have hF := hF.step hb ⟨rfl, rfl, rfl⟩ (.inl rfl); have q1 := hF.fa0; have q2 := hF.fa1; have q3 := hF.fb0; have q4 := hF.fb1; have q5 := hF.a0; have q6 := hF.a1; have q7 := hF.b0; have q8 := hF.b1))
    all_goals
      go_wp2_with fail
      go_meet
      exact ⟨rfl, by first | exact hF.setA.setB | exact hF.setB.setA⟩
  case rest =>
    obtain ⟨rfl, hF2⟩ := hcut
    clear hF
    have x0 := hF2.a0
    have x1 := hF2.a1
    have x2 := hF2.b0
    have x3 := hF2.b1
    by_cases hsm : (bytesBE A).length < 8 ∧ (bytesBE B).length < 8
    · obtain ⟨s1, s2⟩ := hsm
      have hA7 : A < 72057594037927936 := by
        have h1 := lt_pow_len A
        have h2 : 256 ^ (bytesBE A).length ≤ 256 ^ 7 := Nat.pow_le_pow_right (by decide) (by omega)
        omega
      have hB7 : B < 72057594037927936 := by
        have h1 := lt_pow_len B
        have h2 : 256 ^ (bytesBE B).length ≤ 256 ^ 7 := Nat.pow_le_pow_right (by decide) (by omega)
        omega
      have hsum : IntKind.i64.wrap ((A : Int) + (B : Int)) = ((A + B : Nat) : Int) := by rw [IntKind.wrap_i64]; omega
      go_upto_region 3 with fail
      clear x0 x1 x2 x3
      have hF := hF2
      go_region_held3 (fun w' => w'.cell? ⟨w.heap.size, 0, none⟩ = some (.bool false) ∧ w'.cell? ⟨w.heap.size, 1, none⟩ = some (.string (nmg A)) ∧ w'.cell? ⟨w.heap.size + 1, 0, none⟩ = some (.bool false) ∧ w'.cell? ⟨w.heap.size + 1, 1, none⟩ = some (.string (nmg B)))
        (first | exact hF.four | exact (hF.step (below_now ⟨rfl, rfl, rfl⟩ (.inl rfl)) ⟨rfl, rfl, rfl⟩ (.inl rfl)).four | exact ⟨set_other (by omega) (set_other (by omega) hF.a0), set_other (by omega) (set_other (by omega) hF.a1), set_other (by omega) (set_other (by omega) hF.b0), set_other (by omega) (set_other (by omega) hF.b1)⟩ | go_keep)
        (first
          | (go_at_call 73; refine (refValue_any _ _ (by omega)).mono ?_; rintro e w7 ⟨rfl, hb⟩; have hF := hF.step hb ⟨rfl, rfl, rfl⟩ (.inl rfl); have q1 := hF.fr0; have q2 := hF.fr1; have q3 := hF.r0; have q4 := hF.r1)
          | (go_at_call 48; refine (refOf_any (A + B) _ (by omega)).mono ?_; rintro e w7 ⟨rfl, hb⟩; have hF := hF.step hb ⟨rfl, rfl, rfl⟩ (.inl rfl); have q1 := hF.fr0; have q2 := hF.fr1; have q3 := hF.r0; have q4 := hF.r1))
      all_goals
        go_wp2_with fail
        refine bodyPost_ret (v := .agg #[.bool false, .string (nmg (A + B))]) ?_ rfl ⟨rfl, ?_⟩
        · simp [results, Try.results50, go_sem, q3, q4]
        · exact (hF.bel.setCell (p := ⟨w.heap.size + 1 + 1, 0, none⟩) (by show w.heap.size ≤ w.heap.size + 1 + 1; omega) _).setCell (p := ⟨w.heap.size + 1 + 1, 1, none⟩) (by show w.heap.size ≤ w.heap.size + 1 + 1; omega) _
    · by_cases s1 : (bytesBE A).length < 8
      all_goals
        first | (have s2 : ¬ (bytesBE B).length < 8 := fun h => hsm ⟨s1, h⟩) | skip
        clear hsm
        go_upto_region 5 with fail
        clear x0 x1 x2 x3
        have hF := hF2
        go_region_held3 (fun w' => w'.cell? ⟨w.heap.size, 0, none⟩ = some (.bool false) ∧ w'.cell? ⟨w.heap.size, 1, none⟩ = some (.string (nmg A)) ∧ w'.cell? ⟨w.heap.size + 1, 0, none⟩ = some (.bool false) ∧ w'.cell? ⟨w.heap.size + 1, 1, none⟩ = some (.string (nmg B)))
          (first | exact hF.four | exact (hF.step (below_now ⟨rfl, rfl, rfl⟩ (.inl rfl)) ⟨rfl, rfl, rfl⟩ (.inl rfl)).four | exact ⟨set_other (by omega) (set_other (by omega) hF.a0), set_other (by omega) (set_other (by omega) hF.a1), set_other (by omega) (set_other (by omega) hF.b0), set_other (by omega) (set_other (by omega) hF.b1)⟩ | go_keep)
          (first
            | (go_at_call 74; refine (refAddMag_any A B _ ha hb).mono ?_; rintro e w7 ⟨rfl, hb⟩; have hF := hF.step hb ⟨rfl, rfl, rfl⟩ (.inl rfl); have q1 := hF.fr0; have q2 := hF.fr1; have q3 := hF.r0; have q4 := hF.r1))
        all_goals
          go_wp2_with fail
          refine bodyPost_ret (v := .agg #[.bool false, .string (nmg (A + B))]) ?_ rfl ⟨rfl, ?_⟩
          · simp [results, Try.results50, go_sem, q3, q4]
          · exact (hF.bel.setCell (p := ⟨w.heap.size + 1 + 1, 0, none⟩) (by show w.heap.size ≤ w.heap.size + 1 + 1; omega) _).setCell (p := ⟨w.heap.size + 1 + 1, 1, none⟩) (by show w.heap.size ≤ w.heap.size + 1 + 1; omega) _
end Go.Proofs.Ytppflnkadjddiaa
