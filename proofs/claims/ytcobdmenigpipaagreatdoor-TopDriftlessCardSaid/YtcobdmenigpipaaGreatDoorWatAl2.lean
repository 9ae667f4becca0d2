/-
  watermark.align, and the checks, at words of one length over two letters.
  Words of at most 256 letters that differ at three places at most.
-/
import Derived.Test.YtcobdmenigpipaaGreatDoorWatAli
import Derived.Test.YtcobdmenigpipaaGreatDoorWordCk
import Derived.Laws.EntriesVeiled
namespace Go.Proofs.YtcobdmenigpipaaGreatDoor
open Go.RowKit Go.Deep
set_option linter.unusedVariables false
set_option linter.unusedSimpArgs false

def DistOk (A B : ByteArray) : Prop := A.size ≤ 256 ∧ A.size = B.size ∧ distL A.data.toList B.data.toList ≤ 3
set_option maxRecDepth 100000 in
set_option maxHeartbeats 2000000 in
theorem align_any (A B : ByteArray) (w : World) (h : DistOk A B) :
    Calls Tryz.prog 24 #[.string A, .string B] w fun e w' => ∃ (u : Value) (c : Int), e = .returned (.tuple #[u, .int .i64 c]) ∧ w'.ownsRow w.heap.size 3 1 u A.size (ints (diagL A.size)) ∧ Below w.heap.size w w' := by
  obtain ⟨h1, h2, h3⟩ := h
  have HCo := hid (fun X => costs_any A B X h1 (by omega))
  have HFr := hid (fun Bm Br Bc Bo Bf b S f hf hP u X hj hH ho hu hS => from_any A B Bm Br Bc Bo Bf b S f h1 h2 h3 hf hP A.size 0 u X hj hH ho hu hS)
  clear h1 h2 h3
  go_enter Tryz.func24, Tryz.ntmps24
  go_upto_region 1 with fail
  obtain ⟨w1, hw1⟩ : ∃ w1, (w.alloc (.cells #[.string A] 9)).alloc (.cells #[.string B] 9) = w1 := ⟨_, rfl⟩
  have hs1 : w1.heap.size = w.heap.size + 2 := by rw [← hw1]; simp
  have hb1 : Below w.heap.size w w1 := by rw [← hw1]; exact bel_step (bel_alloc _ _) (bel_alloc _ _)
  have m1 : w1.cell? ⟨w.heap.size, 0, none⟩ = some (.string A) := by rw [← hw1]; exact keeps (bel_alloc _ _) (by rw [Lib.cell_of_heap (heap_alloc_new w _)]; rfl)
  have r1 : w1.cell? ⟨w.heap.size + 1, 0, none⟩ = some (.string B) := by
    rw [← hw1]
    have hn : (w.alloc (.cells #[.string A] 9)).heap.size = w.heap.size + 1 := by simp
    rw [← hn, Lib.cell_of_heap (heap_alloc_new _ _)]; rfl
  rw [hw1]
  have HB1 := hid hb1
  have HS1 := hid hs1
  clear hw1 hb1 hs1
  go_upto_region 2 with (go_at_call 26; refine (HCo.out _).mono ?_; rintro e w2 ⟨b, f, rfl, hbb, hz, hb2, hf⟩; have HZ2 := hid hz; have HF := hid hf; have HB2 := hid hb2; have HBb := hid hbb; have m1 := keeps hb2 m1; have r1 := keeps hb2 r1; clear hz hf hb2 hbb)
  obtain ⟨w3, hw3⟩ : ∃ w3, w2.alloc (.cells #[.map (some b)] 56) = w3 := ⟨_, rfl⟩
  have hs3 : w3.heap.size = w2.heap.size + 1 := by rw [← hw3]; simp
  have hb3 : Below w2.heap.size w2 w3 := by rw [← hw3]; exact bel_alloc _ _
  have c3 : w3.cell? ⟨w2.heap.size, 0, none⟩ = some (.map (some b)) := by rw [← hw3, Lib.cell_of_heap (heap_alloc_new w2 _)]; rfl
  rw [hw3]
  have m3 := keeps hb3 m1
  have r3 := keeps hb3 r1
  have HZ3 := hid (HZ2.out.below hb3)
  have HB3 := hid hb3
  have HS3 := hid hs3
  clear hw3 hb3 hs3 m1 r1
  go_upto_region 3 with fail
  obtain ⟨w4, hw4⟩ : ∃ w4, w3.alloc (.cells #[.slice none 0 0] 26) = w4 := ⟨_, rfl⟩
  have hs4 : w4.heap.size = w3.heap.size + 1 := by rw [← hw4]; simp
  have hb4 : Below w3.heap.size w3 w4 := by rw [← hw4]; exact bel_alloc _ _
  have o4 : w4.cell? ⟨w3.heap.size, 0, none⟩ = some (.slice none 0 0) := by rw [← hw4, Lib.cell_of_heap (heap_alloc_new w3 _)]; rfl
  have z4 : w4.frozen? ⟨w3.heap.size, 0, none⟩ = false := by rw [← hw4]; exact Lib.frozen_of_heap (heap_alloc_new w3 _) 0
  rw [hw4]
  have m4 := keeps hb4 m3
  have r4 := keeps hb4 r3
  have c4 := keeps hb4 c3
  have HZ4 := hid (HZ3.out.below hb4)
  have HB4 := hid hb4
  have HS4 := hid hs4
  clear hw4 hb4 hs4 m3 r3 c3
  go_upto_region 5 with fail
  obtain ⟨w5, hw5⟩ : ∃ w5, w4.alloc (.cells #[fromV w.heap.size (w.heap.size + 1) w2.heap.size w3.heap.size w4.heap.size] 100) = w5 := ⟨_, rfl⟩
  have hs5 : w5.heap.size = w4.heap.size + 1 := by rw [← hw5]; simp
  have hb5 : Below w4.heap.size w4 w5 := by rw [← hw5]; exact bel_alloc _ _
  have f5 : w5.cell? ⟨w4.heap.size, 0, none⟩ = some (fromV w.heap.size (w.heap.size + 1) w2.heap.size w3.heap.size w4.heap.size) := by rw [← hw5, Lib.cell_of_heap (heap_alloc_new w4 _)]; rfl
  have hb1 := HB1.out
  have hs1 := HS1.out
  have hb2 := HB2.out
  have hb3 := HB3.out
  have hs3 := HS3.out
  have hb4 := HB4.out
  have hs4 := HS4.out
  have hlt4 : w3.heap.size < w4.heap.size := by omega
  have z5 : w5.frozen? ⟨w3.heap.size, 0, none⟩ = false := (World.frozen?_of_block (a := ⟨w3.heap.size, 0, none⟩) (hb5.block _ hlt4)).trans z4
  have hz2 := HZ2.out.lt
  have hbb := HBb.out
  have hsz2 := hb2.size
  have HAh := hid (show AH w5 w.heap.size (w.heap.size + 1) w2.heap.size w3.heap.size w4.heap.size b A B f from ⟨keeps hb5 m4, keeps hb5 r4, keeps hb5 c4, f5, HZ4.out.below hb5, z5, by omega⟩)
  have HPl := hid (show Places w.heap.size (w.heap.size + 1) w2.heap.size w3.heap.size w4.heap.size b w5.heap.size by unfold Places; omega)
  have o5 := keeps hb5 o4
  have hB5 : Below w.heap.size w w5 := bel_step (bel_step (bel_step (bel_step hb1 hb2) hb3) hb4) hb5
  have HB5 := hid hB5
  have HBo := hid (show w.heap.size ≤ w3.heap.size ∧ w.heap.size ≤ w5.heap.size by omega)
  have HFn := hid (HFr.out _ _ _ _ _ _ _ f HF.out HPl.out (.slice none 0 0) w5 (by omega) HAh.out o5 (World.ownsRow_nil _ _ _ _) (Nat.le_refl _))
  have HBelow := hid (fun (w' : World) (h : AH w5 w.heap.size (w.heap.size + 1) w2.heap.size w3.heap.size w4.heap.size b A B f) (hb : BelB w5.heap.size w3.heap.size w5 w') => (show w'.cell? ⟨w2.heap.size, 0, none⟩ = some (.map (some b)) ∧ RZ w'.drew b 70000 f from
    ⟨hb.cell h.c HPl.out.2.2.1.1 HPl.out.2.2.1.2, (h.rz.same (hb.2.2.2.2 b HPl.out.2.2.2.2.1.1 HPl.out.2.2.2.2.1.2)).same rfl⟩))
  unfold fromV at hw5 f5
  rw [hw5]
  clear hw5 hb5 hs5 z5 o4 m4 r4 c4 z4 hb1 hs1 hb2 hb3 hs3 hb4 hs4 hlt4 hz2 hbb hsz2 hB5 HFr HCo
  go_upto_region 6 with (go_at_call 53; refine HFn.out.mono ?_; rintro e w6 ⟨rfl, u6, h6, ho6, hb6⟩)
  obtain ⟨c6, hz6⟩ := HBelow.out w6 HAh.out hb6
  have l6 := hz6.look ((0 : Int), (0 : Int)) (okRst (i := 0) (k := 0) (by omega) (by omega))
  have l6 : (Instr.lookup 56 (.map (some b)) (.agg #[.int .i64 0, .int .i64 0]) false).run Tryz.prog w6.drew = .ok (.int .i64 (f ((0 : Int), (0 : Int)))) w6.drew := l6
  have HO6 := hid (own_base (own_below ho6 (below_drewN (Below.refl _ w6) 1)) HBo.out.2)
  have HB6 := hid (HB5.out.trans ((hb6.below HBo.out.1 HBo.out.2).trans (below_drewN (Below.refl w.heap.size w6) 1)))
  clear hz6 ho6 hb6
  generalize f ((0 : Int), (0 : Int)) = cz at *
  go_region
  all_goals (try go_wp2)
  all_goals go_ret2
  all_goals exact ⟨u6, cz, rfl, HO6.out, HB6.out⟩
set_option maxRecDepth 100000 in
theorem wck_ok (A B : ByteArray) (w : World) (hA : wordErr 2 A = 0) (hB : wordErr 2 B = 0) : Calls Tryz.prog 22 #[.string A, .string B] w fun e w' => e = .returned (.int .i64 0) ∧ Dr w w' := by
  have HA := hid (fun X => wcheck_any 2 A X)
  have HB := hid (fun X => wcheck_any 2 B X)
  rw [hA] at HA
  rw [hB] at HB
  clear hA hB
  go_enter Tryz.func22, Tryz.ntmps22
  go_upto_region 2 with (go_at_call 52; refine (HA.out _).mono ?_; rintro e w1 ⟨rfl, h1⟩)
  go_wp2_with (go_at_call 52; refine (HB.out _).mono ?_; rintro e w2 ⟨rfl, h2⟩)
  go_ret
  exact ⟨rfl, h1.trans h2⟩
set_option maxRecDepth 100000 in
theorem wal_ok (A B : ByteArray) (w : World) (hA : wordErr 2 A = 0) (hB : wordErr 2 B = 0) (h1 : A.size ≤ 256) (h2 : B.size ≤ 256) : Calls Tryz.prog 23 #[.string A, .string B] w fun e w' => e = .returned (.int .i64 0) ∧ Dr w w' := by
  have HA := hid (fun X => wck_ok A B X hA hB)
  have h1I : ¬ (256 : Int) < (A.size : Int) := by omega
  have h2I : ¬ (256 : Int) < (B.size : Int) := by omega
  clear hA hB
  go_enter Tryz.func23, Tryz.ntmps23
  go_wp2_with (go_at_call 22; refine (HA.out _).mono ?_; rintro e w1 ⟨rfl, h1⟩)
  go_ret
  exact ⟨rfl, h1⟩
end Go.Proofs.YtcobdmenigpipaaGreatDoor
