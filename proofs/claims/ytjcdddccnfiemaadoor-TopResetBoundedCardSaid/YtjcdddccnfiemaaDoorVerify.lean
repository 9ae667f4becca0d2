/-
  reset.Verify at a word that leads all states to one.
  What reset.check, IndexByte and TrailingZeros yield are hypotheses.
-/
import Derived.Test.YtjcdddccnfiemaaDoorLeadS
import Derived.Test.YtjcdddccnfiemaaDoorAllS
import Derived.Test.YtjcdddccnfiemaaDoorOnes
namespace Go.Proofs.YtjcdddccnfiemaaDoor
open Go.RowKit
set_option linter.unusedVariables false

set_option maxRecDepth 100000 in
set_option maxHeartbeats 4000000 in
theorem verify_any (Q : Int) (v : Value) (n m : Nat) (f : Nat → Nat → Int) (ws : ByteArray) (w : World) (hM : Mt w v n m f) (hf : ∀ i < n, ∀ j < m, 0 ≤ f i j ∧ f i j < n) (hn : n ≤ 16) (hT : TzAt w) (hI : IxAt m w) (hd : ∀ c ∈ ws.data.toList, digit c = dig c ∧ dig c < m) (hz : ws.size ≤ 1000000)
    (hC : ∀ X, Below w.heap.size w X → Calls Tryd.prog 24 #[.agg #[.int .i64 Q, v], .string ws] X fun e X' => e = .returned (.int .i64 0) ∧ Below X.heap.size X X')
    (hO : ∀ O, ImgOf (2 ^ n - 1) (fun s => runN (nxF f) s ws.data.toList) O → ∃ t, t < 16 ∧ O = 2 ^ t) :
    Calls Tryd.prog 9 #[.agg #[.int .i64 Q, v], .string ws] w fun e w' => e = .returned (.int .i64 0) ∧ Below w.heap.size w w' := by
  have HC := hid hC
  have HO := hid hO
  have HAl := hid (fun X h => all_any Q v n m f X h hn)
  have HL := hid (fun X (hX : Below w.heap.size w X) => lead_any Q v n m (2 ^ n - 1) f ws X (hM.below hX) hf hn (by have := Nat.two_pow_pos n; omega) (fun x Y h1 h2 h3 => hT x Y h1 h2 (hX.trans (h3.mono hX.size))) (fun c Y h0 h1 h3 => hI c Y h0 h1 (hX.trans (h3.mono hX.size))) hd hz)
  have HM := hid hM
  obtain ⟨ao, cap, rfl, hc1, hc2⟩ := hM.slice
  clear hM hT hI hf hd hC hO
  generalize ((2 ^ n - 1 : Nat) : Int) = PA at *
  go_enter Tryd.func9, Tryd.ntmps9
  go_upto_region 1 with fail
  obtain ⟨w0, hw0⟩ : ∃ w0, w.alloc (.cells #[.int .i64 Q, .slice ao n cap] 29) = w0 := ⟨_, rfl⟩
  have hb0 : Below w.heap.size w w0 := by rw [← hw0]; exact bel_alloc _ _
  have c0 : w0.cell? ⟨w.heap.size, 0, none⟩ = some (.int .i64 Q) := by rw [← hw0]; simp
  have c1 : w0.cell? ⟨w.heap.size, 1, none⟩ = some (.slice ao n cap) := by rw [← hw0]; simp
  rw [hw0]
  have HB0 := hid hb0
  clear hw0 hb0
  go_upto_region 4 with (go_at_call 24; refine (HC.out _ HB0.out).mono ?_; rintro e w1 ⟨rfl, hb1⟩; have c0 := keeps hb1 c0; have c1 := keeps hb1 c1; have HB1 := hid (bel_step HB0.out hb1); clear hb1)
  go_region_held3 (fun w' => w'.cell? ⟨w.heap.size, 0, none⟩ = some (.int .i64 Q) ∧ w'.cell? ⟨w.heap.size, 1, none⟩ = some (.slice ao n cap))
    (first | exact ⟨c0, c1⟩ | go_keep)
    (first
      | (go_at_call 27; refine (HAl.out _ (HM.out.below HB1.out.drew)).mono ?_; rintro e w2 ⟨rfl, hb2⟩; have c0 := keeps hb2 c0; have c1 := keeps hb2 c1; have HB2 := hid (show Below w1.heap.size w1 w2 from (below_drewN (Below.refl _ _) 1).trans hb2); clear hb2)
      | (go_at_call 26; refine (HL.out _ (HB1.out.trans (HB2.out.mono HB1.out.size))).mono ?_; rintro e w3 ⟨O, rfl, hO3, hb3⟩; obtain ⟨t, ht, rfl⟩ := HO.out O hO3; have c0 := keeps hb3 c0; have c1 := keeps hb3 c1; have HB3 := hid (bel_step HB2.out hb3); have HSg := hid (fun X => single_pow t ht X); clear hb3 hO3)
      | (go_at_call 25; refine (HSg.out _).mono ?_; rintro e w4 ⟨rfl, rfl⟩))
  all_goals
    go_wp2_with fail
    go_ret
    exact ⟨rfl, HB1.out.trans (HB3.out.mono HB1.out.size)⟩
end Go.Proofs.YtjcdddccnfiemaaDoor
