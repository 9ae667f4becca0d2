/-
  runcode.Gamma and runcode.Runs.
  The library's tables lie in their variables.
-/
import Derived.Test.YtieahckbbohfgaaGreatDoorGolomb
import Derived.Test.YtieahckbbohfgaaGreatDoorShelfV
namespace Go.Proofs.YtieahckbbohfgaaGreatDoor
open Go.RowKit
set_option linter.unusedVariables false

def gamW (n : Nat) : List UInt8 := List.replicate (dgN n - 1) 48 ++ binW n (dgN n)
set_option maxRecDepth 100000 in
set_option maxHeartbeats 4000000 in
theorem gamma_any (n : Nat) (w : World) (h1 : 1 ≤ n) (hn : n < 9223372036854775808) (hT : TabAt 7 Lib.deBruijn64tab w) :
    Calls Tryz.prog 20 #[.int .i64 (n : Int)] w fun e w' => e = .returned (.tuple #[.string (strW (gamW n)), .int .i64 0]) ∧ Below w.heap.size w w' := by
  have HF := hid (fmt_any n w hn hT)
  obtain ⟨d1, d2, d3⟩ := dgN_lt n hn
  have HR := hid (fun X => rep_any 48 (dgN n - 1) X (by omega))
  have HC := hid (fun X => cat_strW (List.replicate (dgN n - 1) 48) (binW n (dgN n)) X (by rw [List.length_replicate, binW_len]; omega))
  have hl : (strW (binW n (dgN n))).size = dgN n := by rw [strW_size, binW_len]
  have hs : (dgN n : Int) - 1 = ((dgN n - 1 : Nat) : Int) := by omega
  change Hid (Calls Tryz.prog 42 #[.int .i64 (n : Int), .int .i64 2] w fun e w' => e = .returned (.string (strW (binW n (dgN n)))) ∧ Below w.heap.size w w') at HF
  unfold gamW
  clear hT d1
  generalize hA : strW (List.replicate (dgN n - 1) 48 ++ binW n (dgN n)) = A at *
  generalize strW (List.replicate (dgN n - 1) 48) = Q at *
  generalize strW (binW n (dgN n)) = S at *
  generalize hM : dgN n - 1 = M at *
  generalize dgN n = D at *
  clear hA
  have hc := fun X => HC.out X
  go_enter Tryz.func20, Tryz.ntmps20
  go_wp2_with (first
    | (go_at_call 42; refine HF.out.mono ?_; rintro e w1 ⟨rfl, hb1⟩; have HB1 := hid hb1; clear hb1)
    | (go_at_call 28; refine (HR.out _).mono ?_; rintro e w2 ⟨rfl, hb2⟩; have HB2 := hid (bel_step HB1.out hb2); clear hb2))
  go_ret2
  exact ⟨rfl, HB2.out⟩
def one1 : ByteArray := ⟨#[49]⟩
/-- The lengths of the parts between the letters 1. -/
def partsB (s : ByteArray) : List ByteArray := Lib.splitB one1 0 (Lib.countB s one1) s
def runsB (s : ByteArray) : List Int := (partsB s).map fun x => (x.size : Int)
set_option maxRecDepth 100000 in
set_option maxHeartbeats 4000000 in
theorem runs_any (s : ByteArray) (m : Int) (w : World) (hs : s.size ≤ 1000000) (hm : w.cell? ⟨0, 0, none⟩ = some (.int .i64 m)) (hE : wordErr 2 s = 0) (hlen : (partsB s).length = Lib.countB s one1 + 1) (hc : Lib.countB s one1 ≤ 1000000) (hsz : ∀ x ∈ partsB s, x.size ≤ 1000000) :
    Calls Tryz.prog 15 #[.string s] w fun e w' => ∃ u, e = .returned (.tuple #[u, .int .i64 0]) ∧ w'.ownsRow w.heap.size 3 1 u (runsB s).length (ints (runsB s)) ∧ Below w.heap.size w w' := by
  have HCk := hid (fun X => wcheck_any 2 s X)
  rw [hE] at HCk
  have HSp := hid (fun X (h : X.cell? ⟨0, 0, none⟩ = some (.int .i64 m)) => Tryz.strings_Split s one1 m X (by omega) h (by decide))
  change Hid (∀ X, _ → Calls Tryz.prog 36 #[.string s, .string ⟨#[49]⟩] X fun e w' => e = .returned (.slice (some ⟨X.heap.size, 0, none⟩) (Lib.countB s one1 + 1) (Lib.countB s one1 + 1)) ∧ w' = X.alloc (.cells ((partsB s).map Value.string).toArray 9)) at HSp
  have hc : (partsB s).length ≤ 1000001 := by omega
  rw [← hlen] at HSp
  have HM := hid hm
  have HSz := hid hsz
  unfold runsB
  clear hE hlen hm hsz
  generalize partsB s = L at *
  go_enter Tryz.func15, Tryz.ntmps15
  go_upto_region 6 with (first
    | (go_at_call 10; refine (HCk.out _).mono ?_; rintro e w1 ⟨rfl, hD⟩; have HB1 := hid (hD.below w.heap.size); clear hD)
    | (go_at_call 36; refine (HSp.out _ (keeps HB1.out HM.out)).mono ?_; rintro e w2 ⟨rfl, h2⟩; have HK2 := hid (show w2.heap[w1.heap.size]? = some (.cells (L.map Value.string).toArray 9 (0, 0)) by rw [h2]; exact heap_alloc_new w1 _); have HB2 := hid (bel_step HB1.out (show Below w1.heap.size w1 w2 by rw [h2]; exact bel_alloc _ _)); have HL2 := hid (show w1.heap.size < w2.heap.size by rw [h2]; simp); clear h2))
  generalize hB2 : w1.heap.size = g at *
  have HG := hid (show w.heap.size ≤ g by rw [← hB2]; exact HB1.out.size)
  clear hB2
  go_wp2_with fail
  go_loopw [16, 5] (fun i u wr => ∃ k : Nat, k ≤ L.length ∧ i = .int .i64 (k : Int) ∧ Hid (wr.ownsRow w2.heap.size 3 1 u k (ints ((L.take k).map fun x => (x.size : Int)))) ∧ Hid (Below w2.heap.size w2 wr)) (fun i _ _ => L.length - (intOf i).toNat)
  case atStart => exact ⟨0, Nat.zero_le _, rfl, hid (World.ownsRow_nil _ _ _ _), hid (Below.refl _ _)⟩
  case round =>
    obtain ⟨k, hk, rfl, HO, HB⟩ := hrel
    rename World => wk
    obtain ⟨au, cu, rfl⟩ := own_slice HO.out
    by_cases hkn : k < L.length
    · obtain ⟨x, hx⟩ := some_of_lt hkn
      have hx6 := HSz.out x (List.mem_of_getElem? hx)
      have hcx : wk.cell? ⟨g, k, none⟩ = some (.string x) := by
        rw [Lib.cell_of_heap ((HB.out.block g HL2.out).trans HK2.out)]
        simp [hx]
      have HX := hid hx
      have hbs := HB.out.size
      clear hx
      go_wp2_with (at_builtin; refine wpList_push _ rfl _ _ 33 rfl w2.heap.size 3 (.int .i64 0) 1 8 Tryz.underlying33 Tryz.infoInt rfl (by decide) _ _ _ rfl HO.out #[.int .i64 (x.size : Int)] rfl (oneCell_int _ _) rfl (by unfold maxLen; omega) (by omega) hbs ?_; intro g3 gc3 w3 hown3 hg3 hb3; have HO3 := hid hown3; have HB3 := hid (HB.out.trans hb3); clear hown3 hg3 hb3)
      go_roundw
      case rel => exact ⟨k + 1, by omega, by go_num, hid (by rw [take_snoc HX.out, map_snoc, ints_snoc]; exact HO3.out), HB3⟩
      case measure => simp [intOf]; omega
    · obtain rfl : k = L.length := by omega
      have ho := HO.out
      rw [List.take_length] at ho
      have HO9 := hid ho
      clear ho
      go_wp2
      go_ret2
      exact ⟨_, rfl, by rw [List.length_map]; exact own_base HO9.out (by have := HB2.out.size; omega), bel_step HB2.out HB.out⟩
end Go.Proofs.YtieahckbbohfgaaGreatDoor
