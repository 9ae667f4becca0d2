/-
  reset.lead: where a word leads from a set of states.
  The automaton has at most 16 states; what IndexByte and TrailingZeros yield are hypotheses.
-/
import Derived.Test.YtjcdddccnfiemaaDoorStepS
import Derived.Test.YtjcdddccnfiemaaDoorResetLaw
import Derived.Deep.RegionHeld3
namespace Go.Proofs.YtjcdddccnfiemaaDoor
open Go.RowKit
set_option linter.unusedVariables false

def letters16 : ByteArray := ⟨#[48, 49, 50, 51, 52, 53, 54, 55, 56, 57, 97, 98, 99, 100, 101, 102]⟩
def IxAt (q : Nat) (w : World) : Prop := ∀ (c : UInt8) (X : World), digit c = dig c → dig c < q → Below w.heap.size w X → Calls Tryd.prog 14 #[.string letters16, .int .u8 (c.toNat : Int)] X fun e X' => e = .returned (.int .i64 (dig c : Int)) ∧ Below X.heap.size X X'
def nxF (f : Nat → Nat → Int) : Nat → Nat → Nat := fun s a => (f s a).toNat
set_option maxRecDepth 100000 in
set_option maxHeartbeats 4000000 in
theorem lead_any (Q : Int) (v : Value) (n m S : Nat) (f : Nat → Nat → Int) (ws : ByteArray) (w : World) (hM : Mt w v n m f) (hf : ∀ i < n, ∀ j < m, 0 ≤ f i j ∧ f i j < n) (hn : n ≤ 16) (hS : S < 2 ^ n) (hT : TzAt w) (hI : IxAt m w) (hd : ∀ c ∈ ws.data.toList, digit c = dig c ∧ dig c < m) (hz : ws.size ≤ 1000000) :
    Calls Tryd.prog 26 #[.agg #[.int .i64 Q, v], .int .i64 (S : Int), .string ws] w fun e w' => ∃ O : Nat, e = .returned (.int .i64 (O : Int)) ∧ ImgOf S (fun s => runN (nxF f) s ws.data.toList) O ∧ Below w.heap.size w w' := by
  have HM := hid hM
  have HT := hid hT
  have HI := hid hI
  have HF := hid hf
  have HD := hid hd
  have HS := hid hS
  obtain ⟨ao, cap, rfl, hc1, hc2⟩ := hM.slice
  clear hM hT hf hI hd hS
  go_enter Tryd.func26, Tryd.ntmps26
  go_upto_region 1 with fail
  obtain ⟨w0, hw0⟩ : ∃ w0, w.alloc (.cells #[.int .i64 Q, .slice ao n cap] 29) = w0 := ⟨_, rfl⟩
  have hb0 : Below w.heap.size w w0 := by rw [← hw0]; exact bel_alloc _ _
  have c0 : w0.cell? ⟨w.heap.size, 0, none⟩ = some (.int .i64 Q) := by rw [← hw0]; simp
  have c1 : w0.cell? ⟨w.heap.size, 1, none⟩ = some (.slice ao n cap) := by rw [← hw0]; simp
  rw [hw0]
  have HB0 := hid hb0
  clear hw0 hb0
  go_wp2_with fail
  go_loopw [1, 10] (fun o i wr => ∃ k O : Nat, k ≤ ws.size ∧ i = .int .i64 (k : Int) ∧ o = .int .i64 (O : Int) ∧ Hid (O < 2 ^ n) ∧ Hid (ImgOf S (fun s => runN (nxF f) s (ws.data.toList.take k)) O) ∧ Below w0.heap.size w0 wr) (fun _ i _ => ws.size - (intOf i).toNat)
  case atStart => exact ⟨0, S, Nat.zero_le _, rfl, rfl, HS, hid (ImgOf.id S), Below.refl _ _⟩
  case round =>
    obtain ⟨k, O, hk, rfl, rfl, HO, HIm, hb⟩ := hrel
    have HB := hid (HB0.out.trans (hb.mono HB0.out.size))
    have HBk := hid hb
    have c0 := keeps hb c0
    have c1 := keeps hb c1
    clear hb
    rename World => wm
    by_cases hlt : k < ws.size
    · obtain ⟨c, hc⟩ : ∃ c, ws.data.toList[k]? = some c := ⟨_, List.getElem?_eq_getElem (by simpa using hlt)⟩
      have hg : ∀ h : k < ws.size, ws[k]'h = c := fun h => by
        rw [List.getElem?_eq_getElem (by simpa using hlt)] at hc
        have := Option.some.inj hc
        simp [ByteArray.getElem_eq_getElem_data] at this ⊢
        exact this
      obtain ⟨hdg, hdc⟩ := HD.out c (List.mem_of_getElem? hc)
      have HC := hid hc
      have HIx := hid (fun X hX => HI.out c X hdg hdc hX)
      have HSt := hid (fun X (hX : Below w.heap.size w X) => step_any Q (.slice ao n cap) n m (dig c) O f X (HM.out.below hX) HF.out hn hdc HO.out (fun x Y h1 h2 h3 => HT.out x Y h1 h2 (hX.trans (h3.mono hX.size))))
      unfold letters16 at HIx
      have hk0 : (0 : Int) ≤ (k : Int) := by omega
      have hk1 : (k : Int) < (ws.size : Int) := by omega
      clear hc hdg
      go_upto_region 4 with fail
      go_region_held3 (fun w' => w'.cell? ⟨w.heap.size, 0, none⟩ = some (.int .i64 Q) ∧ w'.cell? ⟨w.heap.size, 1, none⟩ = some (.slice ao n cap))
        (first | exact ⟨c0, c1⟩ | go_keep)
        (first
          | (go_at_call 14; refine (HIx.out _ HB.out.drew).mono ?_; rintro e w5 ⟨rfl, hb5⟩; have c0 := keeps hb5 c0; have c1 := keeps hb5 c1; have HB5 := hid (show Below wm.heap.size wm w5 from (below_drewN (Below.refl _ _) 1).trans hb5); clear hb5)
          | (go_at_call 44; refine (HSt.out _ (HB.out.trans (HB5.out.mono HB.out.size))).mono ?_; rintro e w6 ⟨O2, rfl, hO2, hb6⟩; have c0 := keeps hb6 c0; have c1 := keeps hb6 c1; have HB6 := hid (bel_step HB5.out hb6); have HO2 := hid hO2; clear hO2 hb6))
      have HO3 := hid (show O2 < 2 ^ n from img_lt HO.out (fun s hs => by have := HF.out s hs _ hdc; omega) HO2.out)
      have HI3 := hid (lead_step (nx := nxF f) HC.out HIm.out HO2.out)
      have HB3 := hid (HBk.out.trans (HB6.out.mono HBk.out.size))
      clear c0 c1 hdc hg hk0 hk1
      go_wp2
      go_roundw
      case rel => exact ⟨k + 1, O2, by omega, by go_num, rfl, HO3, HI3, HB3.out⟩
      case measure => simp [intOf]; omega
    · obtain rfl : k = ws.size := by omega
      go_wp2_with fail
      go_ret
      refine ⟨O, rfl, ?_, HB.out⟩
      have := HIm.out
      rwa [List.take_of_length_le (by simp)] at this
end Go.Proofs.YtjcdddccnfiemaaDoor
