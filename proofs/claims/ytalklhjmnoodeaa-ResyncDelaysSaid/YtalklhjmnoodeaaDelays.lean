/-
  groovelaw45.ResyncDelays: Delay, Slip and Lost return the results of the reference.
  No condition beyond the words lying in a slice.
-/
import Derived.Test.YtalklhjmnoodeaaLawGreat
import Derived.Test.YtalklhjmnoodeaaRefSlip
import Derived.Test.YtalklhjmnoodeaaRefLost
namespace Go.Proofs.Ytalklhjmnoodeaa
open Go.RowKit Go.Deep
set_option linter.unusedVariables false

def dA (q : Int) (ws : List ByteArray) (x : ByteArray) (A B : Int) : Int := if dErr q ws x A B = 0 then agI (delayR ws x A.toNat B.toNat) else 0
def dB (q : Int) (ws : List ByteArray) (x : ByteArray) (A B : Int) : Bool := if dErr q ws x A B = 0 then agB (delayR ws x A.toNat B.toNat) else false
theorem dpost_one {q : Int} {ws : List ByteArray} {x : ByteArray} {A B : Int} {w w' : World} {e : Ending} (h : DPost q ws x A B w e w') : e = .returned (.tuple #[.int .i64 (dA q ws x A B), .bool (dB q ws x A B), .int .i64 (dErr q ws x A B)]) ∧ Below w.heap.size w w' := by
  obtain ⟨hb, ⟨h1, h2⟩ | ⟨h1, h2⟩⟩ := h
  · exact ⟨by rw [h2, dA, dB, if_neg h1, if_neg h1], hb⟩
  · exact ⟨by rw [h2, dA, dB, if_pos h1, if_pos h1, h1], hb⟩
def sA (q : Int) (ws : List ByteArray) (x : ByteArray) (A : Int) : Int := if slErr q ws x A = 0 then agI (slipR ws x A.toNat) else 0
def sB (q : Int) (ws : List ByteArray) (x : ByteArray) (A : Int) : Bool := if slErr q ws x A = 0 then agB (slipR ws x A.toNat) else false
theorem spost_one {q : Int} {ws : List ByteArray} {x : ByteArray} {A : Int} {w w' : World} {e : Ending} (h : SlPost q ws x A w e w') : e = .returned (.tuple #[.int .i64 (sA q ws x A), .bool (sB q ws x A), .int .i64 (slErr q ws x A)]) ∧ Below w.heap.size w w' := by
  obtain ⟨hb, ⟨h1, h2⟩ | ⟨h1, h2⟩⟩ := h
  · exact ⟨by rw [h2, sA, sB, if_neg h1, if_neg h1], hb⟩
  · exact ⟨by rw [h2, sA, sB, if_pos h1, if_pos h1, h1], hb⟩
def lA (q : Int) (ws : List ByteArray) (x y : ByteArray) : Int := if rErr q ws [x, y] = 0 then (lostA (emW ws x) (emW ws y) : Nat) else 0
def lB (q : Int) (ws : List ByteArray) (x y : ByteArray) : Int := if rErr q ws [x, y] = 0 then (lostB (emW ws x) (emW ws y) : Nat) else 0
theorem lpost_one {q : Int} {ws : List ByteArray} {x y : ByteArray} {w w' : World} {e : Ending} (h : LPost q ws x y w e w') : e = .returned (.tuple #[.int .i64 (lA q ws x y), .int .i64 (lB q ws x y), .int .i64 (rErr q ws [x, y])]) ∧ Below w.heap.size w w' := by
  obtain ⟨hb, ⟨h1, h2⟩ | ⟨h1, h2⟩⟩ := h
  · exact ⟨by rw [h2, lA, lB, if_neg h1, if_neg h1], hb⟩
  · exact ⟨by rw [h2, lA, lB, if_pos h1, if_pos h1, h1], hb⟩

set_option maxRecDepth 100000 in
set_option maxHeartbeats 4000000 in
theorem resyncDelays_any (q : Int) (v : Value) (ws : List ByteArray) (x y : ByteArray) (A B : Int) (w : World) (hl : Sl 1 w v ws.length (strs ws)) (_hx : x.size ≤ maxLen) (_hy : y.size ≤ maxLen) (hA0 : IntKind.i64.min ≤ A) (hA1 : A ≤ IntKind.i64.max) (hB0 : IntKind.i64.min ≤ B) (hB1 : B ≤ IntKind.i64.max) :
    Calls Try.prog 3 #[.agg #[.int .i64 q, v], .string x, .string y, .int .i64 A, .int .i64 B] w fun e w' => e = .returned (.bool true) ∧ Below w.heap.size w w' := by
  have HL := hid hl
  have HGr := hid (fun (u : Value) X h h2 => lgreat_any q v u ws [x, y] X h h2)
  have HD1 := hid (fun X h => (delay_any q v ws y A B X h).mono fun e w' h => dpost_one h)
  have HD2 := hid (fun X h => (rdelay_any q v ws y A B X h).mono fun e w' h => dpost_one h)
  have HS1 := hid (fun X h => (slip_any q v ws y A X h).mono fun e w' h => spost_one h)
  have HS2 := hid (fun X h => (rslip_any q v ws y A X h).mono fun e w' h => spost_one h)
  have HL1 := hid (fun X h => (lost_any q v ws x y X h).mono fun e w' h => lpost_one h)
  have HL2 := hid (fun X h => (rlost_any q v ws x y X h).mono fun e w' h => lpost_one h)
  have HSx := hid (fun W : World => lit_words W [x, y] #[.string x, .string y] 2 rfl rfl (by show 2 ≤ 1000; omega))
  have HAw := hid awake_any
  obtain ⟨ao, cap, rfl, _, hl1, hl2, hl3⟩ := hl
  clear hl3
  go_enter Try.func3, Try.ntmps3
  go_upto_region 1 with fail
  obtain ⟨w0, hw0⟩ : ∃ w0, w.alloc (.cells #[.int .i64 q, .slice ao ws.length cap] 24) = w0 := ⟨_, rfl⟩
  obtain ⟨hb0, c0, c1⟩ := boxed hw0
  rw [hw0]
  have HB0 := hid hb0
  clear hw0 hb0
  generalize (greatB ws || [x, y].any longB) = G at *
  cases G
  · generalize dA q ws y A B = a1 at *
    generalize dB q ws y A B = a2 at *
    generalize dErr q ws y A B = a3 at *
    generalize sA q ws y A = a4 at *
    generalize sB q ws y A = a5 at *
    generalize slErr q ws y A = a6 at *
    generalize lA q ws x y = a7 at *
    generalize lB q ws x y = a8 at *
    generalize rErr q ws [x, y] = a9 at *
    go_upto_region 3 with (go_at_call 11; refine (HGr.out _ _ (HL.out.below (bel_step HB0.out (bel_alloc _ _))) (HSx.out _)).mono ?_; rintro e w1 ⟨rfl, hb1⟩; have HB1 := hid (bel_step (bel_step HB0.out (bel_alloc _ _)) hb1); have c0 := keeps hb1 (keeps (bel_alloc _ _) c0); have c1 := keeps hb1 (keeps (bel_alloc _ _) c1))
    go_upto_region 9 with (first
      | (go_at_call 13; refine (HD1.out _ (HL.out.below HB1.out)).mono ?_; rintro e w2 ⟨rfl, hb2⟩; have HB2 := hid (bel_step HB1.out hb2); have c0 := keeps hb2 c0; have c1 := keeps hb2 c1)
      | (go_at_call 14; refine (HD2.out _ (HL.out.below HB2.out)).mono ?_; rintro e w3 ⟨rfl, hb3⟩; have HB3 := hid (bel_step HB2.out hb3); have c0 := keeps hb3 c0; have c1 := keeps hb3 c1)
      | (go_at_call 15; refine (HS1.out _ (HL.out.below HB3.out)).mono ?_; rintro e w4 ⟨rfl, hb4⟩; have HB4 := hid (bel_step HB3.out hb4); have c0 := keeps hb4 c0; have c1 := keeps hb4 c1)
      | (go_at_call 16; refine (HS2.out _ (HL.out.below HB4.out)).mono ?_; rintro e w5 ⟨rfl, hb5⟩; have HB5 := hid (bel_step HB4.out hb5); have c0 := keeps hb5 c0; have c1 := keeps hb5 c1)
      | (go_at_call 17; refine (HL1.out _ (HL.out.below HB5.out)).mono ?_; rintro e w6 ⟨rfl, hb6⟩; have HB6 := hid (bel_step HB5.out hb6); have c0 := keeps hb6 c0; have c1 := keeps hb6 c1)
      | (go_at_call 18; refine (HL2.out _ (HL.out.below HB6.out)).mono ?_; rintro e w7 ⟨rfl, hb7⟩; have HB7 := hid (bel_step HB6.out hb7)))
    go_wp2_with (go_at_call 12; refine (HAw.out _).mono ?_; rintro e w8 ⟨rfl, hb8⟩)
    go_ret
    exact ⟨rfl, bel_step HB7.out hb8⟩
  · go_wp2_with (first
      | (go_at_call 11; refine (HGr.out _ _ (HL.out.below (bel_step HB0.out (bel_alloc _ _))) (HSx.out _)).mono ?_; rintro e w1 ⟨rfl, hb1⟩; have HB1 := hid (bel_step (bel_step HB0.out (bel_alloc _ _)) hb1))
      | (go_at_call 12; refine (HAw.out _).mono ?_; rintro e w8 ⟨rfl, hb8⟩))
    go_ret
    exact ⟨rfl, bel_step HB1.out hb8⟩
end Go.Proofs.Ytalklhjmnoodeaa
