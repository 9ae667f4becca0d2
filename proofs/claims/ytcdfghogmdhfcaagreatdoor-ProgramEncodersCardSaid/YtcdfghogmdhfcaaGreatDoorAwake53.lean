/-
  groovelaw53.awake: the examples of the chapter hold.
  No condition.
-/
import Derived.Test.YtcdfghogmdhfcaaGreatDoorPrPrint
import Derived.Test.YtcdfghogmdhfcaaGreatDoorMg22
import Derived.Test.YtcdfghogmdhfcaaGreatDoorMg29
import Derived.Test.YtcdfghogmdhfcaaGreatDoorPrReduce
import Derived.KernelRfl
namespace Go.Proofs.YtcdfghogmdhfcaaGreatDoor
open Go.RowKit Go.Deep
set_option linter.unusedVariables false

def dg9 (k : Int) : List UInt8 := [UInt8.ofNat (48 + k.toNat)]
theorem itoa9 (k : Int) (X : World) (h0 : 0 ≤ k) (h9 : k < 10) : Calls Tryz.prog 31 #[.int .i64 k] X fun e X' => e = .returned (.string ⟨(dg9 k).toArray⟩) ∧ Below X.heap.size X X' := by
  obtain ⟨i, rfl⟩ : ∃ i : Nat, k = i := ⟨k.toNat, by omega⟩
  refine (Tryz.strconv_Itoa_small i (by omega) X).mono ?_
  rintro e w' ⟨rfl, rfl⟩
  refine ⟨?_, Below.refl _ _⟩
  rw [Lib.decDigits, dif_pos (by omega)]
  rfl
def awc1 : List Ins := [⟨4, 0, 1⟩]
def awo1 : List Int := [2]
def awc2 : List Ins := [⟨2, 0, 0⟩, ⟨3, 0, 2⟩, ⟨5, 3, 0⟩, ⟨5, 4, 0⟩]
def awo2 : List Int := [5]
theorem aw1 : printE dg9 2 awc1 awo1 = 0 := by kernel_rfl
theorem aw2 : printL dg9 2 awc1 awo1 = [112, 114, 111, 103, 114, 97, 109, 32, 50, 10, 120, 111, 114, 32, 48, 32, 49, 10, 111, 117, 116, 32, 50, 10] := by kernel_rfl
theorem aw3 : runErr 2 awc1 awo1 ⟨#[49, 48]⟩ = 0 := by kernel_rfl
theorem aw4 : poutsV [true, false] awc1 awo1 = [true] := by kernel_rfl
theorem aw5 : progErr 2 awc2 awo2 = 0 := by kernel_rfl
theorem aw6 : redC 2 awc2 awo2 = [] := by kernel_rfl
theorem aw7 : redO 2 awc2 awo2 = [0] := by kernel_rfl
theorem aw1S : printS dg9 2 awc1 awo1 = ⟨#[112, 114, 111, 103, 114, 97, 109, 32, 50, 10, 120, 111, 114, 32, 48, 32, 49, 10, 111, 117, 116, 32, 50, 10]⟩ := by
  rw [printS, if_pos aw1, aw2]
theorem aw3S : runStr 2 awc1 awo1 ⟨#[49, 48]⟩ = ⟨#[49]⟩ := by
  rw [runStr, if_pos aw3, show bitsB ⟨#[49, 48]⟩ = [true, false] from rfl, aw4]
  rfl
theorem aw5E : redE 2 awc2 awo2 = 0 := by rw [redE, if_pos aw5]
theorem aw5I : redI 2 awc2 awo2 = 2 := by rw [redI, if_pos aw5]
theorem aw5N : redN 2 awc2 awo2 = [] := by rw [redN, if_pos aw5]; exact aw6
theorem aw5P : redP 2 awc2 awo2 = [0] := by rw [redP, if_pos aw5]; exact aw7
theorem sl_row {w : World} {g sz m : Nat} {cs : Array Value} {T : TypeId} {fl : Nat × Nat} {xs : List Value} (h : w.heap[g]? = some (.cells cs T fl)) (hx : cs.toList = xs) (hl : xs.length = m * sz) (hm : m ≤ 1000) : Sl sz w (.slice (some ⟨g, 0, none⟩) m m) m xs := by
  refine ⟨_, _, rfl, hl, Nat.le_refl _, by omega, .inr ⟨g, 0, rfl, fun j x hj => ?_⟩⟩
  rw [← hx] at hj
  rw [Nat.zero_add, cell_of_row _ g j _ _ _ h]
  simpa using hj
def Rw (w : World) (g : Nat) (cs : Array Value) (T : TypeId) : Prop := w.heap[g]? = some (.cells cs T (0, 0))
theorem Rw.keep {w w' : World} {g : Nat} {cs : Array Value} {T : TypeId} (h : Rw w g cs T) (hb : Below w.heap.size w w') : Rw w' g cs T := (hb.block g (Array.getElem?_eq_some_iff.1 h).1).trans h
theorem aw_two {w w0 : World} {c1 c2 : Array Value} {T1 T2 : TypeId} (h : (w.alloc (.cells c1 T1)).alloc (.cells c2 T2) = w0) : Below w.heap.size w w0 ∧ Rw w0 w.heap.size c1 T1 ∧ Rw w0 (w.heap.size + 1) c2 T2 := by
  subst h
  refine ⟨(bel_alloc _ _).alloc (by simp) _, Rw.keep (heap_alloc_new w _) (bel_alloc _ _), ?_⟩
  have := heap_alloc_new (w.alloc (.cells c1 T1)) (.cells c2 T2)
  rwa [World.size_alloc] at this
theorem nil_own {w : World} {base : Nat} {e : TypeId} {sz : Nat} {v : Value} (h : w.ownsRow base e sz v 0 []) : Sl sz w v 0 [] := Sl.of_owns h
set_option maxRecDepth 100000 in
set_option maxHeartbeats 4000000 in
theorem awake_any (w : World) :
    Calls Tryz.prog 6 #[] w fun e w' => e = .returned (.bool true) ∧ Below w.heap.size w w' := by
  have hmax : ∀ ats ty, Builtin.max_ ats ty #[.int .i64 0, .int .i64 0, .int .i64 0] = pure (.int .i64 0) := fun _ _ => rfl
  go_enter Tryz.func6, Tryz.ntmps6
  go_upto_region 2 with fail
  obtain ⟨wa, hwa⟩ : ∃ wa, (w.alloc (.cells #[.int .i64 4, .int .i64 0, .int .i64 1] 47)).alloc (.cells #[.int .i64 2] 3) = wa := ⟨_, rfl⟩
  obtain ⟨hba, r1, r2⟩ := aw_two hwa
  have hsa : wa.heap.size = w.heap.size + 1 + 1 := by rw [← hwa]; simp
  rw [hwa, ← hsa]
  obtain ⟨w0, hw0⟩ : ∃ w0, wa.alloc (.cells #[.int .i64 2, .slice (some ⟨w.heap.size, 0, none⟩) 1 1, .slice (some ⟨w.heap.size + 1, 0, none⟩) 1 1] 28) = w0 := ⟨_, rfl⟩
  obtain ⟨hb0, c0, c1, c2⟩ := boxP hw0
  rw [hw0]
  have HC := hid (show Sl 3 w0 (.slice (some ⟨w.heap.size, 0, none⟩) 1 1) awc1.length (icells awc1) from sl_row (r1.keep hb0) rfl rfl (by decide))
  have HO := hid (show Sl 1 w0 (.slice (some ⟨w.heap.size + 1, 0, none⟩) 1 1) awo1.length (ints awo1) from sl_row (r2.keep hb0) rfl rfl (by decide))
  have HB0 := hid (bel_step hba hb0)
  have HPr := hid (fun X h1 h2 => print_any dg9 2 (.slice (some ⟨w.heap.size, 0, none⟩) 1 1) (.slice (some ⟨w.heap.size + 1, 0, none⟩) 1 1) awc1 awo1 X h1 h2 (fun k Y h0 hk _ => itoa9 k Y h0 (by have : (awc1.length : Int) = 1 := rfl; omega)) (fun _ _ _ => by simp [dg9]))
  have HRn := hid (fun X h1 h2 => prunTop_any 2 (.slice (some ⟨w.heap.size, 0, none⟩) 1 1) (.slice (some ⟨w.heap.size + 1, 0, none⟩) 1 1) awc1 awo1 ⟨#[49, 48]⟩ X h1 h2 (by decide))
  rw [aw1, aw1S] at HPr
  rw [aw3, aw3S] at HRn
  clear hwa hsa hba r1 r2 hw0 hb0
  go_upto_region 4 with (first
    | (go_at_call 16; refine (HPr.out _ HC.out HO.out).mono ?_; rintro e w1 ⟨rfl, hb1⟩; have c0 := keeps hb1 c0; have c1 := keeps hb1 c1; have c2 := keeps hb1 c2; have HB1 := hid hb1)
    | (go_at_call 17; refine (HRn.out _ (HC.out.below HB1.out) (HO.out.below HB1.out)).mono ?_; rintro e w2 ⟨rfl, hb2⟩))
  have HB2 := hid (bel_step (HB0.out.trans (HB1.out.mono HB0.out.size)) hb2)
  clear hb1 hb2 c0 c1 c2 HB1 HC HO HPr HRn HB0
  obtain ⟨wb, hwb⟩ : ∃ wb, (w2.alloc (.cells #[.int .i64 2, .int .i64 0, .int .i64 0, .int .i64 3, .int .i64 0, .int .i64 2, .int .i64 5, .int .i64 3, .int .i64 0, .int .i64 5, .int .i64 4, .int .i64 0] 47)).alloc (.cells #[.int .i64 5] 3) = wb := ⟨_, rfl⟩
  obtain ⟨hbb, r1, r2⟩ := aw_two hwb
  have HC := hid (show Sl 3 wb (.slice (some ⟨w2.heap.size, 0, none⟩) 4 4) awc2.length (icells awc2) from sl_row r1 rfl rfl (by decide))
  have HO := hid (show Sl 1 wb (.slice (some ⟨w2.heap.size + 1, 0, none⟩) 1 1) awo2.length (ints awo2) from sl_row r2 rfl rfl (by decide))
  have HBb := hid (bel_step HB2.out hbb)
  have HRd := hid (preduce_any 2 (.slice (some ⟨w2.heap.size, 0, none⟩) 4 4) (.slice (some ⟨w2.heap.size + 1, 0, none⟩) 1 1) awc2 awo2 wb HC.out HO.out)
  unfold RPost at HRd
  rw [aw5E, aw5I, aw5N, aw5P] at HRd
  clear hbb r1 r2
  go_upto_region 5 with (go_at_call 18; refine HRd.out.mono ?_; rintro e w3 ⟨vc, vo, rfl, how1, how2, hb3⟩; obtain ⟨ac, cc, rfl⟩ := own_slice how1; obtain ⟨ao, co, rfl⟩ := own_slice how2)
  obtain ⟨w4, hw4⟩ : ∃ w4, w3.alloc (.cells #[.int .i64 2, .slice ac 0 cc, .slice ao 1 co] 28) = w4 := ⟨_, rfl⟩
  obtain ⟨hb4, c0, c1, c2⟩ := boxP hw4
  have hHD := hid (And.intro (own_below how1 hb4) (own_below how2 hb4))
  have HB4 := hid (bel_step (bel_step HBb.out hb3) hb4)
  have HSm := hid (fun (X : World) (g : Nat) (hb : Below w4.heap.size w4 X) (hg : X.heap[g]? = some (.cells #[.int .i64 0] 3 (0, 0))) => psame_any 2 (.slice ac 0 cc) (.slice ao 1 co) (.slice none 0 0) (.slice (some ⟨g, 0, none⟩) 1 1) [] [0] X (Sl.of_owns (own_below hHD.out.1 hb)) (Sl.of_owns (own_below hHD.out.2 hb)) (Sl.nil 3 X) (sl_row hg rfl rfl (by decide)))
  rw [hw4]
  clear hw4 how1 how2 hb3 hb4 HRd HC HO
  go_wp2_with (go_at_call 15; refine (HSm.out _ _ (bel_alloc _ _) (heap_alloc_new _ _)).mono ?_; rintro e w5 ⟨rfl, hb5⟩)
  go_ret
  exact ⟨rfl, HB4.out.trans (((bel_alloc _ _).trans (hb5.mono (by simp))).mono HB4.out.size)⟩
end Go.Proofs.YtcdfghogmdhfcaaGreatDoor
