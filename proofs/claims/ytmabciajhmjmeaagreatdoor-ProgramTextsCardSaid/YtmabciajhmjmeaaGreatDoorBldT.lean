/-
  A strings.Builder beside other memory that was made behind it: rows of other types are left alone.
  No condition beyond the length's bound of 2^47 bytes.
-/
import Derived.Test.YtmabciajhmjmeaaGreatDoorBld
namespace Go.Proofs.YtmabciajhmjmeaaGreatDoor
open Go.RowKit
set_option linter.unusedVariables false

theorem own_block8 {w : World} {base : Nat} {e : TypeId} {sz : Nat} {v : Value} {n : Nat} {xs : List Value} (h : w.ownsRow base e sz v n xs) {g : Nat} (hg : v.ownBlock = some g) : ∃ cs fl, w.heap[g]? = some (.cells cs e fl) := by
  rcases h.2 with ⟨hv, h0⟩ | ⟨g', cap, cur, hv, _, hc, _⟩
  · rw [hv] at hg; cases hg
  · rw [hv] at hg
    obtain rfl : g' = g := by simpa [Value.ownBlock] using hg
    exact ⟨_, _, hc⟩
/-- Nothing but the builder and rows of bytes has turned. -/
def BelT (b : Nat) (w w' : World) : Prop := w.heap.size ≤ w'.heap.size ∧ ∀ k, k < w.heap.size → k ≠ b → (∀ cs fl, w.heap[k]? ≠ some (.cells cs 5 fl)) → w'.heap[k]? = w.heap[k]?
theorem BelT.refl (b : Nat) (w : World) : BelT b w w := ⟨Nat.le_refl _, fun _ _ _ _ => rfl⟩
theorem BelT.trans {b : Nat} {w1 w2 w3 : World} (h : BelT b w1 w2) (k : BelT b w2 w3) : BelT b w1 w3 :=
  ⟨Nat.le_trans h.1 k.1, fun j hj hb ht => by
    have e := h.2 j hj hb ht
    rw [k.2 j (Nat.lt_of_lt_of_le hj h.1) hb (by rw [e]; exact ht), e]⟩
theorem BelT.below {b : Nat} {w w' : World} (h : Below w.heap.size w w') : BelT b w w' := ⟨h.size, fun k hk _ _ => h.block k hk⟩
theorem BelT.set {b : Nat} {w : World} {i : Nat} {v : Value} : BelT b w (w.setCell ⟨b, i, none⟩ v) := ⟨by simp, fun k _ hk _ => Below.heap_setCell _ _ _ _ (fun e => hk (by simp [e]))⟩
theorem BelT.grown {b S n : Nat} {w w' : World} {v : Value} {bs : List Value} (ho : w.ownsRow S 5 1 v n bs) (hg : w.grownBy w' v.ownBlock) : BelT b w w' :=
  ⟨hg.size, fun k hk _ ht => hg.block k hk fun e => by obtain ⟨cs, fl, hc⟩ := own_block8 ho e.symm; exact ht cs fl hc⟩
theorem BelT.cell {b : Nat} {w w' : World} (h : BelT b w w') {a : Addr} {v : Value} {cs : Array Value} {T : TypeId} {fl : Nat × Nat} (hc : w.cell? a = some v) (hk : w.heap[a.block]? = some (.cells cs T fl)) (hT : T ≠ 5) (hb : a.block ≠ b) : w'.cell? a = some v := by
  have hlt : a.block < w.heap.size := (Array.getElem?_eq_some_iff.1 hk).1
  have := h.2 a.block hlt hb (fun cs' fl' e => by rw [hk] at e; simp only [Option.some.injEq, Obj.cells.injEq] at e; exact hT e.2.1)
  unfold World.cell? at hc ⊢
  rw [this]; exact hc
/-- copyCheck: the builder knows its address. -/
theorem copyCheck_bldt (b S : Nat) (bs : List Value) (w : World) (h : Bld w b S bs) :
    Calls Tryz.prog 38 #[.pointer (some ⟨b, 0, none⟩)] w fun e w' => e = .returned (.tuple #[]) ∧ (∃ v, w'.heap[b]? = some (.cells #[.pointer (some ⟨b, 0, none⟩), v] 43 (0, 0)) ∧ w'.ownsRow S 5 1 v bs.length bs) ∧ BelB S b w w' ∧ BelT b w w' := by
  obtain ⟨h1, h2, p, v, h3, h4, h5⟩ := h
  have c0 : w.cell? ⟨b, 0, none⟩ = some p := by rw [Lib.cell_of_heap h4]; rfl
  rcases h3 with rfl | rfl
  · refine (copyCheck_fresh b w c0 (by simp [World.shape?, h4]) (Lib.frozen_of_heap h4 0)).mono ?_
    rintro e w' ⟨rfl, rfl⟩
    exact ⟨rfl, ⟨v, by simp [World.setCell, Array.getElem?_modify, h4], ownsRow_setCell_below h5 h1 _⟩, bel_set, BelT.set⟩
  · refine (copyCheck_used b w c0).mono ?_
    rintro e w' ⟨rfl, rfl⟩
    exact ⟨rfl, ⟨v, h4, h5⟩, BelB.refl _ _ _, BelT.refl _ _⟩
/-- The new row is laid into the builder. -/
theorem bld_putt {w1 w2 : World} {b S n : Nat} {v v' : Value} {bs bs' : List Value} (hs : b < S) (hS : S ≤ w1.heap.size) (h1 : w1.heap[b]? = some (.cells #[.pointer (some ⟨b, 0, none⟩), v] 43 (0, 0))) (hv : w1.ownsRow S 5 1 v n bs) (hg : w1.grownBy w2 v.ownBlock) (ho : w2.ownsRow S 5 1 v' bs'.length bs') :
    Bld (w2.setCell ⟨b, 1, none⟩ v') b S bs' ∧ BelB S b w1 (w2.setCell ⟨b, 1, none⟩ v') ∧ BelT b w1 (w2.setCell ⟨b, 1, none⟩ v') := by
  have hbl : Below S w1 w2 := (Below.refl _ _).grown hg hS (fun k hk => ((hv.lt k hk).1))
  have h2 : w2.heap[b]? = some (.cells #[.pointer (some ⟨b, 0, none⟩), v] 43 (0, 0)) := (hbl.block b hs).trans h1
  refine ⟨⟨hs, ?_, _, _, .inr rfl, ?_, ownsRow_setCell_below ho hs _⟩, (BelB.of hbl).trans bel_set, (BelT.grown hv hg).trans BelT.set⟩
  · have := hbl.size; simp; omega
  · simp [World.setCell, Array.getElem?_modify, h2]
set_option maxHeartbeats 2000000 in
set_option maxRecDepth 100000 in
theorem writeByte_bldt (b S : Nat) (bs : List Value) (c : Int) (w : World) (h : Bld w b S bs) (hlen : bs.length + 1 ≤ 140737488355328) :
    Calls Tryz.prog 17 #[.pointer (some ⟨b, 0, none⟩), .int .u8 c] w fun e w' => e = .returned .nilIface ∧ Bld w' b S (bs ++ [.int .u8 c]) ∧ BelB S b w w' ∧ BelT b w w' := by
  have hbS := h.1
  have hSw := h.2.1
  go_enter Tryz.func17, Tryz.ntmps17
  go_wp2_with fail
  refine (copyCheck_bldt b S bs w h).mono ?_
  rintro e w1 ⟨rfl, ⟨v, hbk, hown⟩, hb1, ht1⟩
  have c1 : w1.cell? ⟨b, 1, none⟩ = some v := by rw [Lib.cell_of_heap hbk]; rfl
  have hs1 : S ≤ w1.heap.size := Nat.le_trans hSw hb1.2.2.2.1
  have HK := hid hbk
  have HB1 := hid hb1
  have HT1 := hid ht1
  have HH := hid h
  clear hbk hb1 ht1 h
  go_wp2_with (at_builtin; refine wpList_push w1 rfl _ _ 41 rfl S 5 (.int .u8 0) 1 1 Tryz.underlying41 Tryz.info5 rfl (by decide) v bs.length bs rfl hown #[.int .u8 c] rfl (oneCell_int _ _) rfl (by unfold maxLen; omega) (by omega) hs1 ?_; intro g cap w2 hown' hgrow hb2; have HP := hid (bld_putt (bs' := bs ++ [.int .u8 c]) hbS hs1 HK.out hown hgrow (by simpa using hown')); have hk2 := (hb2.block b hbS).trans HK.out; obtain ⟨d0, d1, f1⟩ := builder_facts hk2; clear hk2)
  go_ret
  exact ⟨rfl, HP.out.1, HB1.out.trans HP.out.2.1, HT1.out.trans HP.out.2.2⟩
set_option maxHeartbeats 2000000 in
set_option maxRecDepth 100000 in
theorem writeString_bldt (b S : Nat) (bs : List Value) (s : ByteArray) (w : World) (h : Bld w b S bs) (hlen : bs.length + s.size ≤ 140737488355328) :
    Calls Tryz.prog 15 #[.pointer (some ⟨b, 0, none⟩), .string s] w fun e w' => e = .returned (.tuple #[.int .i64 s.size, .nilIface]) ∧ Bld w' b S (bs ++ Lib.strCells s) ∧ BelB S b w w' ∧ BelT b w w' := by
  have hbS := h.1
  have hSw := h.2.1
  obtain ⟨i0, hi, hz0, hz1, hz2⟩ := info_parts Tryz.info5
  go_enter Tryz.func15, Tryz.ntmps15
  go_wp2_with fail
  refine (copyCheck_bldt b S bs w h).mono ?_
  rintro e w1 ⟨rfl, ⟨v, hbk, hown⟩, hb1, ht1⟩
  have c1 : w1.cell? ⟨b, 1, none⟩ = some v := by rw [Lib.cell_of_heap hbk]; rfl
  have hs1 : S ≤ w1.heap.size := Nat.le_trans hSw hb1.2.2.2.1
  have HK := hid hbk
  have HB1 := hid hb1
  have HT1 := hid ht1
  have HH := hid h
  clear hbk hb1 ht1 h
  go_wp2_with (at_builtin; refine Lib.wpList_append_own_string _ rfl _ _ 41 9 rfl S 5 i0 Tryz.underlying41 Tryz.underlying9 hi hz0 hz1 hz2 v bs.length bs rfl hown s rfl (by unfold maxLen; omega) (by omega) hs1 ?_; intro v' w2 hown' hgrow _; obtain ⟨av, cv, rfl⟩ := own_slice hown'; have HP := hid (bld_putt (bs' := bs ++ Lib.strCells s) hbS hs1 HK.out hown hgrow (by rw [List.length_append, Lib.strCells_length]; exact hown')); have hb2 : Below S w1 w2 := (Below.refl _ _).grown hgrow hs1 (fun k hk => ((hown.lt k hk).1)); have hk2 := (hb2.block b hbS).trans HK.out; obtain ⟨d0, d1, f1⟩ := builder_facts hk2; clear hk2 hb2)
  go_ret2
  exact ⟨rfl, HP.out.1, HB1.out.trans HP.out.2.1, HT1.out.trans HP.out.2.2⟩
end Go.Proofs.YtmabciajhmjmeaaGreatDoor
