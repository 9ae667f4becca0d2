/-
  Memory of reduction.classes at two equal states: all blocks but a map and a row stay.
  reduction.classes at two equal states: they are of one class.
  reduction.Merge at an encoder of two equal states: one state is left.
  Conditions: No condition: plain laws of memory. No condition beyond the rows lying in a slice. No condition beyond the rows lying in a slice.
-/
import Derived.Test.YtobbinppkjmhhaaDoorFinMap
import Derived.Test.YtobbinppkjmhhaaDoorEncLaw
import Derived.Test.YtobbinppkjmhhaaDoorPrPut
import Derived.Test.YtobbinppkjmhhaaDoorEncChk
namespace Go.Proofs.YtobbinppkjmhhaaDoor
open Go.RowKit Go.Deep
set_option linter.unusedVariables false

/-- All blocks but two stay. -/
structure Bel2 (b1 b2 : Nat) (w w' : World) : Prop where
  os : w'.os = w.os
  tape : w'.tape = w.tape
  output : w'.output = w.output
  size : w.heap.size ≤ w'.heap.size
  block : ∀ k, k < w.heap.size → k ≠ b1 → k ≠ b2 → w'.heap[k]? = w.heap[k]?
theorem Bel2.refl (b1 b2 : Nat) (w : World) : Bel2 b1 b2 w w := ⟨rfl, rfl, rfl, Nat.le_refl _, fun _ _ _ _ => rfl⟩
theorem Bel2.trans {b1 b2 : Nat} {w1 w2 w3 : World} (h : Bel2 b1 b2 w1 w2) (k : Bel2 b1 b2 w2 w3) : Bel2 b1 b2 w1 w3 :=
  ⟨k.os.trans h.os, k.tape.trans h.tape, k.output.trans h.output, Nat.le_trans h.size k.size, fun j hj h1 h2 => (k.block j (Nat.lt_of_lt_of_le hj h.size) h1 h2).trans (h.block j hj h1 h2)⟩
theorem Bel2.of {b1 b2 : Nat} {w w' : World} (h : Below w.heap.size w w') : Bel2 b1 b2 w w' := ⟨h.os, h.tape, h.output, h.size, fun k hk _ _ => h.block k hk⟩
theorem Bel2.grown {b1 b2 : Nat} {w w' : World} (h : w.grownBy w' (some b1)) : Bel2 b1 b2 w w' := ⟨h.os, h.tape, h.output, h.size, fun k hk h1 _ => h.block k hk (fun e => h1 (by simpa using e))⟩
theorem Bel2.set {b1 b2 : Nat} (w : World) (i : Nat) (v : Value) : Bel2 b1 b2 w (w.setCell ⟨b2, i, none⟩ v) := ⟨rfl, rfl, rfl, by simp, fun k hk _ h2 => Below.heap_setCell _ _ _ _ h2⟩
theorem Bel2.cell {b1 b2 : Nat} {w w' : World} (h : Bel2 b1 b2 w w') {a : Addr} {v : Value} (hc : w.cell? a = some v) (h1 : a.block ≠ b1) (h2 : a.block ≠ b2) : w'.cell? a = some v := by
  have := h.block a.block (World.block_lt_of_cell? w _ hc) h1 h2
  unfold World.cell? at hc ⊢
  rw [this]; exact hc
theorem Bel2.below {b1 b2 S : Nat} {w w' : World} (h : Bel2 b1 b2 w w') (hS : S ≤ w.heap.size) (h1 : S ≤ b1) (h2 : S ≤ b2) : Below S w w' :=
  ⟨h.os, h.tape, h.output, h.size, fun k hk => h.block k (by omega) (by omega) (by omega)⟩
/-- A row of ones own whose cell is set to what it holds. -/
theorem own_reset {w : World} {base g n c k : Nat} {e : TypeId} {l : List Value} (h : w.ownsRow base e 1 (.slice (some ⟨g, 0, none⟩) n c) n l) (x : Value) (hx : l[k]? = some x) : (w.setCell ⟨g, k, none⟩ x).ownsRow base e 1 (.slice (some ⟨g, 0, none⟩) n c) n l := by
  have h1 := (h.stored k x).1
  rwa [List.set_getElem?_self' hx] at h1
where
  List.set_getElem?_self' {α : Type} {l : List α} {k : Nat} {x : α} (h : l[k]? = some x) : l.set k x = l := by
    apply List.ext_getElem?
    intro i
    rw [List.getElem?_set]
    by_cases hi : k = i
    · subst hi
      obtain ⟨h1, h2⟩ := List.getElem?_eq_some_iff.1 h
      simp [h1, h2]
    · simp [hi]
/-- The map is empty. -/
theorem TF.len0 {w : World} {b : Nat} {f : FKey → Option Int} (h : TF w b 0 f) (ty : TypeId) : (Builtin.len_ #[85] ty #[.map (some b)]).run Tryd.prog w = .ok (.int .i64 0) w := by
  obtain ⟨D, hD, _⟩ := h
  have h1 := hD.len Tryd.underlying85 ty
  have h2 := hD.size_le
  rw [h1, show Maps.size D = 0 by omega]
  rfl
theorem TF.clears {w : World} {b n : Nat} {f : FKey → Option Int} (h : TF w b n f) :
    ∃ w', (∀ ty, (Builtin.clear_ #[85] ty #[.map (some b)]).run Tryd.prog w = .ok (.tuple #[]) w') ∧ TF w' b 0 (fun _ => none) ∧ w.grownBy w' (some b) := by
  obtain ⟨D, ⟨es, clock, hb, hF, hs, hD⟩, hf⟩ := h
  have hlt := (Array.getElem?_eq_some_iff.1 hb).1
  refine ⟨{ w with heap := w.heap.setIfInBounds b (.map #[] clock) }, fun ty => ?_, ⟨.map [], ⟨#[], clock, ?_, ⟨by simp, MapKept.stamped_empty clock, by simp⟩, Nat.le_refl _, rfl⟩, fun x zd _ => rfl⟩, ?_⟩
  · simp [Builtin.clear_, run_underlying Tryd.underlying85, MapKept.run_getObj_map hb, MapKept.run_setObj_map _ hb]
  · simp [hlt]
  · exact ⟨rfl, rfl, rfl, by simp, fun k hk hne => by simp only [Array.getElem?_setIfInBounds]; rw [if_neg (fun e => hne (by rw [e]))]⟩
theorem TF.congr {w : World} {b n : Nat} {f f' : FKey → Option Int} (h : TF w b n f) (e : ∀ x, f x = f' x) : TF w b n f' := by
  obtain ⟨D, h1, h2⟩ := h
  exact ⟨D, h1, fun x zd hx => by rw [← e]; exact h2 x zd hx⟩
theorem TF.mono {w : World} {b n n' : Nat} {f : FKey → Option Int} (h : TF w b n f) (e : n ≤ n') : TF w b n' f := by
  obtain ⟨D, h1, h2⟩ := h
  exact ⟨D, h1.mono e, h2⟩
theorem boxFin {w w0 : World} {a b c : Value} (h : w.alloc (.cells #[a, b, c] 88) = w0) : Below w.heap.size w w0 ∧ w0.cell? ⟨w.heap.size, 0, none⟩ = some a ∧ w0.cell? ⟨w.heap.size, 1, none⟩ = some b ∧ w0.cell? ⟨w.heap.size, 2, none⟩ = some c := by
  subst h
  exact ⟨bel_alloc _ _, by simp, by simp, by simp⟩
def eqRow : List Cl := [⟨1, ⟨#[48]⟩⟩, ⟨0, ⟨#[49]⟩⟩]
def eqRows : List (List Cl) := [eqRow, eqRow]
def mgRows : List (List Cl) := [[⟨0, ⟨#[48]⟩⟩, ⟨0, ⟨#[49]⟩⟩]]
theorem Tryd.infoInt9 : (Tryd.prog.info? 3).map (fun i => (i.zero, i.size, i.bytes)) = some (some (.int .i64 0), 1, 8) := by kernel_rfl
theorem Tryd.infoCell : (Tryd.prog.info? 33).map (fun i => (i.zero, i.size, i.bytes)) = some (some (.agg #[.int .i64 0, .string ⟨#[]⟩]), 2, 24) := by kernel_rfl
theorem ccells_one (l : List Cl) : ∀ u ∈ ccells l, u.oneCell' = true := by
  intro u hu
  simp only [ccells, List.mem_flatMap] at hu
  obtain ⟨x, _, hx⟩ := hu
  simp only [List.mem_cons, List.not_mem_nil, or_false] at hx
  rcases hx with rfl | rfl <;> rfl
theorem ints_ones (l : List Int) : ∀ u ∈ ints l, u.oneCell' = true := by
  intro u hu
  simp only [ints, List.mem_map] at hu
  obtain ⟨x, _, rfl⟩ := hu
  rfl
set_option maxRecDepth 100000 in
set_option maxHeartbeats 1000000 in
theorem cloneInts_any (v : Value) (l : List Int) (w : World) (hl : Sl 1 w v l.length (ints l)) (hn : l.length ≤ 1000000) :
    Calls Tryd.prog 34 #[v] w fun e w' => ∃ v', e = .returned v' ∧ w'.ownsRow w.heap.size 3 1 v' l.length (ints l) ∧ Below w.heap.size w w' := by
  obtain ⟨ao, cap, rfl, h1, h2, h3, h4⟩ := hl
  have hnil := Lib.run_eql_slice_nil (P := Tryd.prog) w 38 3 ao l.length cap 0 0 Tryd.underlying38
  cases ao with
  | none =>
    have hn0 : l.length = 0 := by
      rcases h4 with h | ⟨b, o, h, _⟩
      · exact h
      · cases h
    have hl0 : l = [] := List.length_eq_zero_iff.1 hn0
    subst hl0
    clear h4 h1 hn0
    rw [Option.isNone_none] at hnil
    simp only [List.length_nil] at hnil ⊢
    go_enter Tryd.func34, Tryd.ntmps34
    go_wp2
    go_ret
    exact ⟨_, rfl, World.ownsRow_nil _ _ _ _, Below.refl _ _⟩
  | some a =>
    rw [Option.isNone_some] at hnil
    have hnews : ∀ j u, (ints l)[j]? = some u → w.cell? (a.add j) = some u := fun j u hj => by
      rcases h4 with h | ⟨b, o, h, hc⟩
      · have := lt_of_some hj
        rw [ints_len] at this
        omega
      · cases h
        have e : (⟨b, o, none⟩ : Addr).add j = ⟨b, o + j, none⟩ := by unfold Addr.add; split <;> simp_all
        rw [e]
        exact hc j u hj
    have HN := hid hnews
    have HO1 := hid (ints_ones l)
    have HLn := hid (ints_len l)
    clear hnews h4
    obtain ⟨i0, hi, hz0, hz1, hz2⟩ := info_parts Tryd.infoInt9
    go_enter Tryd.func34, Tryd.ntmps34
    go_wp2_with (at_builtin; refine wpList_append_own _ rfl _ _ 38 rfl w.heap.size 3 i0 (.int .i64 0) 1 8 Tryd.underlying38 hi hz0 hz1 hz2 rfl (by decide) _ 0 [] rfl (own_empty w 3 1) a l.length cap (ints l) rfl (by rw [HLn.out]; simp) (fun j u hj => keeps (bel_alloc _ _) (HN.out j u hj)) HO1.out (by unfold maxLen; omega) (by omega) (by simp) ?_; intro v' w1 hown hg _)
    go_ret
    rw [Nat.zero_add, List.nil_append] at hown
    exact ⟨_, rfl, hown, ((Below.refl w.heap.size w).alloc (Nat.le_refl _) _).grown hg (by simp) (fun k hk => ((own_empty w 3 1).lt k hk).1)⟩
set_option maxRecDepth 100000 in
set_option maxHeartbeats 1000000 in
theorem cloneCl_any (v : Value) (l : List Cl) (w : World) (hl : Sl 2 w v l.length (ccells l)) (hn : l.length ≤ 1000000) :
    Calls Tryd.prog 18 #[v] w fun e w' => ∃ v', e = .returned v' ∧ w'.ownsRow w.heap.size 33 2 v' l.length (ccells l) ∧ Below w.heap.size w w' := by
  obtain ⟨ao, cap, rfl, h1, h2, h3, h4⟩ := hl
  have hnil := Lib.run_eql_slice_nil (P := Tryd.prog) w 34 33 ao l.length cap 0 0 Tryd.underlying34
  cases ao with
  | none =>
    have hn0 : l.length = 0 := by
      rcases h4 with h | ⟨b, o, h, _⟩
      · exact h
      · cases h
    have hl0 : l = [] := List.length_eq_zero_iff.1 hn0
    subst hl0
    clear h4 h1 hn0
    rw [Option.isNone_none] at hnil
    simp only [List.length_nil] at hnil ⊢
    go_enter Tryd.func18, Tryd.ntmps18
    go_wp2
    go_ret
    exact ⟨_, rfl, World.ownsRow_nil _ _ _ _, Below.refl _ _⟩
  | some a =>
    rw [Option.isNone_some] at hnil
    have hnews : ∀ j u, (ccells l)[j]? = some u → w.cell? (a.add j) = some u := fun j u hj => by
      rcases h4 with h | ⟨b, o, h, hc⟩
      · have := lt_of_some hj
        rw [ccells_len] at this
        omega
      · cases h
        have e : (⟨b, o, none⟩ : Addr).add j = ⟨b, o + j, none⟩ := by unfold Addr.add; split <;> simp_all
        rw [e]
        exact hc j u hj
    have HN := hid hnews
    have HO1 := hid (ccells_one l)
    have HLn := hid (ccells_len l)
    clear hnews h4
    obtain ⟨i0, hi, hz0, hz1, hz2⟩ := info_parts Tryd.infoCell
    go_enter Tryd.func18, Tryd.ntmps18
    go_wp2_with (at_builtin; refine wpList_append_own _ rfl _ _ 34 rfl w.heap.size 33 i0 (.agg #[.int .i64 0, .string ⟨#[]⟩]) 2 24 Tryd.underlying34 hi hz0 hz1 hz2 rfl (by decide) _ 0 [] rfl (own_empty w 33 2) a l.length cap (ccells l) rfl (by rw [HLn.out]) (fun j u hj => keeps (bel_alloc _ _) (HN.out j u hj)) HO1.out (by unfold maxLen; omega) (by omega) (by simp) ?_; intro v' w1 hown hg _)
    go_ret
    rw [Nat.zero_add, List.nil_append] at hown
    exact ⟨_, rfl, hown, ((Below.refl w.heap.size w).alloc (Nat.le_refl _) _).grown hg (by simp) (fun k hk => ((own_empty w 33 2).lt k hk).1)⟩
end Go.Proofs.YtobbinppkjmhhaaDoor

namespace Go.Proofs.YtobbinppkjmhhaaDoor
open Go.RowKit Go.Deep
set_option linter.unusedVariables false

/-- What the loops of reduction.classes keep. -/
structure CR (wz : World) (MB g c n : Nat) (f : FKey → Option Int) (wr : World) : Prop where
  bel : Bel2 MB g wz wr
  map : TF wr MB n f
  row : wr.ownsRow (MB + 1) 3 1 (.slice (some ⟨g, 0, none⟩) 2 c) 2 (ints [0, 0])
theorem CR.next {wz wr : World} {MB g c n s : Nat} {f : FKey → Option Int} (h : CR wz MB g c n f wr) (hs : s < 2) : wr.cell? ⟨g, s, none⟩ = some (.int .i64 0) ∧ wr.frozen? ⟨g, s, none⟩ = false := by
  have this : (ints [0, 0])[s]? = some (.int .i64 0) := by
    have : s = 0 ∨ s = 1 := by omega
    rcases this with rfl | rfl <;> rfl
  obtain ⟨b, o, e, h1⟩ := (Sl.of_owns h.row).cell this
  cases e
  rw [Nat.zero_add] at h1
  refine ⟨h1, ?_⟩
  rcases h.row.2 with ⟨h2, _⟩ | ⟨g', cap, cur, hv, _, hh, _⟩
  · cases h2
  · cases hv
    exact Lib.frozen_of_heap hh s
theorem CR.put {wz wr : World} {MB g c n s : Nat} {f : FKey → Option Int} (h : CR wz MB g c n f wr) (hs : s < 2) (hg : MB < g) : CR wz MB g c n f (wr.setCell ⟨g, s, none⟩ (.int .i64 0)) := by
  refine ⟨h.bel.trans (Bel2.set _ _ _), h.map.same (Below.heap_setCell _ _ _ _ (by show MB ≠ g; omega)), own_reset h.row _ ?_⟩
  have : s = 0 ∨ s = 1 := by omega
  rcases this with rfl | rfl <;> rfl
def keyE (i : Nat) : FKey := if i = 0 then (0, [48], 0) else (0, [49], 0)
def seenE (i s : Nat) : FKey → Option Int := fun x => if s = 0 then none else if x = keyE i then some 0 else none
theorem keyE_ok (i : Nat) : OkFin (keyE i) := by
  unfold keyE OkFin Ok64
  split <;> simp
theorem eq_cell (i : Nat) (h : i < 2) : ∃ x : Cl, eqRow[i]? = some x ∧ 0 ≤ x.st ∧ x.st < 2 ∧ x.word = strF (keyE i).2.1 := by
  have : i = 0 ∨ i = 1 := by omega
  rcases this with rfl | rfl
  · exact ⟨⟨1, ⟨#[48]⟩⟩, rfl, by decide, by decide, rfl⟩
  · exact ⟨⟨0, ⟨#[49]⟩⟩, rfl, by decide, by decide, rfl⟩
theorem eq_row (s : Nat) (h : s < 2) : eqRows[s]? = some eqRow := by
  have : s = 0 ∨ s = 1 := by omega
  rcases this with rfl | rfl <;> rfl
theorem own_some {w : World} {base n sz : Nat} {e : TypeId} {v : Value} {l : List Value} (h : w.ownsRow base e sz v n l) (hn : 0 < n) : ∃ g c, v = .slice (some ⟨g, 0, none⟩) n c ∧ base ≤ g := by
  rcases h.2 with ⟨_, h0⟩ | ⟨g, cap, cur, hv, hg, _⟩
  · omega
  · exact ⟨g, cap, hv, hg⟩
theorem map_new {w w' : World} (h : w.alloc (.map #[] 0) = w') : TF w' w.heap.size 0 (fun _ => none) ∧ Below w.heap.size w w' ∧ w'.heap.size = w.heap.size + 1 := by
  subst h
  exact ⟨TF.made w, bel_alloc _ _, by simp⟩
set_option maxRecDepth 100000 in
set_option maxHeartbeats 8000000 in
theorem classes_two (v : Value) (w : World) (hM : MC w v eqRows) :
    Calls Tryd.prog 17 #[.agg #[.int .i64 2, .int .i64 1, .int .i64 2, v]] w fun e w' => ∃ v', e = .returned v' ∧ w'.ownsRow w.heap.size 3 1 v' 2 (ints [0, 0]) ∧ Below w.heap.size w w' := by
  have HM := hid hM
  obtain ⟨am, cm, rfl, hm1, hm2⟩ := hM.slice
  clear hM
  have hl2 : eqRows.length = 2 := rfl
  rw [hl2] at hm1
  have HCl := hid (fun v X (h1 : Sl 1 X v 2 (ints [0, 0])) => show Calls Tryd.prog 34 #[v] X fun e w' => ∃ v', e = .returned v' ∧ w'.ownsRow X.heap.size 3 1 v' 2 (ints [0, 0]) ∧ Below X.heap.size X w' from cloneInts_any v [0, 0] X h1 (by decide))
  have hmk : ∀ w, (Instr.makeMap 85 none).run Tryd.prog w = .ok (.map (some w.heap.size)) (w.alloc (.map #[] 0)) := fun w => rfl
  rw [show ((eqRows.length : Nat)) = 2 from rfl]
  have HM' := hid (show MC w (.slice am 2 cm) eqRows from HM.out)
  clear HM
  go_enter Tryd.func17, Tryd.ntmps17
  go_upto_region 1 with fail
  obtain ⟨w0, hw0⟩ : ∃ w0, w.alloc (.cells #[.int .i64 2, .int .i64 1, .int .i64 2, .slice am 2 cm] 37) = w0 := ⟨_, rfl⟩
  obtain ⟨hb0, c0, c1, c2, c3⟩ := boxedE hw0
  have hs0 : w0.heap.size = w.heap.size + 1 := by rw [← hw0]; simp
  rw [hw0]
  have HB0 := hid hb0
  clear hw0 hb0 c0 c1
  go_upto_region 3 with (at_make; refine wpList_zeros _ rfl _ _ 38 rfl w0.heap.size 3 (.int .i64 0) 8 Tryd.underlying38 Tryd.infoInt9 rfl _ _ _ _ 2 rfl rfl rfl rfl (by omega) (by unfold maxLen; omega) (by omega) ?_; intro w1 hown1 hb1; have HO1 := hid (show w1.ownsRow w0.heap.size 3 1 (.slice (some ⟨w0.heap.size, 0, none⟩) 2 2) 2 (ints [0, 0]) from hown1); have c2 := keeps hb1 c2; have c3 := keeps hb1 c3; have HB1 := hid (bel_step HB0.out hb1); have HS1 := hid (show _ ∧ _ from hown1.lt _ rfl); clear hown1 hb1)
  rw [hs0] at HO1 HS1
  have HS0 := hid hs0
  clear hs0
  have HSz := hid (show w.heap.size + 2 ≤ w1.heap.size from HS1.out.2)
  go_loopw [3, 4] (fun a b wr => a = .slice (some ⟨w.heap.size + 1, 0, none⟩) 2 2 ∧ b = .int .i64 1 ∧ wr = w1) (fun _ _ _ => 0)
  case atStart => exact ⟨rfl, rfl, rfl⟩
  case round =>
    obtain ⟨rfl, rfl, rfl⟩ := hrel
    go_upto_region 4 with fail
    obtain ⟨w2, hw2⟩ : ∃ w2, wr.alloc (.map #[] 0) = w2 := ⟨_, rfl⟩
    obtain ⟨hm2, hb2, hsz2⟩ := map_new hw2
    rw [hw2]
    have HT2 := hid hm2
    have HS2 := hid hsz2
    have c2 := keeps hb2 c2
    have c3 := keeps hb2 c3
    have HO2 := hid (own_below HO1.out hb2)
    have HB2 := hid (bel_step HB1.out hb2)
    have HSw := hid (show w.heap.size + 2 ≤ wr.heap.size by exact HSz.out)
    generalize wr.heap.size = MB at *
    clear hw2 hb2 hm2 hsz2 HSz HB1 HO1
    go_upto_region 5 with (go_at_call 34; refine (HCl.out _ w2 (Sl.of_owns HO2.out)).mono ?_; rintro e w3 ⟨vn, rfl, hown, hb3⟩; have HO3 := hid hown; have c2 := keeps hb3 c2; have c3 := keeps hb3 c3; have HT3 := hid (HT2.out.same (hb3.block _ HT2.out.lt)); have HK3 := hid (own_below HO2.out hb3); have HB3 := hid (bel_step HB2.out hb3); clear hown hb3)
    rw [HS2.out] at HO3
    obtain ⟨g, gc, rfl, hg⟩ := own_some HO3.out (by decide)
    have HG := hid hg
    have HCR := hid (CR.mk (Bel2.refl MB g w3) HT3.out HO3.out)
    have HSm := hid (show MB + 1 ≤ w3.heap.size by have h1 := HO3.out.lt g rfl; omega)
    have hgM : MB < g := by omega
    obtain ⟨hd0, hd1⟩ : w3.cell? ⟨w.heap.size + 1, 0, none⟩ = some (.int .i64 0) ∧ w3.cell? ⟨w.heap.size + 1, 1, none⟩ = some (.int .i64 0) := by
      obtain ⟨b, o, e, h⟩ := (Sl.of_owns HK3.out).cell (show (ints [0, 0])[0]? = some (.int .i64 0) from rfl)
      obtain ⟨b', o', e', h'⟩ := (Sl.of_owns HK3.out).cell (show (ints [0, 0])[1]? = some (.int .i64 0) from rfl)
      cases e; cases e'
      exact ⟨h, h'⟩
    have HD := hid (show ∀ X, Bel2 MB g w3 X → ∀ k, k < 2 → X.cell? ⟨w.heap.size + 1, 0 + k, none⟩ = some (.int .i64 0) by
      intro X hX k hk
      have hl := HSw.out
      have : k = 0 ∨ k = 1 := by omega
      rcases this with rfl | rfl
      · exact hX.cell hd0 (by show w.heap.size + 1 ≠ MB; omega) (by show w.heap.size + 1 ≠ g; omega)
      · exact hX.cell hd1 (by show w.heap.size + 1 ≠ MB; omega) (by show w.heap.size + 1 ≠ g; omega))
    have HLow := hid (show ∀ X, Bel2 MB g w3 X → ∀ a v, w.cell? a = some v → X.cell? a = some v by
      intro X hX a v ha
      have hl := HSw.out
      have hlt := World.block_lt_of_cell? w a ha
      exact hX.cell (keeps HB3.out ha) (by omega) (by omega))
    have HIn := hid (show ∀ X, Bel2 MB g w3 X → X.cell? ⟨w.heap.size, 3, none⟩ = some (.slice am 2 cm) by
      intro X hX
      have hl := HSw.out
      exact hX.cell c3 (by show w.heap.size ≠ MB; omega) (by show w.heap.size ≠ g; omega))
    clear hd0 hd1 HT2 HT3 HO2 HO3 hm1 hl2
    go_wp2_with fail
    clear c2 c3
    go_loopw [23] (fun a wr => ∃ i n f, i ≤ 2 ∧ a = .int .i64 (i : Nat) ∧ Hid (CR w3 MB g gc n f wr)) (fun a _ => 2 - (intOf a).toNat)
    case atStart => exact ⟨0, 0, _, by decide, rfl, HCR⟩
    case round =>
      obtain ⟨i, n, f, hi, rfl, HC⟩ := hrel
      rename World => wi
      by_cases hi2 : i < 2
      · obtain ⟨wc, hcl, htc, hgc⟩ := HC.out.map.clears
        have HC2 := hid (show CR w3 MB g gc 0 (seenE i 0) wc from ⟨HC.out.bel.trans (Bel2.grown hgc), htc, HC.out.row.kept hgc (by simp only [ne_eq, Option.some.injEq, Value.ownBlock]; omega)⟩)
        have c3 := HIn.out wc HC2.out.bel
        clear htc hgc HC
        go_wp2_with fail
        clear hcl c3
        obtain ⟨⟨st, wd⟩, hx, x0, x1, xw⟩ := eq_cell i hi2
        obtain ⟨z, rfl⟩ : ∃ z : Nat, st = z := ⟨st.toNat, by have : 0 ≤ st := x0; omega⟩
        have hz2 : z < 2 := by have : (z : Int) < 2 := x1; omega
        have HX := hid hx
        have HXW := hid xw
        clear hx xw x0 x1
        go_loopw [30] (fun a wr => ∃ s, s ≤ 2 ∧ a = .int .i64 (s : Nat) ∧ Hid (CR w3 MB g gc s (seenE i s) wr)) (fun a _ => 2 - (intOf a).toNat)
        case atStart => exact ⟨0, by decide, rfl, HC2⟩
        case round =>
          obtain ⟨s, hs, rfl, HS⟩ := hrel
          rename World => ws
          by_cases hs2 : s < 2
          · obtain ⟨br, o2, r, cr, rfl, n1, hsl⟩ := HM'.out.row (eq_row s hs2)
            obtain ⟨b2, o3, rfl, m1, m2⟩ := Sl.cl hsl HX.out
            have n1 := HLow.out _ HS.out.bel _ _ n1
            have m1 := HLow.out _ HS.out.bel _ _ m1
            have m2 := HLow.out _ HS.out.bel _ _ m2
            have hl2 : eqRow.length = 2 := rfl
            rw [hl2] at n1
            have hd := HD.out _ HS.out.bel z hz2
            have hn := (HS.out.next hs2).1
            rw [Nat.zero_add] at hd
            have hz3 : (z : Int) < 2 := by omega
            have hz4 : (0 : Int) ≤ z := by omega
            clear hsl hl2
            go_upto_region 12 with fail
            clear n1
            go_region_held3 (fun w' => w'.cell? ⟨g, s, none⟩ = some (.int .i64 0) ∧ w'.cell? ⟨w.heap.size + 1, z, none⟩ = some (.int .i64 0) ∧ w'.cell? ⟨b2, o3 + i * 2, none⟩ = some (.int .i64 (z : Int)) ∧ w'.cell? ⟨b2, o3 + i * 2 + 1, none⟩ = some (.string wd))
              (first | exact ⟨hn, hd, m1, m2⟩ | go_keep) (fail)
            obtain ⟨wa, hwa⟩ : ∃ wa, ws.alloc (.cells #[.int .i64 0, .string wd, .int .i64 0] 88) = wa := ⟨_, rfl⟩
            obtain ⟨hba, y0, y1, y2⟩ := boxFin hwa
            rw [hwa]
            have hbd : Below wa.heap.size wa wa.drew := below_drewN (Below.refl _ _) 1
            have y0 := keeps hbd y0
            have y1 := keeps hbd y1
            have y2 := keeps hbd y2
            have hba := bel_step hba hbd
            have HSx := hid (show CR w3 MB g gc s (seenE i s) wa.drew from ⟨HS.out.bel.trans (Bel2.of hba), HS.out.map.same (hba.block _ HS.out.map.lt), own_below HS.out.row hba⟩)
            clear hbd hba hwa m1 m2 hd hn
            generalize wa.drew = wx at *
            generalize ws.heap.size = gx at *
            have hky := keyE_ok i
            have hkv : finV (keyE i) = .agg #[.int .i64 0, .string wd, .int .i64 0] := by
              have hw : wd = strF (keyE i).2.1 := HXW.out
              rw [hw]
              unfold finV keyE
              split <;> rfl
            have hlook : (Instr.lookup 85 (.map (some MB)) (.agg #[.int .i64 0, .string wd, .int .i64 0]) true).run Tryd.prog wx = .ok (lookI (seenE i s (keyE i))) wx := by
              have h := HSx.out.map.look (keyE i) hky
              rw [hkv] at h
              exact h
            have hs01 : s = 0 ∨ s = 1 := by omega
            rcases hs01 with rfl | rfl
            · have e0 : seenE i 0 (keyE i) = none := rfl
              rw [e0] at hlook
              unfold lookI at hlook
              clear e0
              have hlen := fun ty => HSx.out.map.len0 ty
              obtain ⟨wb, hrb, htb, hgb⟩ := HSx.out.map.store (by decide) (keyE i) hky 0 (by unfold Ok64; omega)
              rw [hkv] at hrb
              have HSb := hid (show CR w3 MB g gc 1 (seenE i 1) wb from ⟨HSx.out.bel.trans (Bel2.grown hgb), htb.congr fun x => by simp [seenE], HSx.out.row.kept hgb (by simp only [Value.ownBlock, ne_eq, Option.some.injEq]; omega)⟩)
              clear htb hgb
              obtain ⟨hn, hnf⟩ := HSb.out.next (s := 0) (by decide)
              go_wp2
              clear hlook hlen hrb y0 y1 y2 hkv
              go_roundw
              case rel => exact ⟨_, _, _, _, _, _, ⟨1, by decide, rfl, hid (HSb.out.put (by decide) hgM)⟩, rfl, rfl, rfl, rfl, rfl, rfl⟩
              case measure => simp [intOf]
            · have e1 : seenE i 1 (keyE i) = some 0 := by simp [seenE]
              rw [e1] at hlook
              unfold lookI at hlook
              clear e1
              obtain ⟨hn, hnf⟩ := HSx.out.next (s := 1) (by decide)
              go_wp2
              clear hlook y0 y1 y2 hkv
              go_roundw
              case rel =>
                have h := HSx.out.put (s := 1) (by decide) hgM
                exact ⟨_, _, _, _, _, _, ⟨2, by decide, rfl, hid ⟨h.bel, (h.map.mono (show 1 ≤ 2 by decide)).congr fun x => by simp [seenE], h.row⟩⟩, rfl, rfl, rfl, rfl, rfl, rfl⟩
              case measure => simp [intOf]
          · obtain rfl : s = 2 := by omega
            go_wp2
            go_roundw
            case rel => exact ⟨i + 1, 2, _, by omega, by go_num, HS⟩
            case measure => simp [intOf]; omega
      · obtain rfl : i = 2 := by omega
        have HBw := hid (show Below w.heap.size w wi by
          have hl := HSw.out
          exact HB3.out.trans (HC.out.bel.below HB3.out.size (by omega) (by omega)))
        have HMx := hid (fun b c X (h : ∀ j, j < 3 → X.cell? ⟨b, 0 + j, none⟩ = some (.int .i64 (([0, 0, -1] : List Int).getD j 0))) => show Calls Tryd.prog 35 #[.slice (some ⟨b, 0, none⟩) 3 c] X fun e w' => e = .returned (.int .i64 0) ∧ w' = X from Tryd.slices_Max_int b 0 3 c [0, 0, -1] X (by decide) (by decide) (by decide) h)
        go_wp2_with (first
          | (go_at_call 34; refine (HCl.out _ wi (Sl.of_owns HC.out.row)).mono ?_; rintro e w4 ⟨v4, rfl, hown4, hb4⟩; have HO4 := hid hown4; have HB4 := hid hb4; clear hown4 hb4)
          | (at_builtin; refine wpList_push _ rfl _ _ 38 rfl wi.heap.size 3 (.int .i64 0) 1 8 Tryd.underlying38 Tryd.infoInt9 rfl (by decide) _ _ _ rfl HO4.out #[.int .i64 (-1)] rfl (oneCell_int _ _) rfl (by unfold maxLen; omega) (by omega) HB4.out.size ?_; intro g5 c5 w5 hown5 hg5 hb5; have HO5 := hid hown5; have HB5 := hid (HB4.out.trans hb5); clear hown5 hg5 hb5)
          | (go_at_call 35; refine (HMx.out g5 c5 w5 ?_).mono ?_; (intro j hj; obtain ⟨b, o, e, h⟩ := (Sl.of_owns HO5.out).cell (k := j) (x := .int .i64 (([0, 0, -1] : List Int).getD j 0)) (by have : j = 0 ∨ j = 1 ∨ j = 2 := (by omega); rcases this with rfl | rfl | rfl <;> rfl); cases e; exact h); rintro e w6 ⟨rfl, rfl⟩))
        go_ret
        refine ⟨_, rfl, own_base (own_below HC.out.row HB5.out) ?_, ?_⟩
        · have hl := HSw.out
          omega
        · exact bel_step HBw.out HB5.out
end Go.Proofs.YtobbinppkjmhhaaDoor

namespace Go.Proofs.YtobbinppkjmhhaaDoor
open Go.RowKit Go.Deep
set_option linter.unusedVariables false

set_option maxRecDepth 100000 in
set_option maxHeartbeats 2000000 in
theorem with_any (q bl inp : Int) (n2 k2 : Nat) (a2 : Option Addr) (a1 : Option Addr) (n1 k1 : Nat) (w : World) :
    Calls Tryd.prog 19 #[.agg #[.int .i64 q, .int .i64 bl, .int .i64 inp, .slice a1 n1 k1], .slice a2 n2 k2] w fun e w' => e = .returned (.agg #[.int .i64 q, .int .i64 bl, .int .i64 inp, .slice a2 n2 k2]) ∧ Below w.heap.size w w' := by
  go_enter Tryd.func19, Tryd.ntmps19
  go_upto_region 1 with fail
  obtain ⟨w0, hw0⟩ : ∃ w0, (w.alloc (.cells #[.int .i64 q, .int .i64 bl, .int .i64 inp, .slice a1 n1 k1] 37)).alloc (.cells #[.int .i64 0, .int .i64 0, .int .i64 0, .slice none 0 0] 37) = w0 := ⟨_, rfl⟩
  have hb0 : Below w.heap.size w w0 := by rw [← hw0]; exact (bel_alloc _ _).alloc (by simp) _
  have c0 : w0.cell? ⟨w.heap.size, 0, none⟩ = some (.int .i64 q) := by rw [← hw0]; simp
  have c1 : w0.cell? ⟨w.heap.size, 1, none⟩ = some (.int .i64 bl) := by rw [← hw0]; simp
  have c2 : w0.cell? ⟨w.heap.size, 2, none⟩ = some (.int .i64 inp) := by rw [← hw0]; simp
  have c3 : w0.cell? ⟨w.heap.size, 3, none⟩ = some (.slice a1 n1 k1) := by rw [← hw0]; simp
  have f3 : w0.frozen? ⟨w.heap.size, 3, none⟩ = false := by rw [← hw0]; simp
  rw [hw0]
  have z0 : w0.cell? ⟨w.heap.size + 1, 0, none⟩ = some (.int .i64 0) := by rw [← hw0]; simp
  have z1 : w0.cell? ⟨w.heap.size + 1, 1, none⟩ = some (.int .i64 0) := by rw [← hw0]; simp
  have z2 : w0.cell? ⟨w.heap.size + 1, 2, none⟩ = some (.int .i64 0) := by rw [← hw0]; simp
  have z3 : w0.cell? ⟨w.heap.size + 1, 3, none⟩ = some (.slice none 0 0) := by rw [← hw0]; simp
  have g0 : w0.frozen? ⟨w.heap.size + 1, 0, none⟩ = false := by rw [← hw0]; simp
  have g1 : w0.frozen? ⟨w.heap.size + 1, 1, none⟩ = false := by rw [← hw0]; simp
  have g2 : w0.frozen? ⟨w.heap.size + 1, 2, none⟩ = false := by rw [← hw0]; simp
  have g3 : w0.frozen? ⟨w.heap.size + 1, 3, none⟩ = false := by rw [← hw0]; simp
  have HB := hid hb0
  clear hw0 hb0
  go_wp2
  refine bodyPost_ret (v := .agg #[.int .i64 q, .int .i64 bl, .int .i64 inp, .slice a2 n2 k2]) ?_ rfl ⟨rfl, ?_⟩
  · simp [results, Tryd.results19, go_sem, z0, z1, z2, z3]
  · exact ((((HB.out.setCell (by show w.heap.size ≤ w.heap.size; omega) _).setCell (by show w.heap.size ≤ w.heap.size + 1; omega) _).setCell (by show w.heap.size ≤ w.heap.size + 1; omega) _).setCell (by show w.heap.size ≤ w.heap.size + 1; omega) _).setCell (by show w.heap.size ≤ w.heap.size + 1; omega) _

def zeroE (w : World) (b : Nat) : Prop := w.heap[b]? = some (.cells #[.int .i64 0, .int .i64 0, .int .i64 0, .slice none 0 0] 37 (0, 0))
theorem zeroE.below {w w' : World} {b : Nat} (h : zeroE w b) (hb : Below w.heap.size w w') : zeroE w' b := (hb.block b (Array.getElem?_eq_some_iff.1 h).1).trans h
theorem zeroE.c {w : World} {b : Nat} (h : zeroE w b) : (w.cell? ⟨b, 0, none⟩ = some (.int .i64 0) ∧ w.cell? ⟨b, 1, none⟩ = some (.int .i64 0) ∧ w.cell? ⟨b, 2, none⟩ = some (.int .i64 0) ∧ w.cell? ⟨b, 3, none⟩ = some (.slice none 0 0)) ∧ w.frozen? ⟨b, 0, none⟩ = false ∧ w.frozen? ⟨b, 1, none⟩ = false ∧ w.frozen? ⟨b, 2, none⟩ = false ∧ w.frozen? ⟨b, 3, none⟩ = false := by
  refine ⟨⟨?_, ?_, ?_, ?_⟩, ?_, ?_, ?_, ?_⟩
  · rw [Lib.cell_of_heap h]; rfl
  · rw [Lib.cell_of_heap h]; rfl
  · rw [Lib.cell_of_heap h]; rfl
  · rw [Lib.cell_of_heap h]; rfl
  all_goals exact Lib.frozen_of_heap h _
theorem boxZ {w w0 : World} {a b c d : Value} (h : (w.alloc (.cells #[a, b, c, d] 37)).alloc (.cells #[.int .i64 0, .int .i64 0, .int .i64 0, .slice none 0 0] 37) = w0) : Below w.heap.size w w0 ∧ (w0.cell? ⟨w.heap.size, 0, none⟩ = some a ∧ w0.cell? ⟨w.heap.size, 1, none⟩ = some b ∧ w0.cell? ⟨w.heap.size, 2, none⟩ = some c ∧ w0.cell? ⟨w.heap.size, 3, none⟩ = some d) ∧ zeroE w0 (w.heap.size + 1) := by
  subst h
  refine ⟨(bel_alloc _ _).alloc (by simp) _, ⟨by simp, by simp, by simp, by simp⟩, ?_⟩
  have h := heap_alloc_new (w.alloc (.cells #[a, b, c, d] 37)) (.cells #[.int .i64 0, .int .i64 0, .int .i64 0, .slice none 0 0] 37)
  rw [World.size_alloc] at h
  exact h
theorem own_four {w : World} {base g c : Nat} {e : TypeId} {x0 x1 x2 x3 : Value} (h : w.ownsRow base e 2 (.slice (some ⟨g, 0, none⟩) 2 c) 2 [x0, x1, x2, x3]) : w.cell? ⟨g, 0, none⟩ = some x0 ∧ w.cell? ⟨g, 2, none⟩ = some x2 ∧ w.frozen? ⟨g, 0, none⟩ = false ∧ w.frozen? ⟨g, 2, none⟩ = false := by
  obtain ⟨b, o, e1, h1⟩ := (Sl.of_owns h).cell (k := 0) (x := x0) rfl
  obtain ⟨b', o', e2, h2⟩ := (Sl.of_owns h).cell (k := 2) (x := x2) rfl
  cases e1; cases e2
  refine ⟨h1, h2, ?_⟩
  rcases h.2 with ⟨h2, _⟩ | ⟨g', cap, cur, hv, _, hh, _⟩
  · cases h2
  · cases hv
    exact ⟨Lib.frozen_of_heap hh _, Lib.frozen_of_heap hh _⟩
theorem Tryd.infoRow : (Tryd.prog.info? 34).map (fun i => (i.zero, i.size, i.bytes)) = some (some (.slice none 0 0), 1, 24) := by kernel_rfl
/-- The cells of the row that is merged, of which k are done. -/
def mgCells (k : Nat) : List Cl := [⟨if 0 < k then 0 else 1, ⟨#[48]⟩⟩, ⟨0, ⟨#[49]⟩⟩]
/-- What the loop of reduction.Merge keeps. -/
def MRel (w5 : World) (b : Value) (s : Nat) (wr : World) : Prop :=
  (s = 0 ∧ b = .slice none 0 0 ∧ wr = w5) ∨ (1 ≤ s ∧ ∃ a6 k6 rv, b = .slice a6 1 k6 ∧ (wr.ownsRow w5.heap.size 34 1 b 1 [rv] ∧ wr.ownsRow w5.heap.size 33 2 rv 2 (ccells (mgCells 2))) ∧ Below w5.heap.size w5 wr)
set_option maxRecDepth 100000 in
set_option maxHeartbeats 8000000 in
theorem merge_two (v : Value) (w : World) (hM : MC w v eqRows) :
    Calls Tryd.prog 7 #[.agg #[.int .i64 2, .int .i64 1, .int .i64 2, v]] w fun e w' => ∃ v' vl, e = .returned (.tuple #[.agg #[.int .i64 2, .int .i64 1, .int .i64 2, v'], vl, .int .i64 0]) ∧ MC w' v' mgRows ∧ Sl 1 w' vl 2 (ints [0, 0]) ∧ Below w.heap.size w w' := by
  have HM := hid hM
  have HCk := hid (fun X h => echk_any 2 1 2 v eqRows X h)
  rw [show eErr 2 1 2 eqRows = 0 by decide +kernel] at HCk
  have HCs := hid (fun X h => classes_two v X h)
  obtain ⟨am, cm, rfl, hm1, hm2⟩ := hM.slice
  rw [show ((eqRows.length : Nat)) = 2 from rfl] at *
  have HWt := hid (fun a2 k2 X => with_any 2 1 2 1 k2 a2 am 2 cm X)
  have HCc := hid (fun v X (h : Sl 2 X v 2 (ccells eqRow)) => show Calls Tryd.prog 18 #[v] X fun e w' => ∃ v', e = .returned v' ∧ w'.ownsRow X.heap.size 33 2 v' 2 (ccells eqRow) ∧ Below X.heap.size X w' from cloneCl_any v eqRow X h (by decide))
  clear hM hm1
  go_enter Tryd.func7, Tryd.ntmps7
  go_upto_region 1 with fail
  obtain ⟨w0, hw0⟩ : ∃ w0, (w.alloc (.cells #[.int .i64 2, .int .i64 1, .int .i64 2, .slice am 2 cm] 37)).alloc (.cells #[.int .i64 0, .int .i64 0, .int .i64 0, .slice none 0 0] 37) = w0 := ⟨_, rfl⟩
  obtain ⟨hb0, ⟨c0, c1, c2, c3⟩, hz⟩ := boxZ hw0
  rw [hw0]
  have HB0 := hid hb0
  have HZ0 := hid hz
  clear hw0 hb0 hz
  go_upto_region 3 with (go_at_call 16; refine (HCk.out _ (HM.out.below HB0.out)).mono ?_; rintro e w1 ⟨rfl, hb1⟩; have HB1 := hid (bel_step HB0.out hb1); have HZ1 := hid (HZ0.out.below hb1); have c0 := keeps hb1 c0; have c1 := keeps hb1 c1; have c2 := keeps hb1 c2; have c3 := keeps hb1 c3; clear hb1)
  go_upto_region 4 with (go_at_call 17; refine (HCs.out _ (HM.out.below HB1.out)).mono ?_; rintro e w5 ⟨v5, rfl, hown5, hb5⟩; have HO5 := hid hown5; have HB5 := hid (bel_step HB1.out hb5); have HZ5 := hid (HZ1.out.below hb5); have c0 := keeps hb5 c0; have c1 := keeps hb5 c1; have c2 := keeps hb5 c2; have c3 := keeps hb5 c3; clear hown5 hb5)
  obtain ⟨gk, ck, rfl, _⟩ := own_some HO5.out (by decide)
  have HD := hid (show ∀ X, Below w5.heap.size w5 X → X.cell? ⟨gk, 0, none⟩ = some (.int .i64 0) ∧ X.cell? ⟨gk, 1, none⟩ = some (.int .i64 0) by
    intro X hX
    obtain ⟨b, o, e, h⟩ := (Sl.of_owns (own_below HO5.out hX)).cell (show (ints [0, 0])[0]? = some (.int .i64 0) from rfl)
    obtain ⟨b', o', e', h'⟩ := (Sl.of_owns (own_below HO5.out hX)).cell (show (ints [0, 0])[1]? = some (.int .i64 0) from rfl)
    cases e; cases e'
    exact ⟨h, h'⟩)
  have HCs5 := hid (show ∀ X, Below w5.heap.size w5 X → (X.cell? ⟨w.heap.size, 0, none⟩ = some (.int .i64 2) ∧ X.cell? ⟨w.heap.size, 1, none⟩ = some (.int .i64 1) ∧ X.cell? ⟨w.heap.size, 2, none⟩ = some (.int .i64 2) ∧ X.cell? ⟨w.heap.size, 3, none⟩ = some (.slice am 2 cm)) from fun X h => ⟨keeps h c0, keeps h c1, keeps h c2, keeps h c3⟩)
  clear HCk HCs c0 c1 c2
  go_wp2_with fail
  clear c3
  go_loopw [20, 6] (fun a b wr => ∃ s : Nat, s ≤ 2 ∧ a = .int .i64 (s : Nat) ∧ Hid (MRel w5 b s wr)) (fun a _ _ => 2 - (intOf a).toNat)
  case atStart => exact ⟨0, by decide, rfl, hid (.inl ⟨rfl, rfl, rfl⟩)⟩
  case round =>
    obtain ⟨s, hs, rfl, HR⟩ := hrel
    have hs3 : s = 0 ∨ s = 1 ∨ s = 2 := by omega
    rcases hs3 with rfl | rfl | rfl
    · obtain ⟨_, rfl, rfl⟩ : (0 : Nat) = 0 ∧ _ ∧ _ := by
        rcases HR.out with h | h
        · exact h
        · omega
      obtain ⟨br, o2, r, cr, rfl, n1, hsl⟩ := HM.out.row (eq_row 0 (by decide))
      have n1 := keeps HB5.out n1
      rw [show eqRow.length = 2 from rfl] at n1 hsl
      rw [Nat.add_zero] at n1
      obtain ⟨hd0, hd1⟩ := HD.out wr (Below.refl _ _)
      have HSl := hid (hsl.below HB5.out)
      clear hsl
      go_wp2_with (go_at_call 18; refine (HCc.out _ wr HSl.out).mono ?_; rintro e w6 ⟨v6, rfl, hown6, hb6⟩; obtain ⟨g6, k6, rfl, hg6⟩ := own_some hown6 (by decide); have HO6 := hid hown6; have HB6 := hid hb6; clear hown6 hb6)
      clear hd0 hd1 n1
      go_loopw [36] (fun a wz => ∃ k : Nat, k ≤ 2 ∧ a = .int .i64 (k : Nat) ∧ Hid (wz.ownsRow wr.heap.size 33 2 (.slice (some ⟨g6, 0, none⟩) 2 k6) 2 (ccells (mgCells k)) ∧ Below wr.heap.size wr wz)) (fun a _ => 2 - (intOf a).toNat)
      case atStart => exact ⟨0, by decide, rfl, hid ⟨HO6.out, HB6.out⟩⟩
      case round =>
        obtain ⟨k, hk, rfl, HK⟩ := hrel
        rename World => wk
        obtain ⟨hd0, hd1⟩ := HD.out wk HK.out.2
        have hk3 : k = 0 ∨ k = 1 ∨ k = 2 := by omega
        rcases hk3 with rfl | rfl | rfl
        · obtain ⟨q0, q1, q2, q3⟩ := own_four HK.out.1
          go_wp2
          go_roundw
          case rel => exact ⟨1, by decide, rfl, hid ⟨(HK.out.1.stored 0 (.int .i64 0)).1, HK.out.2.setCell hg6 _⟩⟩
          case measure => simp [intOf]
        · obtain ⟨q0, q1, q2, q3⟩ := own_four HK.out.1
          go_wp2
          go_roundw
          case rel => exact ⟨2, by decide, rfl, hid ⟨(HK.out.1.stored 2 (.int .i64 0)).1, HK.out.2.setCell hg6 _⟩⟩
          case measure => simp [intOf]
        · clear hd0 hd1
          go_wp2_with (at_builtin; refine wpList_push _ rfl _ _ 35 rfl wk.heap.size 34 (.slice none 0 0) 1 24 Tryd.underlying35 Tryd.infoRow rfl (by decide) _ _ _ rfl (World.ownsRow_nil _ _ _ _) #[.slice (some ⟨g6, 0, none⟩) 2 k6] rfl (by simp [Value.oneCell']) rfl (by unfold maxLen; omega) (by omega) (Nat.le_refl _) ?_; intro g7 c7 w7 hown7 hg7 hb7)
          go_roundw
          case rel =>
            exact ⟨1, by decide, rfl, hid (.inr ⟨by decide, _, _, _, rfl, ⟨own_base hown7 HK.out.2.size, own_below HK.out.1 hb7⟩, bel_step HK.out.2 hb7⟩)⟩
          case measure => simp [intOf]
    · obtain ⟨a6, k6, rv, rfl, hmc, hbl⟩ : ∃ a6 k6 rv, _ ∧ _ ∧ _ := by
        rcases HR.out with h | h
        · omega
        · exact h.2
      have HMC := hid hmc
      have HBl := hid hbl
      obtain ⟨hd0, hd1⟩ := HD.out _ hbl
      rename World => wk
      obtain ⟨br, o2, r, cr, rfl, n1, hsl⟩ := HM.out.row (eq_row 1 (by decide))
      have n1 := keeps hbl (keeps HB5.out n1)
      rw [show eqRow.length = 2 from rfl] at n1
      clear hsl hmc hbl
      go_wp2
      go_roundw
      case rel => exact ⟨2, by decide, rfl, hid (.inr ⟨by decide, _, _, _, rfl, HMC.out, HBl.out⟩)⟩
      case measure => simp [intOf]
    · obtain ⟨a6, k6, rv, rfl, hmc, hbl⟩ : ∃ a6 k6 rv, _ ∧ _ ∧ _ := by
        rcases HR.out with h | h
        · omega
        · exact h.2
      have HMC := hid hmc
      have HBl := hid hbl
      obtain ⟨c0, c1, c2, c3⟩ := HCs5.out _ hbl
      rename World => wk
      have HZk := hid (HZ5.out.below hbl)
      clear hmc hbl
      go_wp2_with (go_at_call 19; refine (HWt.out a6 k6 wk).mono ?_; rintro e w8 ⟨rfl, hb8⟩; have HB8 := hid hb8; obtain ⟨⟨z0, z1, z2, z3⟩, f0, f1, f2, f3⟩ := (HZk.out.below hb8).c; clear hb8)
      have hbw : Below w.heap.size w w8 := bel_step (bel_step HB5.out HBl.out) HB8.out
      refine bodyPost_ret (v := .tuple #[.agg #[.int .i64 2, .int .i64 1, .int .i64 2, .slice a6 1 k6], .slice (some ⟨gk, 0, none⟩) 2 ck, .int .i64 0]) ?_ rfl ⟨_, _, rfl, ?_, ?_, ?_⟩
      · simp [results, Tryd.results7, go_sem, z0, z1, z2, z3]
      · have hsz : w.heap.size + 1 < w5.heap.size := (Array.getElem?_eq_some_iff.1 HZ5.out).1
        have h1 := ownsRow_setCell_below (ownsRow_setCell_below (ownsRow_setCell_below (ownsRow_setCell_below (own_below HMC.out.1 HB8.out) (a := ⟨w.heap.size + 1, 0, none⟩) hsz (.int .i64 2)) (a := ⟨w.heap.size + 1, 1, none⟩) hsz (.int .i64 1)) (a := ⟨w.heap.size + 1, 2, none⟩) hsz (.int .i64 2)) (a := ⟨w.heap.size + 1, 3, none⟩) hsz (.slice a6 1 k6)
        have h2 := ownsRow_setCell_below (ownsRow_setCell_below (ownsRow_setCell_below (ownsRow_setCell_below (own_below HMC.out.2 HB8.out) (a := ⟨w.heap.size + 1, 0, none⟩) hsz (.int .i64 2)) (a := ⟨w.heap.size + 1, 1, none⟩) hsz (.int .i64 1)) (a := ⟨w.heap.size + 1, 2, none⟩) hsz (.int .i64 2)) (a := ⟨w.heap.size + 1, 3, none⟩) hsz (.slice a6 1 k6)
        refine ⟨_, Sl.of_owns h1, ?_⟩
        intro i row hi
        match i, hi with
        | 0, hi =>
          cases hi
          exact ⟨_, rfl, Sl.of_owns h2⟩
      · have hsz : w.heap.size + 1 < w1.heap.size := (Array.getElem?_eq_some_iff.1 HZ1.out).1
        have h1 := own_below (own_below HO5.out HBl.out) HB8.out
        exact Sl.of_owns (ownsRow_setCell_below (ownsRow_setCell_below (ownsRow_setCell_below (ownsRow_setCell_below h1 (a := ⟨w.heap.size + 1, 0, none⟩) hsz (.int .i64 2)) (a := ⟨w.heap.size + 1, 1, none⟩) hsz (.int .i64 1)) (a := ⟨w.heap.size + 1, 2, none⟩) hsz (.int .i64 2)) (a := ⟨w.heap.size + 1, 3, none⟩) hsz (.slice a6 1 k6))
      · exact (((hbw.setCell (by show w.heap.size ≤ w.heap.size + 1; omega) _).setCell (by show w.heap.size ≤ w.heap.size + 1; omega) _).setCell (by show w.heap.size ≤ w.heap.size + 1; omega) _).setCell (by show w.heap.size ≤ w.heap.size + 1; omega) _
end Go.Proofs.YtobbinppkjmhhaaDoor
