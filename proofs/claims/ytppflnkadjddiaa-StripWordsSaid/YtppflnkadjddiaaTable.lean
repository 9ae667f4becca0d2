/-
  strip: table and Hard.
  The numbers of the blocks are between 0 and 15.
-/
import Derived.Test.YtppflnkadjddiaaBeside
import Derived.Deep.MidRow
import Derived.Deep.RegionHeld
namespace Go.Proofs.Ytppflnkadjddiaa
open Go.RowKit
set_option linter.unusedVariables false

/-- The table of the blocks that are allowed. -/
def tabL (l : List Int) : List Value := (List.range 16).map fun (j : Nat) => .bool (l.contains (j : Int))
theorem tabL_len (l : List Int) : (tabL l).length = 16 := by simp [tabL]
theorem tabA_size (l : List Int) : (tabL l).toArray.size = 16 := by simp [tabL]
theorem tabL_get (l : List Int) {j : Nat} (h : j < 16) : (tabL l)[j]? = some (.bool (l.contains (j : Int))) := by simp [tabL, h]
theorem tabL_one (l : List Int) : (tabL l).toArray.all (·.oneCell') = true := all_oneCell_toArray (by simp [tabL, Value.oneCell'])

structure Tab (w : World) (l : List Int) (k : Nat) (wr : World) : Prop where
  row : wr.rangeAt (w.heap.size + 1) 0 (tabL (l.take k))
  may : wr.there (w.heap.size + 1) 0 16
  out : wr.there w.heap.size 0 16
  bel : Below w.heap.size w wr
  siz : wr.heap.size = w.heap.size + 2
def TabRel (w : World) (l : List Int) (i : Value) (wr : World) : Prop := ∃ k : Nat, k ≤ l.length ∧ i = .int .i64 k ∧ Tab w l k wr

theorem setCell_far_frozen (w : World) (a b : Addr) (v : Value) : (w.setCell a v).frozen? b = w.frozen? b := by rw [World.frozen?_setCell]
theorem there_set {w : World} {b o n : Nat} (h : w.there b o n) (a : Addr) (v : Value) : (w.setCell a v).there b o n := fun j hj => by
  obtain ⟨h1, h2⟩ := h j hj
  refine ⟨?_, by rw [World.frozen?_setCell]; exact h2⟩
  obtain ⟨u, hu⟩ := Option.isSome_iff_exists.1 h1
  by_cases e : a = (⟨b, o + j, none⟩ : Addr)
  · subst e; rw [World.cell?_setCell_same _ _ _ hu]; rfl
  · rw [World.cell?_setCell_other _ _ _ _ e, hu]; rfl

theorem Tab.step {w wr : World} {l : List Int} {k m : Nat} (h : Tab w l k wr) (hx : l[k]? = some (m : Int)) (hm : m < 16) : Tab w l (k + 1) (wr.setCell ⟨w.heap.size + 1, m, none⟩ (.bool true)) := by
  refine ⟨?_, there_set h.may _ _, there_set h.out _ _, h.bel.setCell (by simp) _, by simp [World.setCell, h.siz]⟩
  intro j v hj
  have hj16 : j < 16 := by have := lt_of_some hj; rwa [tabL_len] at this
  rw [tabL_get _ hj16] at hj
  rw [take_snoc hx] at hj
  have hold := h.row j _ (tabL_get _ hj16)
  simp only [Nat.zero_add] at hold ⊢
  by_cases e : m = j
  · subst e
    rw [World.cell?_setCell_same _ _ _ hold, ← hj]
    simp
  · rw [World.cell?_setCell_other _ _ _ _ (fun e' => e (by injection e')), hold, ← hj]
    have : ¬ (j : Int) = (m : Int) := by omega
    simp [this]

theorem Tab.start (w : World) (l : List Int) (c : Array Value) (e : TypeId) (hc : c = Array.replicate 16 (.bool false)) : Tab w l 0 ((w.alloc (.cells c e)).alloc (.cells c e)) := by
  subst hc
  have h1 : ((w.alloc (.cells (Array.replicate 16 (.bool false)) e)).alloc (.cells (Array.replicate 16 (.bool false)) e)).heap[w.heap.size + 1]? = some (.cells (Array.replicate 16 (.bool false)) e (0, 0)) := by
    have := heap_alloc_new (w.alloc (.cells (Array.replicate 16 (.bool false)) e)) (.cells (Array.replicate 16 (.bool false)) e)
    rwa [World.size_alloc] at this
  have h0 : ((w.alloc (.cells (Array.replicate 16 (.bool false)) e)).alloc (.cells (Array.replicate 16 (.bool false)) e)).heap[w.heap.size]? = some (.cells (Array.replicate 16 (.bool false)) e (0, 0)) := by
    rw [Below.heap_alloc _ _ _ (by simp)]
    exact heap_alloc_new w _
  refine ⟨?_, ?_, ?_, ((Below.refl _ _).alloc (Nat.le_refl _) _).alloc (by simp) _, by simp⟩
  · intro j v hj
    have hj16 : j < 16 := by have := lt_of_some hj; rwa [tabL_len] at this
    rw [tabL_get _ hj16] at hj
    rw [Nat.zero_add, cell_of_row _ _ j _ _ _ h1, ← hj]
    simp [hj16]
  · intro j hj
    rw [Nat.zero_add, cell_of_row _ _ j _ _ _ h1]
    refine ⟨by simp [hj], ?_⟩
    simp only [World.frozen?, h1]
    simp
  · intro j hj
    rw [Nat.zero_add, cell_of_row _ _ j _ _ _ h0]
    refine ⟨by simp [hj], ?_⟩
    simp only [World.frozen?, h0]
    simp

theorem results_cell1 {fn : Func} {p : Tmp} {ty : TypeId} (h : fn.results = #[.cell p ty]) (tmps : Array Value) (P : Program) (w : World) :
    (results fn tmps).run P w = ((asAddr (tmps.getD p undef)).run P w).andThen fun a w₁ => (loadVar ty a).run P w₁ := by
  simp only [results, h]
  simp [Sem.run_bind, Result.andThen]
theorem results_loaded {fn : Func} {p : Tmp} {ty : TypeId} {P : Program} {w : World} {tmps : Array Value} {a : Addr} {v : Value} (h : fn.results = #[.cell p ty]) (hp : tmps.getD p undef = .pointer (some a)) (hl : (loadVar ty a).run P w = .ok v w) :
    (results fn tmps).run P w = .ok v w := by
  rw [results_cell1 h, hp]
  simp only [asAddr, Sem.run_pure, Result.andThen_ok, hl]
theorem below_setCells {B : Nat} {a w : World} (h : Below B a w) {b : Nat} (hb : B ≤ b) (vs : List Value) (o : Nat) : Below B a (w.setCells b o vs) := by
  induction vs generalizing w o with
  | nil => exact h
  | cons v r ih => exact ih (h.setCell (p := ⟨b, o, none⟩) hb v) _

set_option maxRecDepth 100000 in
set_option maxHeartbeats 2000000 in
theorem table_any (l : List Int) (v : Value) (w : World) (hl : Sl 1 w v l.length (ints l)) (hb : ∀ x ∈ l, 0 ≤ x ∧ x ≤ 15) :
    Calls Try.prog 44 #[v] w fun e w' => e = .returned (.agg (tabL l).toArray) ∧ Below w.heap.size w w' := by
  have HS := hid hl
  obtain ⟨ao, cap, rfl, _, hc1, hm1, hs⟩ := hl
  clear hs
  have HB := hid hb
  clear hb
  go_enter Try.func44, Try.ntmps44
  go_wp2_with fail
  go_loopw [8] (fun i wr => TabRel w l i wr) (fun i _ => (l.length - intOf i).toNat)
  case atStart => exact ⟨0, Nat.zero_le _, rfl, Tab.start w l _ _ rfl⟩
  case round =>
    obtain ⟨k, hk, rfl, hT⟩ := hrel
    have HT := hid hT
    clear hT
    by_cases h : k < l.length
    · obtain ⟨x, hx⟩ := some_of_lt h
      have hx0 := HB.out x (List.mem_of_getElem? hx)
      obtain ⟨b, o, rfl, c1⟩ := HS.out.cell (ints_get hx)
      have c1 := keeps HT.out.bel c1
      obtain ⟨m, rfl⟩ := Int.eq_ofNat_of_zero_le hx0.1
      have hm : m < 16 := by omega
      have HX := hid hx
      clear hx hx0
      have c2 := HT.out.row m _ (tabL_get _ hm)
      have f2 := (HT.out.may m hm).2
      rw [Nat.zero_add] at c2 f2
      go_wp2
      go_roundw
      case rel => exact ⟨k + 1, by omega, int_eq (by omega), HT.out.step HX.out hm⟩
      case measure => simp [intOf]; omega
    · have hke : k = l.length := by omega
      subst hke
      have hrow : Hid (wr.rangeAt (w.heap.size + 1) 0 (tabL l)) := hid (by have := HT.out.row; rwa [take_all (Nat.le_refl _)] at this)
      have HO := hid (show wr.there w.heap.size 0 (tabL l).toArray.size by rw [tabA_size]; exact HT.out.out)
      have HI := hid (show (Try.prog.info? 76).map (·.size) = some (tabL l).toArray.size by rw [tabA_size]; kernel_rfl)
      have HJ := hid (show (Try.prog.info? 76).map (·.size) = some (tabL l).length by rw [tabL_len]; kernel_rfl)
      go_wp2_with (first | refine wpList_load_mid rfl 76 _ rfl (w.heap.size + 1) 0 rfl (tabL l) (.array 16 4) hrow.out Try.underlying76 rfl HJ.out ?_ | refine wpList_store_mid rfl 76 _ _ rfl w.heap.size 0 (tabL l).toArray rfl rfl HO.out HI.out (tabL_one l) ?_)
      refine bodyPost_ret (v := .agg (tabL l).toArray) ?_ rfl ⟨rfl, ?_⟩
      · have hth := HT.out.out
        exact results_loaded (p := 2) rfl rfl (run_loadVar_mid (P := Try.prog) (wr.setCells w.heap.size 0 (tabL l)) w.heap.size 0 76 (tabL l) (.array 16 4) (World.rangeAt_setCells_same _ _ _ _ (by rw [tabL_len]; exact hth)) Try.underlying76 rfl HJ.out)
      · exact below_setCells HT.out.bel (Nat.le_refl _) _ _
end Go.Proofs.Ytppflnkadjddiaa
