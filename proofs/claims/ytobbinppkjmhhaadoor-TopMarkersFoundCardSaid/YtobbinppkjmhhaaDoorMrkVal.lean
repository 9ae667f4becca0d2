/-
  marker.valid: whether a marker locates all slips.
  At most three words of at most sixteen letters; a size between 1 and 16; a marker of at most sixteen letters.
-/
import Derived.Test.YtobbinppkjmhhaaDoorMrkSlp
import Derived.Test.YtobbinppkjmhhaaDoorRangeV
import Derived.Test.YtobbinppkjmhhaaDoorSlices
import Derived.Test.YtobbinppkjmhhaaDoorShelfK
namespace Go.Proofs.YtobbinppkjmhhaaDoor
open Go.RowKit Go.Shelf
attribute [local go_sem] Oper.semAt_some
set_option linter.unusedVariables false

/-- A slip is located. -/
def locOk (b : Nat) (m : List UInt8) (ws : List (List UInt8)) (p : Slp) : Prop :=
  locB b m (trk m (ws.set p.1 p.2.2)) = true ∧ (blk b m (trk m (ws.set p.1 p.2.2))).map (·.2) = (List.replicate ws.length (0 : Int)).set p.1 p.2.1
/-- 'make([]T, n)' of cells of one, inside a fence. -/
theorem wpListIn_zeros {F : Fence} {rm : Nat} {P : Program} (w : World) {ops : Array Oper} {rest : List Oper} {o : Oper} {a : Act} {Q : Exit → Act → World → Prop}
    (hg : o.guard = none) (l c : Operand) (t : TypeId) (hop : o.op = Op.makeSlice t l c)
    (base : Nat) (e : TypeId) (z : Value) (bytes : Nat) (h1 : P.underlying t = some (.slice e)) (hinfo : (P.info? e).map (fun i => (i.zero, i.size, i.bytes)) = some (some z, 1, bytes)) (hz : z.cells = #[z])
    (kl kc : IntKind) (L C : Int) (n : Nat) (hl : a.eval l = .int kl L) (hc : a.eval c = .int kc C) (hL : L = (n : Int)) (hC : C = (n : Int)) (b2 : bytes * n ≤ 281474976710656) (b3 : n ≤ maxLen) (b4 : base ≤ w.heap.size)
    (hK : ∀ w', w'.ownsRow base e 1 (.slice (some ⟨w.heap.size, 0, none⟩) n n) n (List.replicate n z) → Below w.heap.size w w' → wpListIn F rm P ops Q rest (a.put o.dst (.slice (some ⟨w.heap.size, 0, none⟩) n n)) w') :
    wpListIn F rm P ops Q (o :: rest) a w := by
  refine wpListIn_plain hg fun K hK' => ?_
  obtain ⟨i0, hi, hz0, hz1, hz2⟩ := info_parts hinfo
  subst hz2
  obtain ⟨w', hrun, r1, r2⟩ := run_make_full (P := P) w base t e i0 z 1 h1 hi hz0 hz1 kl kc n b2 b3 b4
  subst hL
  subst hC
  rw [hz, Nat.mul_one, toList_madeCells_one] at r1
  have hb : Below w.heap.size w w' := (Below.refl _ _).grown r2 (Nat.le_refl _) (by simp)
  unfold Oper.wpIn
  refine ⟨?_, ?_⟩
  · simp [Oper.about, hop]
  · rw [Oper.semAt_plain F _ _ (by rw [hop]; intro c hc'; cases hc')]
    simp [execOp, hop, hl, hc, hrun, Result.andThen]
    exact hK' _ _ (hK w' r1 hb)
/-- The slip's variable is made. -/
def slpW (p : Slp) (W : World) : World := W.alloc (.cells #[.int .i64 (p.1 : Nat), .int .i64 p.2.1, .string (mkS p.2.2)] 76)
theorem slpW_bel (p : Slp) (W : World) : Below W.heap.size W (slpW p W) := bel_alloc _ _
theorem keeps_below {W W' : World} (h : Below W.heap.size W W') : KeepsOthers W W' := ⟨h.size, fun k o hk _ => (h.block k (Array.getElem?_eq_some_iff.1 hk).1).trans hk⟩
theorem own_pos {w : World} {base : Nat} {e : TypeId} {sz : Nat} {v : Value} {n : Nat} {xs : List Value} (h : w.ownsRow base e sz v n xs) (hn : n ≠ 0) : ∃ g cap, v = .slice (some ⟨g, 0, none⟩) n cap ∧ base ≤ g := by
  rcases h.2 with ⟨_, h0⟩ | ⟨g, cap, cur, rfl, hb, _⟩
  · exact absurd h0 hn
  · exact ⟨g, cap, rfl, hb⟩
theorem own_cellP {w : World} {base : Nat} {e : TypeId} {g cap n j : Nat} {xs : List Value} {x : Value} (h : w.ownsRow base e 1 (.slice (some ⟨g, 0, none⟩) n cap) n xs) (hx : xs[j]? = some x) : w.cell? ⟨g, j, none⟩ = some x := by
  obtain ⟨b, o, e1, hc⟩ := (Sl.of_owns h).cell hx
  cases e1
  rw [Nat.zero_add] at hc; exact hc
theorem sstr_set (l : List (List UInt8)) (i : Nat) (x : List UInt8) : (sstr l).set i (.string (mkS x)) = sstr (l.set i x) := by simp [sstr]
theorem trk_set_le (m : List UInt8) : ∀ (ws : List (List UInt8)), (∀ x ∈ ws, x.length ≤ 17) → (trk m ws).length ≤ ws.length * (17 + m.length)
  | [], _ => by simp [trk]
  | x :: ws, h => by
    have h1 := h x (List.mem_cons_self ..)
    have h2 := trk_set_le m ws (fun y hy => h y (List.mem_cons_of_mem _ hy))
    have e : trk m (x :: ws) = x ++ m ++ trk m ws := rfl
    rw [e, List.length_append, List.length_append, List.length_cons, Nat.add_mul]
    omega
theorem trk_small {m : List UInt8} {ws : List (List UInt8)} {p : Slp} (hm : m.length ≤ 16) (hn : ws.length ≤ 3) (hw : ∀ x ∈ ws, x.length ≤ 16) (hp : SlpOk ws p) : (trk m (ws.set p.1 p.2.2)).length ≤ 1000000000 := by
  have h := trk_set_le m (ws.set p.1 p.2.2) (fun x hx => by
    rcases List.mem_or_eq_of_mem_set hx with h1 | h1
    · have := hw x h1; omega
    · rw [h1]; exact hp.len)
  rw [List.length_set] at h
  have : ws.length * (17 + m.length) ≤ 3 * 33 := Nat.mul_le_mul hn (by omega)
  omega
theorem slips_any (v : Value) (w : World) (hv : ∃ a n c, v = .slice a n c) :
    Calls Tryd.prog 27 #[v] w fun e w' => e = .returned (.func (.func 51) #[] #[.pointer (some ⟨w.heap.size, 0, none⟩)]) ∧ w' = w.alloc (.cells #[v] 24) := by
  obtain ⟨a, n, c, rfl⟩ := hv
  go_enter Tryd.func27, Tryd.ntmps27
  go_wp2
  go_ret
  exact ⟨rfl, rfl⟩
/-- While the slips are tried. -/
structure ValIn (w : World) (h b : Nat) (m : List UInt8) (ws : List (List UInt8)) (ao : Option Addr) (cap : Nat) (xs : List Slp) (W : World) : Prop where
  bel : Below h w W
  size : h + 5 ≤ W.heap.size
  cb : Boxed W h 3 (.int .i64 (b : Int))
  cm : Boxed W (h + 1) 9 (.string (mkS m))
  cl : Boxed W (h + 2) 24 (.slice ao ws.length cap)
  cr : Boxed W (h + 3) 4 (.bool false)
  ok : ∀ p ∈ xs, locOk b m ws p
structure ValOut (w : World) (h : Nat) (W : World) : Prop where
  bel : Below h w W
  size : h + 5 ≤ W.heap.size
  cr : Boxed W (h + 3) 4 (.bool false)
theorem row_val {W : World} {h r : Nat} (hr : r = h + 4 ∨ (h + 5 ≤ r ∧ ∃ o : Obj, W.heap[r]? = some o ∧ o.isCells = false)) : h + 4 ≤ r := by
  rcases hr with rfl | ⟨h1, h2⟩ <;> omega
theorem val_abides (w : World) (h b : Nat) (m : List UInt8) (ws : List (List UInt8)) (ao : Option Addr) (cap : Nat) : Abides2 (h + 5) (h + 4) (ValIn w h b m ws ao cap) := fun s W W' row hI hg hr => by
  have hr' := fun r e => row_val (hr r e)
  exact ⟨hI.bel.grown hg (by have := hI.size; omega) (fun k e => by have := hr' k e; omega), Nat.le_trans hI.size hg.size, boxed_abides hI.cb hg (fun r e => by have := hr' r e; omega), boxed_abides hI.cm hg (fun r e => by have := hr' r e; omega),
    boxed_abides hI.cl hg (fun r e => by have := hr' r e; omega), boxed_abides hI.cr hg (fun r e => by have := hr' r e; omega), hI.ok⟩
theorem valo_abides (w : World) (h : Nat) : Abides2 (h + 5) (h + 4) (fun (_ : List Slp) W => ValOut w h W) := fun s W W' row hI hg hr => by
  have hr' := fun r e => row_val (hr r e)
  exact ⟨hI.bel.grown hg (by have := hI.size; omega) (fun k e => by have := hr' k e; omega), Nat.le_trans hI.size hg.size, boxed_abides hI.cr hg (fun r e => by have := hr' r e; omega)⟩
theorem slpK_put {r : Nat} (W : World) (l : Nat) (o o' : Obj) (hl : W.heap[l]? = some o) (ho : o.isCells = false) : SlpK r W (W.putObj l o') :=
  ⟨by simp, fun k o2 h1 h2 _ => by
    have hne : k ≠ l := fun e => by subst e; rw [hl] at h1; cases h1; rw [ho] at h2; cases h2
    exact (World.putObj_heap_other hne).trans h1⟩

theorem val_next {w : World} {h b : Nat} {m : List UInt8} {ws : List (List UInt8)} {ao : Option Addr} {cap : Nat} {pre : List Slp} {p : Slp} {W X : World} (hI : ValIn w h b m ws ao cap pre W) (hb : Below W.heap.size W X) (hok : locOk b m ws p) :
    KeepsOthers W X ∧ SlpK (h + 3) W X ∧ ValIn w h b m ws ao cap (pre ++ [p]) X := by
  have hsz := hI.size
  refine ⟨keeps_below hb, SlpK.below hb, hI.bel.trans (hb.mono (by omega)), Nat.le_trans hI.size hb.size, (hb.block _ (by omega)).trans hI.cb, (hb.block _ (by omega)).trans hI.cm, (hb.block _ (by omega)).trans hI.cl, (hb.block _ (by omega)).trans hI.cr, ?_⟩
  intro q hq
  rcases List.mem_append.1 hq with hq | hq
  · exact hI.ok q hq
  · obtain rfl := List.mem_singleton.1 hq
    exact hok
theorem val_exit {w : World} {h b : Nat} {m : List UInt8} {ws : List (List UInt8)} {ao : Option Addr} {cap : Nat} {pre : List Slp} {W X : World} (hI : ValIn w h b m ws ao cap pre W) (hb : Below W.heap.size W X) :
    X.cell? ⟨h + 1 + 1 + 1, 0, none⟩ = some (.bool false) ∧ X.frozen? ⟨h + 1 + 1 + 1, 0, none⟩ = false ∧
    KeepsOthers W (X.setCell ⟨h + 1 + 1 + 1, 0, none⟩ (.bool false)) ∧ SlpK (h + 3) W (X.setCell ⟨h + 1 + 1 + 1, 0, none⟩ (.bool false)) ∧ ValOut w h (X.setCell ⟨h + 1 + 1 + 1, 0, none⟩ (.bool false)) := by
  have hsz := hI.size
  have hcr : Boxed X (h + 3) 4 (.bool false) := (hb.block _ (by omega)).trans hI.cr
  have hk := SlpK.below (r := h + 3) hb
  refine ⟨hcr.cell, hcr.frozen, (keeps_below hb).trans (KeepsOthers.setCell _ _ _), ⟨by simp only [World.size_setCell]; exact hk.1, fun k o h1 h2 h3 => (Below.heap_setCell _ _ _ k (by show k ≠ h + 1 + 1 + 1; omega)).trans (hk.2 k o h1 h2 h3)⟩, ?_⟩
  exact ⟨(hI.bel.trans (hb.mono (by omega))).setCell (p := ⟨h + 1 + 1 + 1, 0, none⟩) (by show h ≤ h + 1 + 1 + 1; omega) _, by simp only [World.size_setCell]; exact Nat.le_trans hI.size hb.size, hcr.set _⟩
theorem shs_ints (l : List Blk) : shs l = ints (l.map (·.2)) := by simp [shs, ints]
theorem want_ints (n i : Nat) (x : Int) : (List.replicate n (Value.int .i64 0)).set i (.int .i64 x) = ints ((List.replicate n (0 : Int)).set i x) := by simp [ints]

set_option maxRecDepth 100000 in
set_option maxHeartbeats 8000000 in
theorem valid_any (b : Nat) (m : List UInt8) (ws : List (List UInt8)) (v : Value) (hb : 1 ≤ b) (hb2 : b ≤ 16) (hm : m ≠ []) (hm2 : m.length ≤ 16) (hn : ws.length ≤ 3) (h0 : ws ≠ []) (hw : ∀ x ∈ ws, x.length ≤ 16) (w : World) (hl : Sl 1 w v ws.length (sstr ws)) :
    Calls Tryd.prog 13 #[.int .i64 (b : Int), .string (mkS m), v] w fun e w' => ∃ V : Bool, e = .returned (.bool V) ∧ Below w.heap.size w w' ∧
      (V = true → ∀ i k x, ws[i]? = some x → k < x.length → locOk b m ws (i, -1, delW x k)) := by
  obtain ⟨ao, cap, rfl, _⟩ := id hl
  obtain ⟨h, hh⟩ : ∃ h, w.heap.size = h := ⟨_, rfl⟩
  have HL := hid hl
  have HW := hid hw
  clear hl hw
  rw [hh]
  refine (callsIn_wide (n := 9)).1 ?_
  refine callsIn_of_wp_marks Tryd.func13 rfl trivial ?_ rfl
  simp only [Tryd.ntmps13, List.size_toArray, List.length_cons, List.length_nil, Nat.reduceAdd, Nat.reduceSub, Array.replicate_succ, Array.replicate_zero, List.push_toArray, List.append_toArray, List.nil_append, List.cons_append]
  gi_wp2_with (refine ⟨trivial, ?_⟩; gi_at_call 27; refine (callsIn_wide.2 (slips_any _ _ ⟨_, _, _, rfl⟩)).mono ?_; rintro e' w' ⟨rfl, rfl⟩)
  obtain ⟨X, hX⟩ : ∃ X, (((((w.alloc (.cells #[.int .i64 (b : Int)] 3)).alloc (.cells #[.string (mkS m)] 9)).alloc (.cells #[.slice ao ws.length cap] 24)).alloc (.cells #[.bool false] 4)).alloc (.cells #[.slice ao ws.length cap] 24)) = X := ⟨_, rfl⟩
  rw [hX]
  have hsX : X.heap.size = h + 5 := by rw [← hX, ← hh]; simp
  have hXb : Below h w X := by
    rw [← hh, ← hX]
    exact ((((bel_alloc _ _).alloc (by simp) _).alloc (by simp; omega) _).alloc (by simp; omega) _).alloc (by simp; omega) _
  have hIX : ValIn w h b m ws ao cap [] X := by
    refine ⟨hXb, by omega, ?_, ?_, ?_, ?_, by simp⟩
    · rw [← hX, ← hh]; exact ((((Boxed.new w _ _).alloc _).alloc _).alloc _).alloc _
    · rw [← hX, ← hh]
      have := Boxed.new (w.alloc (.cells #[.int .i64 (b : Int)] 3)) 9 (.string (mkS m))
      rw [World.size_alloc] at this
      exact ((this.alloc _).alloc _).alloc _
    · rw [← hX, ← hh]
      have := Boxed.new ((w.alloc (.cells #[.int .i64 (b : Int)] 3)).alloc (.cells #[.string (mkS m)] 9)) 24 (.slice ao ws.length cap)
      rw [World.size_alloc, World.size_alloc] at this
      exact (this.alloc _).alloc _
    · rw [← hX, ← hh]
      have := Boxed.new (((w.alloc (.cells #[.int .i64 (b : Int)] 3)).alloc (.cells #[.string (mkS m)] 9)).alloc (.cells #[.slice ao ws.length cap] 24)) 4 (.bool false)
      rw [World.size_alloc, World.size_alloc, World.size_alloc] at this
      exact this.alloc _
  have hBx : X.cell? ⟨h + 4, 0, none⟩ = some (.slice ao ws.length cap) := by rw [← hX, ← hh]; simp [go_sem]
  clear hX
  have HX := hid hIX
  have HS := hid hsX
  have hseq : SeqOwn Fence.wide 8 Tryd.prog 51 #[.pointer (some ⟨h + 1 + 1 + 1 + 1, 0, none⟩)] encSlp (SlpK (h + 3)) (Dels ws ws.length 0) (OkAll ws) (h + 4) X := fun l J Jx W hW hJ hJx hY hj =>
    slp_many l (h + 3) (h + 4) ao cap ws hn HW.out J Jx hJ W (by omega) (by have := hW.size; omega) ((HL.out.below (by rw [hh]; exact hXb)).below hW) (fun bb oo hne e => by
      obtain ⟨x, hx⟩ := some_of_lt (l := ws) (k := 0) (by omega)
      subst e
      obtain ⟨b2, o2, e2, c2⟩ := HL.out.cell (sstr_get hx)
      cases e2
      have := World.block_lt_of_cell? w _ c2
      simp only at this
      omega) ((hW.cell (p := ⟨h + 4, 0, none⟩) (by show h + 4 < X.heap.size; omega)).trans hBx) hY hj
  have HSq := hid hseq
  clear hseq hIX hBx
  refine wpIn_rangeV rfl (by decide) (gf := 51) (lb := #[.pointer (some ⟨h + 1 + 1 + 1 + 1, 0, none⟩)]) rfl trivial (enters_of Tryd.func51 (by kernel_rfl) rfl)
    HSq.out SlpK.trans (fun W l o o' hl ho hc hw => slpK_put W l o o' ho hc) (Below.refl _ _) (fun _ => rfl) (by rw [HS.out]; omega)
    (ValIn w h b m ws ao cap) (fun c xs W => c = .ret ∧ ValOut w h W) (by rw [HS.out]; exact val_abides w h b m ws ao cap) (fun c s W W' row hs hg hr => ⟨hs.1, by rw [HS.out] at hr; exact valo_abides w h s W W' row hs.2 hg hr⟩) HX.out
    (fun p W => { tmps := #[.int .i64 (b : Int), .string (mkS m), .slice ao ws.length cap, .pointer (some ⟨h, 0, none⟩), .pointer (some ⟨h + 1, 0, none⟩), .pointer (some ⟨h + 1 + 1, 0, none⟩), .pointer (some ⟨h + 1 + 1 + 1, 0, none⟩), .pointer (some ⟨W.heap.size, 0, none⟩), undef, undef, undef, undef, .slice ao ws.length cap,
      .func (.func 51) #[] #[.pointer (some ⟨h + 1 + 1 + 1 + 1, 0, none⟩)], .agg #[.int .i64 (p.1 : Nat), .int .i64 p.2.1, .string (mkS p.2.2)], undef, undef,
      undef, undef, undef, undef, undef, undef, undef, undef, undef, undef, undef, undef, undef, undef, undef, undef, undef, undef, undef, undef, undef, undef, undef, undef, undef, undef, undef, undef, undef, undef, undef, undef], defers := [] }) (fun p W => slpW p W) (fun p W _ => slpW_bel p W) (fun p W _ => SlpK.below (slpW_bel p W)) ?assign ?body ?done ?stop
  case assign =>
    intro l p W K hK
    simp only [encSlp]
    gi_wp2
    exact hK
  case body =>
    intro l pre p W0 W hI hSp hsz0 hsz hnew
    have hp := hSp p (List.mem_append_right _ (List.mem_singleton.2 rfl))
    obtain ⟨g, hg⟩ : ∃ g, W0.heap.size = g := ⟨_, rfl⟩
    rw [hg]
    have hgh : W.heap[g]? = some (.cells #[.int .i64 (p.1 : Nat), .int .i64 p.2.1, .string (mkS p.2.2)] 76) := hnew g _ (by rw [← hg]; exact World.alloc_heap_new W0 _) rfl
    have s0 : W.cell? ⟨g, 0, none⟩ = some (.int .i64 (p.1 : Nat)) := by rw [Lib.cell_of_heap hgh]; rfl
    have s1 : W.cell? ⟨g, 1, none⟩ = some (.int .i64 p.2.1) := by rw [Lib.cell_of_heap hgh]; rfl
    have s2 : W.cell? ⟨g, 2, none⟩ = some (.string (mkS p.2.2)) := by rw [Lib.cell_of_heap hgh]; rfl
    have cb := hI.cb.cell
    have cm := hI.cm.cell
    have cl := hI.cl.cell
    have HSl := hid (HL.out.below (by rw [hh]; exact hI.bel))
    have hT := trk_small hm2 hn HW.out hp
    have HLo := hid (fun X => locate_any b m (trk m (ws.set p.1 p.2.2)) hb (by omega) hm (by omega) hT X)
    have HTr := hid (fun X v (h : Sl 1 X v ws.length (sstr (ws.set p.1 p.2.2))) => track_any m (ws.set p.1 p.2.2) v X (by rw [List.length_set]; exact h) hT)
    have HOkB := hid (show locOk b m ws p ↔ (locB b m (trk m (ws.set p.1 p.2.2)) = true ∧ (blk b m (trk m (ws.set p.1 p.2.2))).map (·.2) = (List.replicate ws.length (0 : Int)).set p.1 p.2.1) from Iff.rfl)
    have HIn := hid hI
    have HPok := hid hp
    obtain ⟨x0, hx0⟩ := some_of_lt hp.blk
    obtain ⟨bb, oo, rfl, _⟩ := HSl.out.cell (sstr_get hx0)
    have HCl := hid (Tryd.slices_Clone_string bb oo ws.length cap (ws.map mkS) W (by simp) (by omega) (fun j hj => by
      obtain ⟨y, hy⟩ := some_of_lt (l := ws) (k := j) (by simpa using hj)
      obtain ⟨b2, o2, e2, c2⟩ := HSl.out.cell (sstr_get hy)
      cases e2
      rw [c2, List.getD_eq_getElem?_getD, List.getElem?_map, hy]; rfl))
    generalize trk m (ws.set p.1 p.2.2) = T at *
    obtain ⟨P1, P2, P3⟩ := p
    simp only at *
    have hP1 : P1 < ws.length := hp.blk
    have hgl : g < W.heap.size := (Array.getElem?_eq_some_iff.1 hgh).1
    clear hI hp hT hgh hnew hx0
    gi_upto_region 4 with (refine ⟨trivial, ?_⟩; gi_at_call 28; refine (callsIn_wide.2 HCl.out).mono ?_; rintro e' w1 ⟨v1, rfl, ho1, _, hb1⟩; have HO1 := hid ho1; have HB1 := hid hb1)
    obtain ⟨g1, cap1, rfl, hg1⟩ := own_pos HO1.out (by omega)
    have hxs : ((ws.map mkS).take ws.length).map Value.string = sstr ws := by rw [List.take_of_length_le (by simp), sstr, List.map_map]; rfl
    rw [hxs] at ho1 HO1
    obtain ⟨x0, hx0⟩ := some_of_lt hP1
    have d1 := own_cellP HO1.out (sstr_get hx0)
    have f1 := HO1.out.frozenAt P1
    have ho2 := (HO1.out.stored P1 (.string (mkS P3))).1
    rw [sstr_set] at ho2
    have hb2 : Below W.heap.size W (w1.setCell ⟨g1, P1, none⟩ (.string (mkS P3))) := HB1.out.setCell (p := ⟨g1, P1, none⟩) hg1 _
    have s0' := keeps HB1.out s0
    have s2' := keeps HB1.out s2
    have hP1i : (P1 : Int) < (ws.length : Int) := by omega
    clear hxs ho1 hx0
    gi_upto_region 5 with fail
    generalize w1.setCell ⟨g1, P1, none⟩ (.string (mkS P3)) = w2 at *
    have HO2 := hid ho2
    have HB2 := hid hb2
    have cb := keeps hb2 cb
    have cm := keeps hb2 cm
    have cl := keeps hb2 cl
    have s0 := keeps hb2 s0
    have s1 := keeps hb2 s1
    clear s0' s2' s2 d1 f1 HO1 HB1 hb1 ho2 hb2
    gi_cut [9, 10] from 60 (fun v9 v10 wr => v10 = .bool (locB b m T) ∧ Hid (Below w2.heap.size w2 wr) ∧ Hid ((locB b m T = true → wr.ownsRow w2.heap.size 3 1 v9 (blk b m T).length (shs (blk b m T))) ∧ (locB b m T = false → v9 = .slice none 0 0)))
    case first =>
      rename_i CJ CK hCJ hCK
      have HSq := hid (Sl.of_owns HO2.out)
      gi_region_with (first
        | (refine ⟨trivial, ?_⟩; gi_at_call 30; refine (callsIn_wide.2 (HTr.out _ _ (HSq.out.below (below_drewN (Below.refl _ _) 1)))).mono ?_; rintro e w5 ⟨rfl, hb5⟩; have HB5 := hid ((below_drewN (Below.refl w2.heap.size w2) 1).trans hb5); have cb5 := keeps HB5.out cb; have cm5 := keeps HB5.out cm)
        | (refine ⟨trivial, ?_⟩; gi_at_call 29; refine (callsIn_wide.2 (HLo.out _)).mono ?_; rintro e w6 ⟨v6, rfl, hb6, hl1, hl2⟩; have HB6 := hid (HB5.out.trans (hb6.mono HB5.out.size)); have HL6 := hid (And.intro (fun h => own_base (hl1 h) HB5.out.size) hl2)))
      all_goals (first | exact hCK _ _ (Met.intro (hCJ _ _ (by (repeat apply Exists.intro); exact ⟨⟨rfl, HB6, HL6⟩, rfl⟩))) | (gi_wp2; gi_meet; exact ⟨rfl, HB6, HL6⟩))
    obtain ⟨rfl, HBc, HLc⟩ := hcut
    have hBc := HB2.out.trans (HBc.out.mono HB2.out.size)
    have HC := hid hBc
    have cl := keeps HBc.out cl
    have s0 := keeps HBc.out s0
    have s1 := keeps HBc.out s1
    clear cb cm hBc HB2 HLo HTr HCl HO2 HW HSl HL HX
    gi_upto_region 7 with (gi_at_make; refine wpListIn_zeros _ rfl _ _ 38 rfl wc.heap.size 3 (.int .i64 0) 8 Tryd.underlying38 Tryd.infoInt rfl _ _ _ _ ws.length rfl rfl rfl rfl (by omega) (by unfold maxLen; omega) (Nat.le_refl _) ?_; intro w7 hown7 hb7)
    have d7 := own_cellP hown7 (j := P1) (x := .int .i64 0) (by simp [hP1])
    have f7 := hown7.frozenAt P1
    have ho8 := (hown7.stored P1 (.int .i64 P2)).1
    rw [want_ints] at ho8
    have hb8 : Below wc.heap.size wc (w7.setCell ⟨wc.heap.size, P1, none⟩ (.int .i64 P2)) := hb7.setCell (p := ⟨wc.heap.size, P1, none⟩) (Nat.le_refl _) _
    have s0 := keeps hb7 s0
    have s1 := keeps hb7 s1
    clear cl hown7
    gi_upto_region 8 with fail
    generalize w7.setCell ⟨wc.heap.size, P1, none⟩ (.int .i64 P2) = w8 at *
    have HO8 := hid (Sl.of_owns ho8)
    have HB8 := hid hb8
    have HC8 := hid (HC.out.trans (hb8.mono HC.out.size))
    clear d7 f7 ho8 s0 s1 hb8 hb7
    cases hloc : locB b m T with
    | false =>
      have hE := val_exit HIn.out HC8.out
      have e1 := hE.1
      have e2 := hE.2.1
      have HE := hid hE.2.2
      clear hE
      gi_wp2
      refine ⟨trivial, ?_⟩
      gi_wp2
      exact ⟨HE.out.1, HE.out.2.1, rfl, HE.out.2.2⟩
    | true =>
      have HSh := hid (Sl.of_owns (HLc.out.1 hloc))
      have hlen : (blk b m T).length = ((blk b m T).map (·.2)).length := by rw [List.length_map]
      have hlen2 : ws.length = ((List.replicate ws.length (0 : Int)).set P1 P2).length := by simp
      have HEq := hid (fun X (hX : Below w8.heap.size w8 X) => equalInts_any u9 (.slice (some ⟨wc.heap.size, 0, none⟩) ws.length ws.length) ((blk b m T).map (·.2)) ((List.replicate ws.length (0 : Int)).set P1 P2) X (by rw [← hlen, ← shs_ints]; exact (HSh.out.below HB8.out).below hX) (by rw [← hlen2]; exact HO8.out.below hX))
      have HOk := hid (show eqb ((blk b m T).map (·.2)) ((List.replicate ws.length (0 : Int)).set P1 P2) = true → locOk b m ws (P1, P2, P3) from fun h => HOkB.out.2 ⟨hloc, (eqb_iff _ _).1 h⟩)
      clear hlen hlen2
      generalize eqb ((blk b m T).map (·.2)) ((List.replicate ws.length (0 : Int)).set P1 P2) = Q at *
      gi_upto_if 48 with (refine ⟨trivial, ?_⟩; gi_at_call 10; refine (callsIn_wide.2 (HEq.out _ (Below.refl _ _))).mono ?_; rintro e' w9 ⟨rfl, hD9⟩; have HC9 := hid (HC8.out.trans (hD9.below _)))
      cases Q with
      | false =>
        have hE := val_exit HIn.out HC9.out
        have e1 := hE.1
        have e2 := hE.2.1
        have HE := hid hE.2.2
        clear hE
        gi_wp2
        exact ⟨HE.out.1, HE.out.2.1, rfl, HE.out.2.2⟩
      | true =>
        gi_wp2
        exact val_next HIn.out HC9.out (HOk.out (by trivial))
  case done =>
    intro D xs W hD hS hI hK
    dsimp only
    rw [HS.out] at hD
    have c7 := hI.cr.cell
    have f7 := hI.cr.frozen
    have HI := hid hI
    have B7 := hid (hI.cr.set (.bool true))
    have HK := hid hK
    have HD := hid hS
    clear hI hK hS
    gi_wp2
    have hK2 : (W.setCell ⟨h + 1 + 1 + 1, 0, none⟩ (.bool true)).heap[D]? = some (.deferred (some [])) := (Below.heap_setCell _ _ _ D (by show D ≠ h + 1 + 1 + 1; omega)).trans HK.out
    refine ⟨by simp, .inl ⟨_, _, rfl, run_takeDeferred hK2, ?_⟩⟩
    refine ⟨.bool true, ?_, true, rfl, ?_, ?_⟩
    · have e7 := (boxed_put B7.out (l := D) (by omega) (.deferred none)).cell
      simp [results, Tryd.f13, go_sem, e7]
    · have hb := HI.out.bel.setCell (p := ⟨h + 1 + 1 + 1, 0, none⟩) (by show h ≤ h + 1 + 1 + 1; omega) (.bool true)
      exact hb.trans ⟨rfl, rfl, rfl, by simp, fun g hg => World.putObj_heap_other (by omega)⟩
    · intro _ i k x hx hk
      exact HI.out.ok _ (HD.out i k x hx hk (.inl (lt_of_some hx)))
  case stop =>
    intro D c pre W hD hSp hI hK
    obtain ⟨rfl, hO⟩ := hI
    rw [HS.out] at hD
    have c7 := hO.cr.cell
    gi_wp2
    refine ⟨by simp, .inl ⟨_, _, rfl, run_takeDeferred hK, ?_⟩⟩
    refine ⟨.bool false, ?_, _, rfl, ?_, ?_⟩
    · have e7 := (boxed_put hO.cr (l := D) (by omega) (.deferred none)).cell
      simp [results, Tryd.f13, go_sem, e7]
    · exact hO.bel.trans ⟨rfl, rfl, rfl, by simp, fun g hg => World.putObj_heap_other (by omega)⟩
    · intro h; cases h
end Go.Proofs.YtobbinppkjmhhaaDoor
