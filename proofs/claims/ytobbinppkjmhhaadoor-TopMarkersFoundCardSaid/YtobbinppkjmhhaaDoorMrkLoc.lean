/-
  marker.blocks, marker.locate.
  The size lies between 1 and a million; the marker is not empty; marker and track are not too long.
-/
import Derived.Test.YtobbinppkjmhhaaDoorMrkSeq
import Derived.Test.YtobbinppkjmhhaaDoorLibTwo
namespace Go.Proofs.YtobbinppkjmhhaaDoor
open Go.RowKit Go.Shelf
attribute [local go_sem] Oper.semAt_some
set_option linter.unusedVariables false

theorem blocks_any (b : Int) (m x : ByteArray) (w : World) :
    Calls Tryd.prog 15 #[.int .i64 b, .string m, .string x] w fun e w' => e = .returned (.func (.func 31) #[] #[.pointer (some ⟨w.heap.size + 2, 0, none⟩), .pointer (some ⟨w.heap.size, 0, none⟩), .pointer (some ⟨w.heap.size + 1, 0, none⟩)]) ∧
      w' = ((w.alloc (.cells #[.int .i64 b] 3)).alloc (.cells #[.string m] 9)).alloc (.cells #[.string x] 9) := by
  go_enter Tryd.func15, Tryd.ntmps15
  go_wp2
  go_ret
  exact ⟨rfl, rfl⟩
theorem mrkAt_new (w : World) (n1 b : Nat) (m x : List UInt8) (h : w.heap.size = n1) : MrkAt n1 b m x (((w.alloc (.cells #[.int .i64 (b : Int)] 3)).alloc (.cells #[.string (mkS m)] 9)).alloc (.cells #[.string (mkS x)] 9)) := by
  subst h
  refine ⟨((Boxed.new w 3 (.int .i64 (b : Int))).alloc _).alloc _, ?_, ?_⟩
  · have := Boxed.new (w.alloc (.cells #[.int .i64 (b : Int)] 3)) 9 (.string (mkS m))
    rw [World.size_alloc] at this
    exact this.alloc _
  · have := Boxed.new ((w.alloc (.cells #[.int .i64 (b : Int)] 3)).alloc (.cells #[.string (mkS m)] 9)) 9 (.string (mkS x))
    rw [World.size_alloc, World.size_alloc] at this
    exact this
/-- The iterator's contract. -/
theorem mrk_seq (n1 b : Nat) (m x : List UInt8) (hb : 1 ≤ b) (hb2 : b ≤ 1000000) (hm : m ≠ []) (hm2 : m.length ≤ 1000000) (hx : x.length ≤ 1000000000) (w : World) (hA : MrkAt n1 b m x w) :
    SeqOwn Fence.wide 8 Tryd.prog 31 #[.pointer (some ⟨n1 + 2, 0, none⟩), .pointer (some ⟨n1, 0, none⟩), .pointer (some ⟨n1 + 1, 0, none⟩)] (fun p : Blk => #[.string (mkS p.1), .int .i64 p.2]) (MrkK n1)
      (fun ys => ys = blk b m x) (fun pre => pre <+: blk b m x) (n1 + 2) w := fun l J Jx W hW hJ hJx hY h0 =>
  mrk_many l n1 b m x hb hb2 hm hm2 hx J Jx hJ W hY (hA.kept fun k h1 h2 => hW.block k (by have := hA.w.lt; omega)) h0
/-- What is owned abides the turn of blocks below, and of blocks that are no cells. -/
theorem own_abides {W W' : World} {base : Nat} {e : TypeId} {n : Nat} {v : Value} {k : Nat} {xs : List Value} {row : Option Nat} (h : W.ownsRow base e n v k xs) (hg : W.grownBy W' row) (hr : ∀ r, row = some r → r < base ∨ ∃ o : Obj, W.heap[r]? = some o ∧ o.isCells = false) : W'.ownsRow base e n v k xs := by
  refine h.kept hg ?_
  rcases h.2 with ⟨rfl, _⟩ | ⟨g, cap, cur, rfl, hb, hgg, _⟩
  · exact .inl rfl
  · refine .inr fun e' => ?_
    rcases hr g (by rw [← e']; rfl) with h1 | ⟨o, h1, h2⟩
    · omega
    · rw [hgg] at h1; cases h1; cases h2
theorem boxed_abides {W W' : World} {B : Nat} {t : TypeId} {v : Value} {row : Option Nat} (h : Boxed W B t v) (hg : W.grownBy W' row) (hr : ∀ r, row = some r → r ≠ B) : Boxed W' B t v :=
  (hg.block B h.lt (fun e => hr B e.symm rfl)).trans h
/-- The shifts. -/
def shs (l : List Blk) : List Value := l.map fun p => .int .i64 p.2
/-- While shifts are appended. -/
structure LocIn (w : World) (h : Nat) (xs : List Blk) (W : World) : Prop where
  bel : Below h w W
  size : h + 6 ≤ W.heap.size
  r6 : Boxed W h 38 (.slice none 0 0)
  r7 : Boxed W (h + 1) 4 (.bool false)
  out : ∃ v, Boxed W (h + 2) 38 v ∧ W.ownsRow (h + 6) 3 1 v xs.length (shs xs)
  no : ∀ p ∈ xs, p.2 ≠ 2
/-- Behind a block that does not fit. -/
structure LocOut (w : World) (h : Nat) (xs : List Blk) (W : World) : Prop where
  bel : Below h w W
  size : h + 6 ≤ W.heap.size
  r6 : Boxed W h 38 (.slice none 0 0)
  r7 : Boxed W (h + 1) 4 (.bool false)
  two : ∃ p ∈ xs, p.2 = 2
theorem row_at {W : World} {h r : Nat} (hr : r = h + 5 ∨ (h + 6 ≤ r ∧ ∃ o : Obj, W.heap[r]? = some o ∧ o.isCells = false)) : h + 5 ≤ r ∧ (r < h + 6 ∨ ∃ o : Obj, W.heap[r]? = some o ∧ o.isCells = false) := by
  rcases hr with rfl | ⟨h1, h2⟩
  · exact ⟨Nat.le_refl _, .inl (by omega)⟩
  · exact ⟨by omega, .inr h2⟩
theorem loc_abides (w : World) (h : Nat) : Abides2 (h + 6) (h + 5) (LocIn w h) := fun s W W' row hI hg hr => by
  obtain ⟨v, h1, h2⟩ := hI.out
  have hr' := fun r e => row_at (hr r e)
  exact ⟨hI.bel.grown hg (by have := hI.size; omega) (fun k e => by have := (hr' k e).1; omega), Nat.le_trans hI.size hg.size, boxed_abides hI.r6 hg (fun r e => by have := (hr' r e).1; omega), boxed_abides hI.r7 hg (fun r e => by have := (hr' r e).1; omega),
    ⟨v, boxed_abides h1 hg (fun r e => by have := (hr' r e).1; omega), own_abides h2 hg (fun r e => (hr' r e).2)⟩, hI.no⟩
theorem loco_abides (w : World) (h : Nat) : Abides2 (h + 6) (h + 5) (LocOut w h) := fun s W W' row hI hg hr => by
  have hr' := fun r e => row_at (hr r e)
  exact ⟨hI.bel.grown hg (by have := hI.size; omega) (fun k e => by have := (hr' k e).1; omega), Nat.le_trans hI.size hg.size, boxed_abides hI.r6 hg (fun r e => by have := (hr' r e).1; omega), boxed_abides hI.r7 hg (fun r e => by have := (hr' r e).1; omega), hI.two⟩
theorem boxed_far {W : World} {B g : Nat} {t : TypeId} {v : Value} (h : Boxed W B t v) (hne : B ≠ g) (u : Value) : Boxed (W.setCell ⟨g, 0, none⟩ u) B t v := (Below.heap_setCell _ _ _ B hne).trans h
theorem row_low {w : World} {base : Nat} {e : TypeId} {sz : Nat} {v : Value} {n : Nat} {xs : List Value} (h : w.ownsRow base e sz v n xs) {b : Nat} (hb : b < base) : some b ≠ v.ownBlock := fun e1 => by
  have := (h.lt b e1.symm).1
  omega
theorem own_sl {w : World} {base : Nat} {e : TypeId} {sz : Nat} {v : Value} {n : Nat} {xs : List Value} (h : w.ownsRow base e sz v n xs) : ∃ a l c, v = .slice a l c := by
  rcases h.2 with ⟨rfl, _⟩ | ⟨g, cap, cur, rfl, _⟩
  · exact ⟨_, _, _, rfl⟩
  · exact ⟨_, _, _, rfl⟩
theorem boxed_put {W : World} {B l : Nat} {t : TypeId} {v : Value} (h : Boxed W B t v) (hne : B ≠ l) (o : Obj) : Boxed (W.putObj l o) B t v := (World.putObj_heap_other hne).trans h
structure LocPush (w : World) (h : Nat) (xs : List Blk) (W : World) (v v' : Value) (w2 : World) : Prop where
  c2 : w2.cell? ⟨h + 1 + 1, 0, none⟩ = some v
  f2 : w2.frozen? ⟨h + 1 + 1, 0, none⟩ = false
  kept : KeepsOthers W (w2.setCell ⟨h + 1 + 1, 0, none⟩ v')
  mrk : MrkK (h + 3) W (w2.setCell ⟨h + 1 + 1, 0, none⟩ v')
  next : LocIn w h xs (w2.setCell ⟨h + 1 + 1, 0, none⟩ v')
theorem LocIn.push {w : World} {h : Nat} {pre : List Blk} {p1 : List UInt8} {p2 : Int} {W w2 : World} {v v' : Value} {tmp : Obj} (hI : LocIn w h pre W) (h2 : p2 ≠ 2) (hv : Boxed W (h + 2) 38 v) (hrow : W.ownsRow (h + 6) 3 1 v pre.length (shs pre))
    (hown : w2.ownsRow (h + 6) 3 1 v' (pre.length + 1) (shs pre ++ [.int .i64 p2])) (hg : (W.alloc tmp).grownBy w2 v.ownBlock) : LocPush w h (pre ++ [(p1, p2)]) W v v' w2 := by
  have hsz := hI.size
  obtain ⟨hv1, hv2, _, hk2, hb2⟩ := hv.appended (n₀ := h) (by decide) (own_base hrow (by omega)) (by omega) (by omega) (own_base hown (by omega)) hg
  have e2 : ∀ g, g < h + 6 → w2.heap[g]? = W.heap[g]? := fun g hg' => (hg.block g (by simp; omega) (row_low hrow (by omega))).trans (Below.heap_alloc _ _ _ (by omega))
  refine ⟨hv1.cell, hv1.frozen, hk2, fun k k1 k2 => (Below.heap_setCell _ _ _ k (by show k ≠ h + 1 + 1; omega)).trans (e2 k (by omega)), ?_⟩
  refine ⟨hI.bel.trans hb2, ?_, boxed_far ((e2 _ (by omega)).trans hI.r6) (by omega) _, boxed_far ((e2 _ (by omega)).trans hI.r7) (by omega) _, ⟨v', hv2, ?_⟩, ?_⟩
  · have := hg.size; simp at this; simp only [World.size_setCell]; omega
  · rw [List.length_append]
    have e : shs (pre ++ [(p1, p2)]) = shs pre ++ [.int .i64 p2] := by simp [shs]
    rw [e]
    exact ownsRow_setCell_below hown (by show h + 1 + 1 < h + 6; omega) _
  · intro q hq
    rcases List.mem_append.1 hq with hq | hq
    · exact hI.no q hq
    · obtain rfl := List.mem_singleton.1 hq
      exact h2
/-- Whether every block is told. -/
def locB (b : Nat) (m x : List UInt8) : Bool := (blk b m x).all fun p => decide (p.2 ≠ 2)

set_option maxRecDepth 100000 in
set_option maxHeartbeats 4000000 in
theorem locate_any (b : Nat) (m x : List UInt8) (hb : 1 ≤ b) (hb2 : b ≤ 1000000) (hm : m ≠ []) (hm2 : m.length ≤ 1000000) (hx : x.length ≤ 1000000000) (w : World) :
    Calls Tryd.prog 29 #[.int .i64 (b : Int), .string (mkS m), .string (mkS x)] w fun e w' => ∃ v, e = .returned (.tuple #[v, .bool (locB b m x)]) ∧ Below w.heap.size w w' ∧
      (locB b m x = true → w'.ownsRow w.heap.size 3 1 v (blk b m x).length (shs (blk b m x))) ∧ (locB b m x = false → v = .slice none 0 0) := by
  obtain ⟨h, hh⟩ : ∃ h, w.heap.size = h := ⟨_, rfl⟩
  rw [hh]
  refine (callsIn_wide (n := 9)).1 ?_
  refine callsIn_of_wp_marks Tryd.func29 rfl trivial ?_ rfl
  simp only [Tryd.ntmps29, List.size_toArray, List.length_cons, List.length_nil, Nat.reduceAdd, Nat.reduceSub, Array.replicate_succ, Array.replicate_zero, List.push_toArray, List.append_toArray, List.nil_append, List.cons_append]
  gi_wp2_with (refine ⟨trivial, ?_⟩; gi_at_call 15; refine (callsIn_wide.2 (blocks_any _ _ _ _)).mono ?_; rintro e' w' ⟨rfl, rfl⟩)
  obtain ⟨X, hX⟩ : ∃ X, ((((((w.alloc (.cells #[.slice none 0 0] 38)).alloc (.cells #[.bool false] 4)).alloc (.cells #[.slice none 0 0] 38)).alloc (.cells #[.int .i64 (b : Int)] 3)).alloc (.cells #[.string (mkS m)] 9)).alloc (.cells #[.string (mkS x)] 9)) = X := ⟨_, rfl⟩
  rw [hX]
  have hsX : X.heap.size = h + 6 := by rw [← hX, ← hh]; simp
  have hMX : MrkAt (h + 3) b m x X := by rw [← hX]; exact mrkAt_new _ _ b m x (by rw [← hh]; simp)
  have hLX : LocIn w h [] X := by
    have hbX : Below w.heap.size w X := by
      rw [← hX]
      exact (((((bel_alloc _ _).alloc (by simp) _).alloc (by simp; omega) _).alloc (by simp; omega) _).alloc (by simp; omega) _).alloc (by simp; omega) _
    rw [hh] at hbX
    refine ⟨hbX, by omega, ?_, ?_, ⟨.slice none 0 0, ?_, World.ownsRow_nil _ _ _ _⟩, by simp⟩
    · rw [← hX, ← hh]; exact (((((Boxed.new w _ _).alloc _).alloc _).alloc _).alloc _).alloc _
    · rw [← hX, ← hh]
      have := Boxed.new (w.alloc (.cells #[.slice none 0 0] 38)) 4 (.bool false)
      rw [World.size_alloc] at this
      exact (((this.alloc _).alloc _).alloc _).alloc _
    · rw [← hX, ← hh]
      have := Boxed.new ((w.alloc (.cells #[.slice none 0 0] 38)).alloc (.cells #[.bool false] 4)) 38 (.slice none 0 0)
      rw [World.size_alloc, World.size_alloc] at this
      exact ((this.alloc _).alloc _).alloc _
  clear hX
  have HX := hid (And.intro hLX hMX)
  have HS := hid hsX
  clear hLX hMX hsX
  obtain ⟨i0, hi, hz0, hz1, hz2⟩ := info_parts Tryd.infoInt
  refine wpIn_rangeW rfl (by decide) (gf := 31) (lb := #[.pointer (some ⟨h + 3 + 2, 0, none⟩), .pointer (some ⟨h + 3, 0, none⟩), .pointer (some ⟨h + 3 + 1, 0, none⟩)]) rfl trivial (enters_of Tryd.func31 (by kernel_rfl) rfl)
    (mrk_seq (h + 3) b m x hb hb2 hm hm2 hx X HX.out.2) MrkK.trans (fun W l o o' hl ho hc hw k h1 h2 => World.putObj_heap_other (by rw [HS.out] at hl; omega)) (Below.refl _ _) (fun _ => rfl) (by rw [HS.out]; omega)
    (LocIn w h) (fun c xs W => c = .ret ∧ LocOut w h xs W) (by rw [HS.out]; exact loc_abides w h) (fun c s W W' row hs hg hr => ⟨hs.1, by rw [HS.out] at hr; exact loco_abides w h s W W' row hs.2 hg hr⟩) HX.out.1
    (fun p => { tmps := #[.int .i64 (b : Int), .string (mkS m), .string (mkS x), undef, undef, undef, .pointer (some ⟨h, 0, none⟩), .pointer (some ⟨h + 1, 0, none⟩), .pointer (some ⟨h + 1 + 1, 0, none⟩), undef, .int .i64 p.2, .int .i64 (b : Int), .string (mkS m), .string (mkS x),
      .func (.func 31) #[] #[.pointer (some ⟨h + 1 + 1 + 1 + 2, 0, none⟩), .pointer (some ⟨h + 1 + 1 + 1, 0, none⟩), .pointer (some ⟨h + 1 + 1 + 1 + 1, 0, none⟩)], .string (mkS p.1), .int .i64 p.2, undef, undef, undef, undef, undef, undef, undef], defers := [] }) ?assign ?body ?done ?stop
  case assign =>
    intro l p W K hK
    gi_wp2
    exact hK
  case body =>
    intro l pre p W hI hSp
    obtain ⟨v, hv, hrow⟩ := hI.out
    have hsz := hI.size
    have hlen := Nat.le_trans (List.IsPrefix.length_le hSp) (blk_len (b := b) hm x.length x (Nat.le_refl _))
    rw [List.length_append] at hlen
    simp at hlen
    obtain ⟨p1, p2⟩ := p
    by_cases h2 : p2 = 2
    · subst h2
      have c6 := hI.r6.cell
      have f6 := hI.r6.frozen
      have b7 := boxed_far hI.r7 (g := h) (by omega) (.slice none 0 0)
      have c7 := b7.cell
      have f7 := b7.frozen
      have HI := hid hI
      clear hI hv hrow b7
      gi_wp2
      have hk := (KeepsOthers.setCell W ⟨h, 0, none⟩ (.slice none 0 0)).trans (KeepsOthers.setCell _ ⟨h + 1, 0, none⟩ (.bool false))
      refine ⟨hk, fun k h1 h2 => (Below.heap_setCell _ _ _ k (by show k ≠ h + 1; omega)).trans (Below.heap_setCell _ _ _ k (by show k ≠ h; omega)), rfl, ?_⟩
      exact ⟨(HI.out.bel.setCell (p := ⟨h, 0, none⟩) (Nat.le_refl _) _).setCell (p := ⟨h + 1, 0, none⟩) (by show h ≤ h + 1; omega) _, by simp only [World.size_setCell]; omega, boxed_far (HI.out.r6.set _) (by omega) _, (boxed_far HI.out.r7 (by omega) _).set _, ⟨_, List.mem_append_right _ (List.mem_singleton.2 rfl), rfl⟩⟩
    · have HP := hid (fun v' w2 tmp h3 h4 => hI.push (p1 := p1) (tmp := tmp) (v' := v') (w2 := w2) h2 hv hrow h3 h4)
      have hc := hv.cell
      clear hI hv
      gi_wp2_with (gi_at_builtin; refine wpListIn_append_own _ rfl _ _ 38 rfl (h + 6) 3 i0 (.int .i64 0) 1 8 Tryd.underlying38 hi hz0 hz1 hz2 rfl (by decide) _ _ _ rfl (hrow.alloc _) ⟨W.heap.size, 0, none⟩ 1 1 [.int .i64 p2] rfl rfl (cell_one_new _ _ _) (by simp [Value.oneCell']) (by unfold maxLen; omega) (by omega) (by simp; omega) ?_; intro v' w2 hown' hgrow _; have HQ := hid (HP.out v' w2 _ hown' hgrow); obtain ⟨g', cap', rfl⟩ := ownsRow_succ hown'; have q1 := HQ.out.c2; have q2 := HQ.out.f2)
      exact ⟨HQ.out.kept, HQ.out.mrk, HQ.out.next⟩
  case done =>
    intro D xs W hD hS hI hK
    dsimp only
    subst hS
    obtain ⟨v, hv, hrow⟩ := hI.out
    obtain ⟨va, vl, vc, rfl⟩ := own_sl hrow
    have hsz := hI.size
    have hc := hv.cell
    have c6 := hI.r6.cell
    have f6 := hI.r6.frozen
    have b7 := boxed_far hI.r7 (g := h) (by omega) (.slice va vl vc)
    have c7 := b7.cell
    have f7 := b7.frozen
    have HI := hid hI
    have hloc : locB b m x = true := by unfold locB; rw [List.all_eq_true]; intro p hp; simpa using hI.no p hp
    have b6 := boxed_far (hI.r6.set (.slice va vl vc)) (g := h + 1) (by omega) (.bool true)
    have B7 := hid (b7.set (.bool true))
    have B6 := hid b6
    have HR := hid (ownsRow_setCell_below (ownsRow_setCell_below hrow (a := ⟨h, 0, none⟩) (by show h < h + 6; omega) (.slice va vl vc)) (a := ⟨h + 1, 0, none⟩) (by show h + 1 < h + 6; omega) (.bool true))
    clear hI hv b7 b6 hrow
    rw [HS.out] at hD
    have HK := hid hK
    clear hK
    gi_wp2
    rw [hloc]
    have hK2 : ((W.setCell ⟨h, 0, none⟩ (.slice va vl vc)).setCell ⟨h + 1, 0, none⟩ (.bool true)).heap[D]? = some (.deferred (some [])) := (Below.heap_setCell _ _ _ D (by show D ≠ h + 1; omega)).trans ((Below.heap_setCell _ _ _ D (by show D ≠ h; omega)).trans HK.out)
    refine ⟨by simp, .inl ⟨_, _, rfl, run_takeDeferred hK2, ?_⟩⟩
    refine ⟨.tuple #[.slice va vl vc, .bool true], ?_, _, rfl, ?_, ?_, ?_⟩
    · have e6 := (boxed_put B6.out (l := D) (by omega) (.deferred none)).cell
      have e7 := (boxed_put B7.out (l := D) (by omega) (.deferred none)).cell
      simp [results, Tryd.f29, go_sem, e6, e7]
    · have hb := (HI.out.bel.setCell (p := ⟨h, 0, none⟩) (Nat.le_refl _) (.slice va vl vc)).setCell (p := ⟨h + 1, 0, none⟩) (by show h ≤ h + 1; omega) (.bool true)
      exact hb.trans ⟨rfl, rfl, rfl, by simp, fun g hg => World.putObj_heap_other (by omega)⟩
    · intro _
      exact own_base (ownsRow_putObj HR.out _ hK2 rfl) (by omega)
    · intro h; cases h
  case stop =>
    intro D c pre W hD hSp hI hK
    obtain ⟨rfl, hO⟩ := hI
    have hloc : locB b m x = false := by
      unfold locB; rw [List.all_eq_false]
      obtain ⟨p, hp, h2⟩ := hO.two
      exact ⟨p, hSp.subset hp, by simp [h2]⟩
    rw [HS.out] at hD
    have c6 := hO.r6.cell
    have c7 := hO.r7.cell
    gi_wp2
    rw [hloc]
    refine ⟨by simp, .inl ⟨_, _, rfl, run_takeDeferred hK, ?_⟩⟩
    refine ⟨.tuple #[.slice none 0 0, .bool false], ?_, _, rfl, ?_, ?_, ?_⟩
    · have e6 := (boxed_put hO.r6 (l := D) (by omega) (.deferred none)).cell
      have e7 := (boxed_put hO.r7 (l := D) (by omega) (.deferred none)).cell
      simp [results, Tryd.f29, go_sem, e6, e7]
    · exact hO.bel.trans ⟨rfl, rfl, rfl, by simp, fun g hg => World.putObj_heap_other (by omega)⟩
    · intro h; cases h
    · intro _; rfl
end Go.Proofs.YtobbinppkjmhhaaDoor
