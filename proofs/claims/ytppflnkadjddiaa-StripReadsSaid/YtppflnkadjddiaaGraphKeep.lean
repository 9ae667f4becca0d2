/-
  slices.BinarySearch at ascending ints; graph.keep: the part of a graph on an ascending set of states.
  No condition beyond at most 1024 edges and 1000 states.
-/
import Derived.Test.YtppflnkadjddiaaRefGraphs
import Derived.Test.YtppflnkadjddiaaGen
namespace Go.Proofs.Ytppflnkadjddiaa
open Go.RowKit Go.Sort
set_option linter.unusedVariables false

/-- How many numbers stand before x. -/
def posOf (x : Int) (l : List Int) : Nat := l.countP (· < x)
theorem bsearch_any (b o cap : Nat) (l : List Int) (x : Int) (w : World) (hl : Sl 1 w (.slice (some ⟨b, o, none⟩) l.length cap) l.length (ints l)) (hn : l.length ≤ 1000) (hs : l.Pairwise (· < ·)) :
    Calls Try.prog 82 #[.slice (some ⟨b, o, none⟩) l.length cap, .int .i64 x] w fun e w' => e = .returned (.tuple #[.int .i64 (posOf x l : Int), .bool (hasB l x)]) ∧ Dr w w' := by
  have h := AnyG.slices_BinarySearch_int Try.bsearch b o l.length cap l x w (Nat.le_refl _) (by omega) (fun j hj => by
    obtain ⟨y, hy⟩ := some_of_lt hj
    obtain ⟨b', o', e, hc⟩ := hl.cell (ints_get hy)
    simp only [Option.some.injEq, Addr.mk.injEq, and_true] at e
    obtain ⟨rfl, rfl⟩ := e
    rw [hc, List.getD_eq_getElem?_getD, hy]; rfl) (by rw [List.take_length]; exact hs.imp (fun h => Int.le_of_lt h))
  rw [List.take_length] at h
  exact h

theorem idxOf_eq (x : Int) : ∀ (i : Nat) (l : List Int), l.Pairwise (· < ·) → idxOf x i l = if hasB l x = true then ((i + posOf x l : Nat) : Int) else -1 := by
  intro i l
  induction l generalizing i with
  | nil => intro _; simp [idxOf, hasB]
  | cons a t ih =>
    intro h
    obtain ⟨ha, ht⟩ := List.pairwise_cons.1 h
    rw [idxOf]
    by_cases hax : a = x
    · subst hax
      have h0 : posOf a t = 0 := by
        rw [posOf, List.countP_eq_zero]
        intro y hy
        have := ha y hy
        simp; omega
      have : posOf a (a :: t) = 0 := by rw [posOf, List.countP_cons, if_neg (by simp)]; exact h0
      rw [if_pos rfl, this]
      simp [hasB]
    · rw [if_neg hax, ih (i + 1) ht]
      have hh : hasB (a :: t) x = hasB t x := by
        have : ¬ x = a := fun e => hax e.symm
        simp [hasB, this]
      rw [hh]
      by_cases hx : hasB t x = true
      · have hm : x ∈ t := by simpa [hasB] using hx
        have hlt := ha x hm
        rw [if_pos hx, if_pos hx]
        have : posOf x (a :: t) = posOf x t + 1 := by rw [posOf, posOf, List.countP_cons]; simp [hlt]
        rw [this]; congr 1; omega
      · rw [if_neg hx, if_neg hx]
theorem part1_eq {st : List Int} (hs : st.Pairwise (· < ·)) (x : Edge) : part1 st x = if hasB st x.f = true ∧ hasB st x.t = true then some ⟨(posOf x.f st : Nat), x.l, (posOf x.t st : Nat)⟩ else none := by
  rw [part1, idxOf_eq x.f 0 st hs, idxOf_eq x.t 0 st hs]
  by_cases h1 : hasB st x.f = true
  · by_cases h2 : hasB st x.t = true
    · rw [if_pos h1, if_pos h2, if_pos (show 0 ≤ ((0 + posOf x.f st : Nat) : Int) ∧ 0 ≤ ((0 + posOf x.t st : Nat) : Int) from ⟨by omega, by omega⟩), if_pos (show hasB st x.f = true ∧ hasB st x.t = true from ⟨h1, h2⟩), Nat.zero_add, Nat.zero_add]
    · rw [if_neg h2, if_neg (by rintro ⟨_, h⟩; omega), if_neg (fun h => h2 h.2)]
  · rw [if_neg h1, if_neg (by rintro ⟨h, _⟩; omega), if_neg (fun h => h1 h.1)]

set_option maxRecDepth 100000 in
set_option maxHeartbeats 2000000 in
theorem keep_any (L S : Int) (v : Value) (es : List Edge) (st : List Int) (b2 o2 cap2 : Nat) (w : World) (hl : Sl 3 w v es.length (ecells es)) (hs : Sl 1 w (.slice (some ⟨b2, o2, none⟩) st.length cap2) st.length (ints st)) (hn : es.length ≤ 1024) (hm : st.length ≤ 1000) (ha : st.Pairwise (· < ·)) :
    Calls Try.prog 85 #[.agg #[.int .i64 L, .int .i64 S, v], .slice (some ⟨b2, o2, none⟩) st.length cap2] w fun e w' => ∃ u, e = .returned (.agg #[.int .i64 L, .int .i64 (st.length : Int), u]) ∧ w'.ownsRow w.heap.size 64 3 u (partE st es).length (ecells (partE st es)) ∧ Below w.heap.size w w' := by
  obtain ⟨ao, cap, rfl, _, hc1, hm1, _⟩ := id hl
  have HL := hid hl
  have HS := hid hs
  have HP1 := hid (part1_eq ha)
  have HBS := hid (fun x w h => bsearch_any b2 o2 cap2 st x w h hm ha)
  clear hl hs
  go_enter Try.func85, Try.ntmps85
  go_upto_region 2 with fail
  obtain ⟨w0, hw0⟩ : ∃ w0, (w.alloc (.cells #[.int .i64 L, .int .i64 S, .slice ao es.length cap] 55)).alloc (.cells #[.int .i64 0, .int .i64 0, .slice none 0 0] 55) = w0 := ⟨_, rfl⟩
  have hsz : w.heap.size + 1 + 1 = w0.heap.size := by rw [← hw0]; simp
  have hb0 : Below w.heap.size w w0 := by rw [← hw0]; exact ((Below.refl _ _).alloc (Nat.le_refl _) _).alloc (by simp) _
  have c2 : w0.cell? ⟨w.heap.size, 2, none⟩ = some (.slice ao es.length cap) := by rw [← hw0]; simp
  have r0 : w0.cell? ⟨w.heap.size + 1, 0, none⟩ = some (.int .i64 0) := by rw [← hw0]; simp
  have r1 : w0.cell? ⟨w.heap.size + 1, 1, none⟩ = some (.int .i64 0) := by rw [← hw0]; simp
  have r2 : w0.cell? ⟨w.heap.size + 1, 2, none⟩ = some (.slice none 0 0) := by rw [← hw0]; simp
  have rf : ∀ j, w0.frozen? ⟨w.heap.size + 1, j, none⟩ = false := by
    intro j
    rw [← hw0, show (⟨w.heap.size + 1, j, none⟩ : Addr) = ⟨(w.alloc (.cells #[.int .i64 L, .int .i64 S, .slice ao es.length cap] 55)).heap.size, j, none⟩ by rw [World.size_alloc]]
    exact frozen_laid (Below.refl _ _) j
  have HR := hid (And.intro r0 (And.intro r1 (And.intro r2 rf)))
  have HC2 := hid c2
  have HB0 := hid hb0
  have HL0 := hid (HL.out.below hb0)
  have HS0 := hid (HS.out.below hb0)
  rw [hw0, hsz]
  clear hw0 hb0 c2 r0 r1 r2 rf HL HS
  have hO : OutG w0 w0.heap.size L st.length (partE st (es.take 0)) (w0.alloc (.cells #[.int .i64 L, .int .i64 st.length, .slice none 0 0] 55)) := by
    refine ⟨(Below.refl _ _).alloc (Nat.le_refl _) _, Nat.le_refl _, by simp, by simp, by simp, ⟨.slice none 0 0, by simp, World.ownsRow_nil _ _ _ _⟩, frozen_laid (Below.refl _ _) 2⟩
  obtain ⟨w1, hw1⟩ : ∃ w1, w0.alloc (.cells #[.int .i64 L, .int .i64 st.length, .slice none 0 0] 55) = w1 := ⟨_, rfl⟩
  have HO1 := hid hO
  have hlt1 : w.heap.size < (w0.alloc (.cells #[.int .i64 L, .int .i64 st.length, .slice none 0 0] 55)).heap.size := by simp; omega
  have e2 := keeps hO.bel HC2.out
  clear hO
  rw [hw1] at HO1 hlt1 e2 ⊢
  clear hw1
  go_wp2_with fail
  go_loopw [20] (fun i wr => ∃ k : Nat, k ≤ es.length ∧ i = .int .i64 k ∧ OutG w0 w0.heap.size L st.length (partE st (es.take k)) wr) (fun i _ => es.length - (intOf i).toNat)
  case atStart => exact ⟨0, by omega, rfl, HO1.out⟩
  case round =>
    obtain ⟨k, hk, rfl, hO⟩ := hrel
    have HO := hid hO
    clear hO
    by_cases hlt : k < es.length
    · obtain ⟨x, hx⟩ := some_of_lt hlt
      obtain ⟨b, o, rfl, e0, e1, e2'⟩ := (HL0.out.below HO.out.bel).edge hx
      have HX := hid hx
      clear hx
      go_upto_region 5 with fail
      obtain ⟨wx, hwx⟩ : ∃ wx, wr.alloc (.cells #[.int .i64 x.f, .int .i64 x.l, .int .i64 x.t] 64) = wx := ⟨_, rfl⟩
      have hbx : Below wr.heap.size wr wx := by rw [← hwx]; exact (Below.refl _ _).alloc (Nat.le_refl _) _
      have x0 : wx.cell? ⟨wr.heap.size, 0, none⟩ = some (.int .i64 x.f) := by rw [← hwx]; simp
      have x1 : wx.cell? ⟨wr.heap.size, 1, none⟩ = some (.int .i64 x.l) := by rw [← hwx]; simp
      have x2 : wx.cell? ⟨wr.heap.size, 2, none⟩ = some (.int .i64 x.t) := by rw [← hwx]; simp
      have HSx := hid ((HS0.out.below HO.out.bel).below hbx)
      have HOx := hid (HO.out.keep hbx)
      rw [hwx]
      clear hwx hbx e0 e1 e2' HO e2 hlt1
      have HP := hid (HP1.out x)
      go_upto_region 7 with (go_at_call 82; refine (HBS.out _ _ (by first | exact HSx.out | exact HSx.out.dr hD1)).mono ?_; rintro e w5 ⟨rfl, hD1⟩; obtain ⟨n1, rfl⟩ := id hD1)
      clear hD1
      generalize hwy : wx.drewN (_ + _) = wy
      have y1 : wy.cell? ⟨wr.heap.size, 1, none⟩ = some (.int .i64 x.l) := by rw [← hwy]; exact x1
      have HOy := hid (show OutG w0 w0.heap.size L st.length (partE st (es.take k)) wy by rw [← hwy]; exact HOx.out.keep (below_drewN (Below.refl _ _) _))
      clear hwy x0 x1 x2 HOx HSx
      have hlen := partE_len st (es.take k)
      rw [List.length_take] at hlen
      cases hf : hasB st x.f
      · have HN := hid (partE_no HX.out (HP.out.trans (if_neg (by rw [hf]; rintro ⟨h, _⟩; cases h))))
        clear hf
        go_wp2
        go_roundw
        case rel => exact ⟨k + 1, by omega, by go_num, by rw [HN.out]; exact HOy.out⟩
        case measure => simp [intOf]; omega
      · cases ht : hasB st x.t
        · have HN := hid (partE_no HX.out (HP.out.trans (if_neg (by rw [ht]; rintro ⟨_, h⟩; cases h))))
          clear hf ht
          go_wp2
          go_roundw
          case rel => exact ⟨k + 1, by omega, by go_num, by rw [HN.out]; exact HOy.out⟩
          case measure => simp [intOf]; omega
        · have HY := hid (partE_yes HX.out (HP.out.trans (if_pos ⟨hf, ht⟩)))
          clear hf ht
          generalize hPk : partE st (es.take k) = Pk at *
          generalize posOf x.f st = F at *
          generalize posOf x.t st = T at *
          obtain ⟨u, hu, hrow⟩ := HOy.out.row
          have f2 := HOy.out.f2
          have hhi := HOy.out.hi
          go_wp2_with (at_builtin; refine wpList_push _ rfl _ _ 53 rfl (w0.heap.size + 1) 64 (.agg #[.int .i64 0, .int .i64 0, .int .i64 0]) 3 24 Try.underlying53 Try.infoEdge rfl (by decide) _ _ _ rfl hrow #[.int .i64 (F : Int), .int .i64 x.l, .int .i64 (T : Int)] rfl (by simp [Value.oneCell']) rfl (by unfold maxLen; omega) (by omega) (by omega) ?_; intro g3 gc3 w3 hown3 hg3 hb3; have k2 := (hb3.cell (p := ⟨w0.heap.size, 2, none⟩) (Nat.lt_succ_self _)).trans hu; have kf := (hb3.frozen (p := ⟨w0.heap.size, 2, none⟩) (Nat.lt_succ_self _)).trans f2)
          go_roundw
          case rel => exact ⟨k + 1, by omega, by go_num, by rw [HY.out]; exact HOy.out.push hb3 (by rw [ecells_snoc, List.length_append]; exact hown3)⟩
          case measure => simp [intOf]; omega
    · have e : partE st (es.take k) = partE st es := by rw [take_all (by omega)]
      rw [e] at HO
      obtain ⟨u, hu, hrow⟩ := HO.out.row
      have k0 := HO.out.c0
      have k1 := HO.out.c1
      obtain ⟨r0, r1, r2, rf⟩ := HR.out
      have q0 := keeps HO.out.bel r0
      have q1 := keeps HO.out.bel r1
      have q2 := keeps HO.out.bel r2
      have f0 := keeps_frozen HO.out.bel r0 (rf 0)
      have f1 := keeps_frozen HO.out.bel r1 (rf 1)
      have f2 := keeps_frozen HO.out.bel r2 (rf 2)
      have hne : ¬ w.heap.size + 1 = w0.heap.size := by omega
      have HBw := hid (HB0.out.trans (HO.out.bel.mono HB0.out.size))
      clear r0 r1 r2 rf HR
      obtain ⟨aw, cw, rfl⟩ := own_slice hrow
      go_wp2
      refine bodyPost_ret (v := .agg #[.int .i64 L, .int .i64 (st.length : Int), .slice aw (partE st es).length cw]) ?_ rfl ⟨_, rfl, ?_, ?_⟩
      · simp [results, Try.results85, go_sem, q0, q1, q2]
      · exact own_base (ownsRow_setCell_below (ownsRow_setCell_below (ownsRow_setCell_below hrow (by show w.heap.size + 1 < w0.heap.size + 1; omega) _) (by show w.heap.size + 1 < w0.heap.size + 1; omega) _) (by show w.heap.size + 1 < w0.heap.size + 1; omega) _) (by omega)
      · exact ((HBw.out.setCell (p := ⟨w.heap.size + 1, 0, none⟩) (by show w.heap.size ≤ w.heap.size + 1; omega) _).setCell (p := ⟨w.heap.size + 1, 1, none⟩) (by show w.heap.size ≤ w.heap.size + 1; omega) _).setCell (p := ⟨w.heap.size + 1, 2, none⟩) (by show w.heap.size ≤ w.heap.size + 1; omega) _
end Go.Proofs.Ytppflnkadjddiaa
