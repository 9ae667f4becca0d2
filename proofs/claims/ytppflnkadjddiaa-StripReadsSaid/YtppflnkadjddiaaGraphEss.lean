/-
  graph.Essential at a valid graph.
  No condition beyond the graph being valid, with a state.
-/
import Derived.Test.YtppflnkadjddiaaEssMaps
import Derived.Test.YtppflnkadjddiaaRefEss
namespace Go.Proofs.Ytppflnkadjddiaa
open Go.RowKit Go.Sort
set_option linter.unusedVariables false

/-- What the maps say behind some edges: which numbers an edge inside leads to, or leaves. -/
def inside (st : List Int) (x : Edge) : Bool := hasB st x.f && hasB st x.t
def enterB (es : List Edge) (st : List Int) (s : Int) : Bool := es.any (fun x => inside st x && decide (s = x.t))
def leaveB (es : List Edge) (st : List Int) (s : Int) : Bool := es.any (fun x => inside st x && decide (s = x.f))
theorem enterB_yes {es : List Edge} {st : List Int} {n : Nat} {x : Edge} (hx : es[n]? = some x) (hi : inside st x = true) (s : Int) : enterB (es.take (n + 1)) st s = (decide (s = x.t) || enterB (es.take n) st s) := by
  rw [enterB, any_snoc _ hx, hi, Bool.true_and, Bool.or_comm]; rfl
theorem enterB_no {es : List Edge} {st : List Int} {n : Nat} {x : Edge} (hx : es[n]? = some x) (hi : inside st x = false) : enterB (es.take (n + 1)) st = enterB (es.take n) st := by
  funext s
  rw [enterB, any_snoc _ hx, hi, Bool.false_and, Bool.or_false]; rfl
theorem leaveB_yes {es : List Edge} {st : List Int} {n : Nat} {x : Edge} (hx : es[n]? = some x) (hi : inside st x = true) (s : Int) : leaveB (es.take (n + 1)) st s = (decide (s = x.f) || leaveB (es.take n) st s) := by
  rw [leaveB, any_snoc _ hx, hi, Bool.true_and, Bool.or_comm]; rfl
theorem leaveB_no {es : List Edge} {st : List Int} {n : Nat} {x : Edge} (hx : es[n]? = some x) (hi : inside st x = false) : leaveB (es.take (n + 1)) st = leaveB (es.take n) st := by
  funext s
  rw [leaveB, any_snoc _ hx, hi, Bool.false_and, Bool.or_false]; rfl
theorem rnd_maps (es : List Edge) (st : List Int) : st.filter (fun s => enterB es st s && leaveB es st s) = rnd es st := by
  refine List.filter_congr fun s hs => ?_
  have hm : hasB st s = true := by simpa [hasB] using hs
  have h1 : enterB es st s = inB es st s := by
    unfold enterB inB
    congr 1
    funext x
    unfold inside
    by_cases e : s = x.t
    · subst e; simp [hm]
    · have e' : ¬ x.t = s := fun h => e h.symm
      simp [e, e']
  have h2 : leaveB es st s = outB es st s := by
    unfold leaveB outB
    congr 1
    funext x
    unfold inside
    by_cases e : s = x.f
    · subst e; simp [hm]
    · have e' : ¬ x.f = s := fun h => e h.symm
      simp [e, e']
  rw [h1, h2]; rfl
theorem BM.congr {w : World} {b n : Nat} {f g : Int → Bool} (h : BM w b n f) (e : ∀ s, f s = g s) : BM w b n g := by
  obtain ⟨D, hD, hf⟩ := h
  exact ⟨D, hD, fun s => by rw [← e s]; exact hf s⟩
theorem BM.more {w : World} {b n m : Nat} {f : Int → Bool} (h : BM w b n f) (e : n ≤ m) : BM w b m f := by
  obtain ⟨D, hD, hf⟩ := h
  exact ⟨D, hD.mono e, hf⟩
/-- The two maps and the cells that hold them, behind the world W. -/
structure MapW (W : World) (n : Nat) (f g : Int → Bool) (wi : World) : Prop where
  bel : RowKit.Below W.heap.size W wi
  hi : W.heap.size + 4 ≤ wi.heap.size
  m1 : BM wi W.heap.size n f
  m2 : BM wi (W.heap.size + 1) n g
  p1 : wi.cell? ⟨W.heap.size + 2, 0, none⟩ = some (.map (some W.heap.size))
  p2 : wi.cell? ⟨W.heap.size + 3, 0, none⟩ = some (.map (some (W.heap.size + 1)))
theorem MapW.keep {W wi w' : World} {n : Nat} {f g : Int → Bool} (h : MapW W n f g wi) (hb : RowKit.Below wi.heap.size wi w') : MapW W n f g w' :=
  ⟨h.bel.trans (hb.mono h.bel.size), Nat.le_trans h.hi hb.size, h.m1.kept hb h.m1.lt, h.m2.kept hb h.m2.lt, keeps hb h.p1, keeps hb h.p2⟩
theorem MapW.start (W : World) (e : TypeId) : MapW W 0 (fun _ => false) (fun _ => false) ((((W.alloc (.map #[] 0)).alloc (.map #[] 0)).alloc (.cells #[.map (some W.heap.size)] e)).alloc (.cells #[.map (some (W.heap.size + 1))] e)) := by
  have a1 : RowKit.Below (W.heap.size + 1) (W.alloc (.map #[] 0)) ((((W.alloc (.map #[] 0)).alloc (.map #[] 0)).alloc (.cells #[.map (some W.heap.size)] e)).alloc (.cells #[.map (some (W.heap.size + 1))] e)) := (((Below.refl _ _).alloc (by simp) _).alloc (by simp) _).alloc (by simp) _
  have a2 : RowKit.Below (W.heap.size + 2) ((W.alloc (.map #[] 0)).alloc (.map #[] 0)) ((((W.alloc (.map #[] 0)).alloc (.map #[] 0)).alloc (.cells #[.map (some W.heap.size)] e)).alloc (.cells #[.map (some (W.heap.size + 1))] e)) := ((Below.refl _ _).alloc (by simp) _).alloc (by simp) _
  have b1 := (BM.made W).kept a1 (Nat.lt_succ_self _)
  have b2 := (BM.made (W.alloc (.map #[] 0))).kept a2 (by simp)
  rw [World.size_alloc] at b2
  refine ⟨((Below.refl _ _).alloc (Nat.le_refl _) _).trans (a1.mono (by omega)), by simp, b1, b2, ?_, ?_⟩
  · have := cell_laid (w := (W.alloc (.map #[] 0)).alloc (.map #[] 0)) (cs := #[.map (some W.heap.size)]) (e := e) ((Below.refl _ _).alloc (by simp) (.cells #[.map (some (W.heap.size + 1))] e)) 0 (v := .map (some W.heap.size)) rfl
    rw [World.size_alloc, World.size_alloc] at this
    exact this
  · have := cell_laid (w := ((W.alloc (.map #[] 0)).alloc (.map #[] 0)).alloc (.cells #[.map (some W.heap.size)] e)) (cs := #[.map (some (W.heap.size + 1))]) (e := e) (Below.refl _ _) 0 (v := .map (some (W.heap.size + 1))) rfl
    rw [World.size_alloc, World.size_alloc, World.size_alloc] at this
    exact this

theorem MapW.more {W wi : World} {n : Nat} {f g : Int → Bool} (h : MapW W n f g wi) : MapW W (n + 1) f g wi :=
  ⟨h.bel, h.hi, h.m1.more (Nat.le_succ n), h.m2.more (Nat.le_succ n), h.p1, h.p2⟩
/-- Both stores, behind the region's draw. -/
theorem MapW.two {W wi : World} {n : Nat} {f g : Int → Bool} (h : MapW W n f g wi) (hn : n < 100000) (s t : Int) (s0 : 0 ≤ s) (s1 : s ≤ 1000) (t0 : 0 ≤ t) (t1 : t ≤ 1000) :
    ∃ w6 w7, (Instr.mapUpdate 118 (.map (some W.heap.size)) (.int .i64 s) (.bool true)).run Try.prog wi.drew = .ok () w6 ∧ (Instr.mapUpdate 118 (.map (some (W.heap.size + 1))) (.int .i64 t) (.bool true)).run Try.prog w6 = .ok () w7 ∧
      (∀ (b j : Nat) (v : Value), b ≠ W.heap.size → wi.cell? ⟨b, j, none⟩ = some v → w6.cell? ⟨b, j, none⟩ = some v) ∧ MapW W (n + 1) (fun x => decide (x = s) || f x) (fun x => decide (x = t) || g x) w7 := by
  have h1 := h.keep (below_drewN (Below.refl wi.heap.size wi) 1)
  have hd : wi.drewN 1 = wi.drew := rfl
  rw [hd] at h1
  obtain ⟨w6, r6, m6, g6⟩ := h1.m1.store hn s s0 s1
  have n6 : BM w6 (W.heap.size + 1) n g := h1.m2.same (g6.block _ h1.m2.lt (by simp))
  obtain ⟨w7, r7, m7, g7⟩ := n6.store hn t t0 t1
  have m8 : BM w7 W.heap.size (n + 1) (fun x => decide (x = s) || f x) := m6.same (g7.block _ m6.lt (by simp))
  have hb6 : RowKit.Below W.heap.size W w6 := h1.bel.grown g6 h1.bel.size (by simp)
  have hb7 : RowKit.Below W.heap.size W w7 := hb6.grown g7 hb6.size (by simp)
  have k : ∀ (j : Nat) (v : Value), 2 ≤ j → wi.drew.cell? ⟨W.heap.size + j, 0, none⟩ = some v → w7.cell? ⟨W.heap.size + j, 0, none⟩ = some v := fun j v hj hc => by
    have l1 := World.block_lt_of_cell? _ _ hc
    have e6 : w6.cell? ⟨W.heap.size + j, 0, none⟩ = some v := (World.cell?_of_block (g6.block _ l1 (by simp; omega))).trans hc
    have l2 := World.block_lt_of_cell? _ _ e6
    exact (World.cell?_of_block (g7.block _ l2 (by simp; omega))).trans e6
  exact ⟨w6, w7, r6, r7, fun b j v hne hc => (World.cell?_of_block (w := wi.drew) (g6.block _ (World.block_lt_of_cell? _ _ hc) (by simpa using hne))).trans hc, hb7, Nat.le_trans h1.hi (Nat.le_trans g6.size g7.size), m8, m7, k 2 _ (by omega) h1.p1, k 3 _ (by omega) h1.p2⟩
theorem upTo_mem {n : Nat} {s : Int} (h : s ∈ upTo n) : 0 ≤ s ∧ s < n := by
  obtain ⟨k, hk, rfl⟩ := List.mem_map.1 h
  have := List.mem_range.1 hk
  omega
/-- The states' row, as it goes through the rounds. -/
structure StW (w : World) (b o cap : Nat) (st : List Int) (wr : World) : Prop where
  lo : w.heap.size + 2 ≤ b
  hi : b < wr.heap.size
  le : st.length ≤ cap
  cap : cap ≤ 9223372036854775807
  row : StRow wr b o st
  asc : st.Pairwise (· < ·)
  mem : ∀ s ∈ st, 0 ≤ s ∧ s ≤ 1000
  len : st.length ≤ 64
theorem StW.sl {w wr : World} {b o cap : Nat} {st : List Int} (h : StW w b o cap st wr) : Sl 1 wr (.slice (some ⟨b, o, none⟩) st.length cap) st.length (ints st) := by
  refine ⟨_, cap, rfl, by simp [ints], h.le, h.cap, .inr ⟨b, o, rfl, fun j x hj => ?_⟩⟩
  rw [ints, List.getElem?_map] at hj
  obtain ⟨s, hs, rfl⟩ := Option.map_eq_some_iff.1 hj
  exact (h.row j s hs).1
theorem StW.keep {w wr w' : World} {b o cap : Nat} {st : List Int} (h : StW w b o cap st wr) {B : Nat} (hb : Below B wr w') (hB : b < B) : StW w b o cap st w' :=
  ⟨h.lo, Nat.lt_of_lt_of_le h.hi hb.size, h.le, h.cap, fun j s hs => ⟨(hb.cell (p := ⟨b, o + j, none⟩) hB).trans (h.row j s hs).1, (hb.frozen (p := ⟨b, o + j, none⟩) hB).trans (h.row j s hs).2⟩, h.asc, h.mem, h.len⟩
theorem StW.range {w wr : World} {b o cap : Nat} {st : List Int} (h : StW w b o cap st wr) : ∀ s ∈ st, 0 ≤ s ∧ s ≤ 1000 := h.mem
/-- Behind DeleteFunc. -/
theorem StW.turn {w wr w' : World} {b o cap : Nat} {st sf : List Int} (h : StW w b o cap st wr) (hs : sf.Sublist st) (hr : StRow w' b o sf) (hb : Below b wr w') : StW w b o cap sf w' :=
  ⟨h.lo, Nat.lt_of_lt_of_le h.hi hb.size, Nat.le_trans hs.length_le h.le, h.cap, hr, h.asc.sublist hs, fun s hm => h.mem s (hs.subset hm), Nat.le_trans hs.length_le h.len⟩
theorem StW.start {w wr : World} {u : Value} {N : Nat} (h1 : 1 ≤ N) (h64 : N ≤ 64) (h : wr.ownsRow (w.heap.size + 2) 3 1 u N (ints (upTo N))) : ∃ b cap, u = .slice (some ⟨b, 0, none⟩) N cap ∧ StW w b 0 cap (upTo N) wr := by
  rcases h.2 with ⟨_, h0⟩ | ⟨g, cap, cur, hv, hg, hh, hn, hc, hs, ht⟩
  · omega
  · refine ⟨g, cap, hv, hg, (Array.getElem?_eq_some_iff.1 hh).1, by rw [upTo_len]; exact hn, by simpa [maxLen] using hc, fun j s hj => ⟨?_, ?_⟩, upTo_asc N, fun s hs => by have := upTo_mem hs; omega, by rw [upTo_len]; exact h64⟩
    · subst hv
      have hS := Sl.of_owns h
      obtain ⟨b', o', e, hc'⟩ := hS.cell (ints_get hj)
      simp only [Option.some.injEq, Addr.mk.injEq, and_true] at e
      obtain ⟨rfl, rfl⟩ := e
      exact hc'
    · simp [World.frozen?, hh]

set_option maxRecDepth 100000 in
set_option maxHeartbeats 4000000 in
theorem graphEss_any (L S : Int) (v : Value) (es : List Edge) (w : World) (hF : GFine L S es) (hS1 : 1 ≤ S) (hl : Sl 3 w v es.length (ecells es)) :
    Calls Try.prog 54 #[.agg #[.int .i64 L, .int .i64 S, v]] w fun e w' => ∃ u v2, e = .returned (.tuple #[.agg #[.int .i64 L, .int .i64 ((ess es (upTo S.toNat)).length : Int), u], v2, .int .i64 0]) ∧
      w'.ownsRow w.heap.size 64 3 u (partE (ess es (upTo S.toNat)) es).length (ecells (partE (ess es (upTo S.toNat)) es)) ∧ Below w.heap.size w w' := by
  obtain ⟨N, hN⟩ : ∃ N : Nat, S = (N : Int) := ⟨S.toNat, by have := hF.s0; omega⟩
  subst hN
  rw [Int.toNat_natCast]
  have hN64 : N ≤ 64 := by have := hF.s1; omega
  have hn := hF.len
  obtain ⟨ao, cap, rfl, _, hc1, hm1, _⟩ := id hl
  have HL := hid hl
  have HC := hid (gcheck_any L (N : Int) (.slice ao es.length cap) es)
  have HF := hid hF
  clear hl hF
  go_enter Try.func54, Try.ntmps54
  go_upto_region 1 with fail
  obtain ⟨w0, hw0⟩ : ∃ w0, (w.alloc (.cells #[.int .i64 L, .int .i64 (N : Int), .slice ao es.length cap] 55)).alloc (.cells #[.int .i64 0, .int .i64 0, .slice none 0 0] 55) = w0 := ⟨_, rfl⟩
  have hE : EssW w L (N : Int) ao es.length cap es w0 := by
    have hb : Below w.heap.size w w0 := by rw [← hw0]; exact ((Below.refl _ _).alloc (Nat.le_refl _) _).alloc (by simp) _
    refine ⟨hb, by rw [← hw0]; simp, by rw [← hw0]; simp, by rw [← hw0]; simp, by rw [← hw0]; simp, by rw [← hw0]; simp, by rw [← hw0]; simp, by rw [← hw0]; simp, ?_⟩
    intro j _
    rw [← hw0, show (⟨w.heap.size + 1, j, none⟩ : Addr) = ⟨(w.alloc (.cells #[.int .i64 L, .int .i64 (N : Int), .slice ao es.length cap] 55)).heap.size, j, none⟩ by rw [World.size_alloc]]
    exact frozen_laid (Below.refl _ _) j
  have HE := hid hE
  rw [hw0]
  have c0 := hE.c0
  have c1 := hE.c1
  have c2 := hE.c2
  clear hw0 hE
  go_upto_region 3 with (go_at_call 36; refine (HC.out _ HF.out (HL.out.below HE.out.bel)).mono ?_; rintro e w1 ⟨rfl, hb⟩; have c1 := keeps hb c1)
  have HE1 := hid (HE.out.on hb)
  clear hb c0 c1 c2 HE
  have c1 := HE1.out.c1
  go_wp2_with fail
  clear c1
  go_loopw [5, 22] (fun u i wr => ∃ k : Nat, k ≤ N ∧ i = .int .i64 k ∧ wr.ownsRow (w.heap.size + 2) 3 1 u k (ints (upTo k)) ∧ EssW w L (N : Int) ao es.length cap es wr) (fun _ i _ => N - (intOf i).toNat)
  case atStart => exact ⟨0, by omega, rfl, World.ownsRow_nil _ _ _ _, HE1.out⟩
  case round =>
    obtain ⟨k, hk, rfl, hown, hE⟩ := hrel
    have HE := hid hE
    have hhi := hE.hi
    clear hE
    by_cases hlt : k < N
    · go_wp2_with (at_builtin; refine wpList_push _ rfl _ _ 24 rfl (w.heap.size + 2) 3 (.int .i64 0) 1 8 Try.underlying24 Try.info3 rfl (by decide) _ _ _ rfl hown #[.int .i64 (k : Int)] rfl (oneCell_int _ _) rfl (by unfold maxLen; omega) (by omega) hhi ?_; intro g gc w2 hown2 hg2 hb2)
      go_roundw
      case rel => exact ⟨k + 1, by omega, by go_num, by rw [upTo_succ, ints_snoc]; exact hown2, HE.out.keep (Nat.le_refl _) hb2⟩
      case measure => simp [intOf]; omega
    · obtain rfl : k = N := by omega
      obtain ⟨bs, caps, rfl, hSt⟩ := StW.start (by omega) hN64 hown
      clear hown
      have HSt := hid hSt
      have hlen0 := upTo_len k
      clear hSt
      generalize hst0 : upTo k = st0 at *
      have HST := hid hst0
      clear hst0
      rw [← hlen0]
      go_wp2_with fail
      go_loopw [5] (fun u wr => ∃ st : List Int, ∃ b o cap5 : Nat, u = .slice (some ⟨b, o, none⟩) st.length cap5 ∧ StW w b o cap5 st wr ∧ EssW w L (k : Int) ao es.length cap es wr ∧ Hid (ess es st0 = ess es st)) (fun u _ => lenOf u)
      case atStart => exact ⟨st0, bs, 0, caps, rfl, HSt.out, HE.out, hid rfl⟩
      case round =>
        obtain ⟨st, b, o, cap5, rfl, hSt, hE, HQ⟩ := hrel
        clear HE HSt hlt hk hhi c1 hlen0
        have hhi := hE.hi
        have c2 := hE.c2
        have hmk : ∀ w, (Instr.makeMap 118 none).run Try.prog w = .ok (.map (some w.heap.size)) (w.alloc (.map #[] 0)) := fun w => rfl
        go_upto_region 10 with fail
        obtain ⟨Wr, hWr⟩ : ∃ W : World, W = wr := ⟨_, rfl⟩
        have hM := MapW.start wr 118
        rw [← hWr] at hSt hE hhi c2 hM ⊢
        clear hWr
        have HE := hid hE
        have HSt := hid hSt
        clear hE hSt
        obtain ⟨w5, hw5⟩ : ∃ w5, (((Wr.alloc (.map #[] 0)).alloc (.map #[] 0)).alloc (.cells #[.map (some Wr.heap.size)] 118)).alloc (.cells #[.map (some (Wr.heap.size + 1))] 118) = w5 := ⟨_, rfl⟩
        rw [hw5] at hM ⊢
        have c2' := keeps hM.bel c2
        have HM := hid hM
        clear hw5 hM c2 hmk
        go_wp2_with fail
        clear c2'
        go_loopw [35] (fun i wi => ∃ n : Nat, n ≤ es.length ∧ i = .int .i64 n ∧ MapW Wr n (enterB (es.take n) st) (leaveB (es.take n) st) wi) (fun i _ => es.length - (intOf i).toNat)
        case atStart => exact ⟨0, by omega, rfl, HM.out⟩
        case round =>
          obtain ⟨n, hn2, rfl, hM⟩ := hrel
          have HMn := hid hM
          clear hM HM
          by_cases hlt : n < es.length
          · obtain ⟨x, hx⟩ := some_of_lt hlt
            obtain ⟨be, oe, rfl, e0, e1, e2⟩ := (HL.out.below (HE.out.on HMn.out.bel).bel).edge hx
            obtain ⟨xf0, xf1, xt0, xt1, _, _⟩ := HF.out.mem x (List.mem_of_getElem? hx)
            have HX := hid hx
            clear hx
            go_upto_region 13 with fail
            obtain ⟨wx, hwx⟩ : ∃ wx, wr.alloc (.cells #[.int .i64 x.f, .int .i64 x.l, .int .i64 x.t] 64) = wx := ⟨_, rfl⟩
            have hbx : Below wr.heap.size wr wx := by rw [← hwx]; exact (Below.refl _ _).alloc (Nat.le_refl _) _
            have x0 : wx.cell? ⟨wr.heap.size, 0, none⟩ = some (.int .i64 x.f) := by rw [← hwx]; simp
            have x2 : wx.cell? ⟨wr.heap.size, 2, none⟩ = some (.int .i64 x.t) := by rw [← hwx]; simp
            have HSx := hid ((HSt.out.keep HMn.out.bel HSt.out.hi).sl.below hbx)
            have HMx := hid (HMn.out.keep hbx)
            have HBS := hid (fun x w h => bsearch_any b o cap5 st x w h (by have := HSt.out.len; omega) HSt.out.asc)
            have hwr := HMn.out.hi
            rw [hwx]
            clear hwx hbx e0 e1 e2 HMn
            go_upto_region 15 with (go_at_call 82; refine (HBS.out _ _ (by first | exact HSx.out | exact HSx.out.dr hD1)).mono ?_; rintro e w5 ⟨rfl, hD1⟩; obtain ⟨n1, rfl⟩ := id hD1)
            clear hD1
            generalize hwy : wx.drewN (_ + _) = wy
            have y0 : wy.cell? ⟨wr.heap.size, 0, none⟩ = some (.int .i64 x.f) := by rw [← hwy]; exact x0
            have y2 : wy.cell? ⟨wr.heap.size, 2, none⟩ = some (.int .i64 x.t) := by rw [← hwy]; exact x2
            have HMy := hid (show MapW Wr n (enterB (es.take n) st) (leaveB (es.take n) st) wy by rw [← hwy]; exact HMx.out.keep (below_drewN (Below.refl _ _) _))
            clear hwy x0 x2 HMx HSx HBS
            have hnb := hn
            cases hf : hasB st x.f
            · have hi : inside st x = false := by simp [inside, hf]
              have HN := hid (show MapW Wr (n + 1) (enterB (es.take (n + 1)) st) (leaveB (es.take (n + 1)) st) wy by rw [enterB_no HX.out hi, leaveB_no HX.out hi]; exact HMy.out.more)
              clear hf hi
              go_wp2
              go_roundw
              case rel => exact ⟨n + 1, by omega, by go_num, HN.out⟩
              case measure => simp [intOf]; omega
            · cases ht : hasB st x.t
              · have hi : inside st x = false := by simp [inside, ht]
                have HN := hid (show MapW Wr (n + 1) (enterB (es.take (n + 1)) st) (leaveB (es.take (n + 1)) st) wy by rw [enterB_no HX.out hi, leaveB_no HX.out hi]; exact HMy.out.more)
                clear hf ht hi
                go_wp2
                go_roundw
                case rel => exact ⟨n + 1, by omega, by go_num, HN.out⟩
                case measure => simp [intOf]; omega
              · have hi : inside st x = true := by simp [inside, ht, hf]
                obtain ⟨w6, w7, r6, r7, k6, hM7⟩ := HMy.out.two (by omega) x.t x.f (by omega) (by omega) (by omega) (by omega)
                have HN := hid (show MapW Wr (n + 1) (enterB (es.take (n + 1)) st) (leaveB (es.take (n + 1)) st) w7 from ⟨hM7.bel, hM7.hi, hM7.m1.congr (fun s => (enterB_yes HX.out hi s).symm), hM7.m2.congr (fun s => (leaveB_yes HX.out hi s).symm), hM7.p1, hM7.p2⟩)
                have p1 := HMy.out.p1
                have p2 := HMy.out.p2
                have q1 := k6 _ _ _ (by omega) p1
                have q2 := k6 _ _ _ (by omega) p2
                have z0 := k6 _ _ _ (by omega) y0
                have z2 := k6 _ _ _ (by omega) y2
                clear hf ht hi hM7 k6
                go_upto_region 16 with fail
                go_region
                all_goals
                  clear r6 r7 y0 y2 p1 p2 q1 q2 z0 z2
                  go_wp2
                  go_roundw
                  case rel => exact ⟨n + 1, by omega, by go_num, HN.out⟩
                  case measure => simp [intOf]; omega
          · have e : es.take n = es := take_all (by omega)
            rw [e] at HMn
            clear e
            have HSw := hid (HSt.out.keep HMn.out.bel HSt.out.hi)
            have hbWr := HSt.out.hi
            have hblo := HSt.out.lo
            have h64 := HSt.out.len
            have HDel := hid (delete_any (Wr.heap.size + 2) (Wr.heap.size + 3) Wr.heap.size (Wr.heap.size + 1) n n b o cap5 (enterB es st) (leaveB es st) st wr HSw.out.range HSw.out.row HSw.out.le (by omega) HMn.out.p1 HMn.out.p2 HMn.out.m1 HMn.out.m2 (by omega) (by omega) (by omega) (by omega))
            have HRn := hid (rnd_maps es st)
            rw [HRn.out] at HDel
            have HEw := hid (HE.out.on HMn.out.bel)
            clear HMn HRn
            have hrl := rnd_len es st
            by_cases hless : (rnd es st).length < st.length
            · have HQn := hid (show ess es st0 = ess es (rnd es st) by rw [HQ.out, ess_step hless])
              have hne : (((rnd es st).length : Int) == (st.length : Int)) = false := by simp; omega
              have HSub := hid (rnd_sub es st)
              go_wp2_with (go_at_call 83; refine HDel.out.mono ?_; rintro e w8 ⟨rfl, hrow, hb8⟩; have HSn := hid (HSw.out.turn HSub.out hrow hb8); have HEn := hid (HEw.out.keep hblo hb8); clear hrow hb8)
              go_roundw
              case rel => exact ⟨rnd es st, b, o, cap5, rfl, HSn.out, HEn.out, HQn⟩
              case measure => simp [lenOf]; omega
            · have HQn := hid (show ess es st0 = rnd es st by rw [HQ.out, ess_done hless, rnd_same hless])
              have hne : (((rnd es st).length : Int) == (st.length : Int)) = true := by simp; omega
              have HSub := hid (rnd_sub es st)
              have e0' := HEw.out.c0
              go_upto_region 21 with (go_at_call 83; refine HDel.out.mono ?_; rintro e w8 ⟨rfl, hrow, hb8⟩; have HSn := hid (HSw.out.turn HSub.out hrow hb8); have HEn := hid (HEw.out.keep hblo hb8); clear hrow hb8)
              clear e0'
              generalize rnd es st = sf at *
              have e0 := HEn.out.c0
              have e1 := HEn.out.c1
              have e2 := HEn.out.c2
              have hbe := HEn.out.bel
              go_wp2_with (go_at_call 85; refine (keep_any L (k : Int) _ es sf b o cap5 _ (HL.out.below hbe) HSn.out.sl hn (by have := HSn.out.len; omega) HSn.out.asc).mono ?_; rintro e w2 ⟨u, rfl, ho, hb⟩; obtain ⟨au, cu, rfl⟩ := own_slice ho; have HE2 := hid (HEn.out.on hb); have r0 := HE2.out.r0; have r1 := HE2.out.r1; have r2 := HE2.out.r2; have f0 := HE2.out.rf 0 (by omega); have f1 := HE2.out.rf 1 (by omega); have f2 := HE2.out.rf 2 (by omega))
              have hsz8 := HEn.out.hi
              refine bodyPost_ret (v := .tuple #[.agg #[.int .i64 L, .int .i64 (sf.length : Int), .slice au (partE sf es).length cu], .slice (some ⟨b, o, none⟩) sf.length cap5, .int .i64 0]) ?_ rfl ⟨_, _, by rw [HST.out, HQn.out], ?_, ?_⟩
              · simp [results, Try.results54, go_sem, r0, r1, r2]
              · rw [HST.out, HQn.out]
                exact own_base (ownsRow_setCell_below (ownsRow_setCell_below (ownsRow_setCell_below ho (by show w.heap.size + 1 < _; omega) _) (by show w.heap.size + 1 < _; omega) _) (by show w.heap.size + 1 < _; omega) _) (by omega)
              · exact ((HE2.out.bel.setCell (p := ⟨w.heap.size + 1, 0, none⟩) (by show w.heap.size ≤ w.heap.size + 1; omega) _).setCell (p := ⟨w.heap.size + 1, 1, none⟩) (by show w.heap.size ≤ w.heap.size + 1; omega) _).setCell (p := ⟨w.heap.size + 1, 2, none⟩) (by show w.heap.size ≤ w.heap.size + 1; omega) _
end Go.Proofs.Ytppflnkadjddiaa
