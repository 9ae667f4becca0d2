/-
  The reference's maker in memory: constant, add.
  The code and the list lie in rows that the caller owns; not longer than 100000.
-/
import Derived.Test.YtcdfghogmdhfcaaGreatDoorRfMakL
import Derived.Test.YtcdfghogmdhfcaaGreatDoorMakMem
import Derived.Test.YtcdfghogmdhfcaaGreatDoorMg22
namespace Go.Proofs.YtcdfghogmdhfcaaGreatDoor
open Go.RowKit Go.Deep
set_option linter.unusedVariables false

theorem strB_list (t : List UInt8) : (strB t).data.toList = t := by simp [strB]
theorem strB_size (t : List UInt8) : (strB t).size = t.length := by show t.toArray.size = _; simp
theorem strB_at {t : List UInt8} {k : Nat} {c : UInt8} (h : t[k]? = some c) (hk : k < (strB t).size) : (strB t)[k] = c := by
  have h2 : (strB t).data[k]? = some c := by rw [← Array.getElem?_toList, strB_list]; exact h
  have h3 : (strB t).data[k]? = some ((strB t).data[k]'hk) := Array.getElem?_eq_getElem hk
  rw [h3] at h2
  exact Option.some.inj h2
theorem conT_take {a : UInt8} {t : List UInt8} {k : Nat} (h : ((a :: t).take k).all (· == a) = true) {c : UInt8} (hc : (a :: t)[k]? = some c) : (c = a → ((a :: t).take (k + 1)).all (· == a) = true) ∧ (c ≠ a → conT (a :: t) = false) := by
  refine ⟨fun e => by rw [take_snoc hc, List.all_append, h, e]; simp, fun e => ?_⟩
  apply Bool.eq_false_iff.2
  intro h2
  unfold conT at h2
  have := List.all_eq_true.1 h2 c (List.mem_of_getElem? hc)
  simp at this
  exact e this
set_option maxRecDepth 100000 in
set_option maxHeartbeats 4000000 in
theorem rconst_any (t : List UInt8) (w : World) (hl : t.length ≤ 65536) :
    Calls Tryz.prog 58 #[.string (strB t)] w fun e w' => e = .returned (.bool (conT t)) ∧ Dr w w' := by
  have hsz := strB_size t
  go_enter Tryz.func58, Tryz.ntmps58
  go_wp2
  go_loopw [3] (fun i wr => ∃ k : Nat, 1 ≤ k ∧ i = .int .i64 (k : Int) ∧ Hid ((t.take k).all (· == t.headD 0) = true) ∧ Hid (Dr w wr)) (fun i _ => t.length - (intOf i).toNat)
  case atStart => exact ⟨1, Nat.le_refl _, rfl, hid (by cases t <;> simp), hid (Dr.refl _)⟩
  case round =>
    obtain ⟨k, hk, rfl, HA, HD⟩ := hrel
    rename World => wk
    by_cases hlt : k < t.length
    · obtain ⟨c, hc⟩ := some_of_lt hlt
      obtain ⟨a, r, rfl⟩ : ∃ a r, t = a :: r := by
        cases t with
        | nil => simp at hlt
        | cons a r => exact ⟨a, r, rfl⟩
      · have HT := hid (conT_take HA.out hc)
        have hks : k < (strB (a :: r)).size := by rw [hsz]; exact hlt
        have h0s : 0 < (strB (a :: r)).size := by omega
        have e1 := strB_at hc hks
        have e0 := strB_at (t := a :: r) (k := 0) (c := a) rfl h0s
        have hltI : (k : Int) < (r.length : Int) + 1 := by simp at hlt; omega
        clear hc
        generalize strB (a :: r) = s at *
        by_cases he : c = a
        · have hb : ((c.toNat : Int) != (a.toNat : Int)) = false := by rw [he]; simp
          have HT2 := hid (HT.out.1 he)
          clear he
          go_upto_region 4 with fail
          go_quiet (fail)
          go_wp2
          go_roundw
          case rel => exact ⟨k + 1, by omega, by go_num, HT2, hid (HD.out.drewN _)⟩
          case measure => simp [intOf]; omega
        · have hb : ((c.toNat : Int) != (a.toNat : Int)) = true := by
            simp only [bne_iff_ne, ne_eq]
            exact fun h => he (UInt8.toNat_inj.1 (by omega))
          have HT2 := hid (HT.out.2 he)
          clear he
          go_upto_region 4 with fail
          go_quiet (fail)
          go_wp2
          go_ret
          exact ⟨ret_bool HT2.out.symm, HD.out.drewN _⟩
    · have HC := hid (show conT t = true by
        have h := HA.out
        rw [List.take_of_length_le (by omega)] at h
        exact h)
      have hge : t.length ≤ k := by omega
      go_wp2
      go_ret
      exact ⟨ret_bool HC.out.symm, HD.out⟩
/-- The rows of the maker: code and list. -/
def RowT (o : Obj) : Prop := ∃ cs fl, o = .cells cs 47 fl ∨ o = .cells cs 119 fl
/-- What a step of the maker leaves: all blocks below B, and all that are no rows of the maker. -/
structure KT (B : Nat) (w w' : World) : Prop where
  os : w'.os = w.os
  tape : w'.tape = w.tape
  output : w'.output = w.output
  size : w.heap.size ≤ w'.heap.size
  keep : ∀ k o, w.heap[k]? = some o → (k < B ∨ ¬ RowT o) → w'.heap[k]? = some o
theorem KT.refl (B : Nat) (w : World) : KT B w w := ⟨rfl, rfl, rfl, Nat.le_refl _, fun _ _ h _ => h⟩
theorem KT.trans {B : Nat} {w1 w2 w3 : World} (h : KT B w1 w2) (k : KT B w2 w3) : KT B w1 w3 :=
  ⟨k.os.trans h.os, k.tape.trans h.tape, k.output.trans h.output, Nat.le_trans h.size k.size, fun j o ho hj => k.keep j o (h.keep j o ho hj) hj⟩
theorem KT.of {B : Nat} {w w' : World} (h : Below w.heap.size w w') : KT B w w' :=
  ⟨h.os, h.tape, h.output, h.size, fun k o ho _ => (h.block k (Array.getElem?_eq_some_iff.1 ho).1).trans ho⟩
theorem KT.below {B : Nat} {w w' : World} (h : KT B w w') (hB : B ≤ w.heap.size) : Below B w w' :=
  ⟨h.os, h.tape, h.output, h.size, fun k hk => by
    have e : w.heap[k]? = some (w.heap[k]'(by omega)) := Array.getElem?_eq_getElem (by omega)
    rw [h.keep k _ e (.inl hk), e]⟩
theorem KT.set {B : Nat} {w w' : World} (h : KT B w w') {a : Addr} (ha : w.heap.size ≤ a.block) (v : Value) : KT B w (w'.setCell a v) :=
  ⟨h.os, h.tape, h.output, by have := h.size; simpa using this, fun k o ho hk => (Below.heap_setCell _ _ _ _ (by have := (Array.getElem?_eq_some_iff.1 ho).1; omega)).trans (h.keep k o ho hk)⟩
theorem KT.grow {B : Nat} {w w' : World} {e : TypeId} {sz : Nat} {v : Value} {n : Nat} {xs : List Value} (ho : w.ownsRow B e sz v n xs) (he : e = 47 ∨ e = 119) (h : w.grownBy w' v.ownBlock) : KT B w w' :=
  ⟨h.os, h.tape, h.output, h.size, fun k o hk hor => by
    by_cases hn : some k = v.ownBlock
    · obtain ⟨hb, cur, hc⟩ := own_block ho hn.symm
      rw [hk] at hc
      obtain rfl := Option.some.inj hc
      rcases hor with h1 | h1
      · omega
      · exact absurd ⟨cur, (0, 0), by rcases he with rfl | rfl; exact .inl rfl; exact .inr rfl⟩ h1
    · exact (h.block k (Array.getElem?_eq_some_iff.1 hk).1 hn).trans hk⟩
theorem row_not {t : TypeId} {c : Array Value} {fl : Nat × Nat} (h1 : t ≠ 47) (h2 : t ≠ 119) : ¬ RowT (.cells c t fl) := by
  rintro ⟨cs, f2, h | h⟩ <;> simp only [Obj.cells.injEq] at h
  · exact h1 h.2.1
  · exact h2 h.2.1
theorem KT.row {B : Nat} {w w' : World} (h : KT B w w') {b : Nat} {t : TypeId} {n : Nat} {f : Nat → Value} (hr : w.rowIs b t n f) (h1 : t ≠ 47) (h2 : t ≠ 119) : w'.rowIs b t n f := by
  refine hr.of_block ?_
  obtain ⟨c, hc⟩ := hr
  rw [h.keep b _ hc.1 (.inr (row_not h1 h2)), hc.1]
def rmf (N : Nat) (vc vo vl : Value) : Nat → Value
  | 0 => .int .i64 N
  | 1 => vc
  | 2 => vo
  | _ => vl
def mcells (l : List MMade) : List Value := l.flatMap fun e => [.string (strB e.1.2), .int .i64 e.1.1, .int .i64 e.2]
theorem mcells_snoc (l : List MMade) (e : MMade) : mcells (l ++ [e]) = mcells l ++ [.string (strB e.1.2), .int .i64 e.1.1, .int .i64 e.2] := by simp [mcells]
theorem mcells_len (l : List MMade) : (mcells l).length = 3 * l.length := by
  induction l with
  | nil => rfl
  | cons a l ih => simp only [mcells, List.flatMap_cons, List.length_append, List.length_cons, List.length_nil] at ih ⊢; omega
theorem mcells_get : ∀ {l : List MMade} {k : Nat} {e : MMade}, l[k]? = some e → (mcells l)[k * 3]? = some (.string (strB e.1.2)) ∧ (mcells l)[k * 3 + 1]? = some (.int .i64 e.1.1) ∧ (mcells l)[k * 3 + 2]? = some (.int .i64 e.2)
  | [], k, e, h => by simp at h
  | a :: l, 0, e, h => by simp at h; subst h; exact ⟨rfl, rfl, rfl⟩
  | a :: l, k + 1, e, h => by
    obtain ⟨h1, h2, h3⟩ := mcells_get (l := l) (k := k) (e := e) (by simpa using h)
    have hx : mcells (a :: l) = [.string (strB a.1.2), .int .i64 a.1.1, .int .i64 a.2] ++ mcells l := by simp [mcells]
    rw [hx]
    refine ⟨?_, ?_, ?_⟩
    · rw [List.getElem?_append_right (by simp; omega)]; simp only [List.length_cons, List.length_nil]; rw [show (k + 1) * 3 - (0 + 1 + 1 + 1) = k * 3 by omega]; exact h1
    · rw [List.getElem?_append_right (by simp; omega)]; simp only [List.length_cons, List.length_nil]; rw [show (k + 1) * 3 + 1 - (0 + 1 + 1 + 1) = k * 3 + 1 by omega]; exact h2
    · rw [List.getElem?_append_right (by simp; omega)]; simp only [List.length_cons, List.length_nil]; rw [show (k + 1) * 3 + 2 - (0 + 1 + 1 + 1) = k * 3 + 2 by omega]; exact h3
theorem Sl.made {w : World} {ao : Option Addr} {n cap m k : Nat} {es : List MMade} {x : MMade} (h : Sl 3 w (.slice ao n cap) m (mcells es)) (hk : es[k]? = some x) :
    ∃ b o, ao = some ⟨b, o, none⟩ ∧ w.cell? ⟨b, o + k * 3, none⟩ = some (.string (strB x.1.2)) ∧ w.cell? ⟨b, o + k * 3 + 1, none⟩ = some (.int .i64 x.1.1) ∧ w.cell? ⟨b, o + k * 3 + 2, none⟩ = some (.int .i64 x.2) := by
  obtain ⟨h1, h2, h3⟩ := mcells_get hk
  obtain ⟨b, o, rfl, c1⟩ := h.cell h1
  obtain ⟨b', o', e, c2⟩ := h.cell h2
  simp only [Option.some.injEq, Addr.mk.injEq, and_true] at e
  obtain ⟨rfl, rfl⟩ := e
  obtain ⟨b', o', e, c3⟩ := h.cell h3
  simp only [Option.some.injEq, Addr.mk.injEq, and_true] at e
  obtain ⟨rfl, rfl⟩ := e
  exact ⟨b, o, rfl, c1, c2, c3⟩
/-- The maker's rows. -/
structure RMs (B : Nat) (w : World) (vc vl : Value) (rs : RSt) : Prop where
  lb : B ≤ w.heap.size
  c : w.ownsRow B 47 3 vc rs.code.length (icells rs.code)
  l : w.ownsRow B 119 3 vl rs.made.length (mcells rs.made)
theorem RMs.below {B : Nat} {w w' : World} {vc vl : Value} {rs : RSt} (h : RMs B w vc vl rs) (hb : Below w.heap.size w w') : RMs B w' vc vl rs := ⟨Nat.le_trans h.lb hb.size, own_below h.c hb, own_below h.l hb⟩
theorem RMs.set {B : Nat} {w : World} {vc vl : Value} {rs : RSt} (h : RMs B w vc vl rs) {b : Nat} {t : TypeId} {n : Nat} {f : Nat → Value} (hr : w.rowIs b t n f) (h1 : t ≠ 47) (h2 : t ≠ 119) (j : Nat) (v : Value) : RMs B (w.setCell ⟨b, j, none⟩ v) vc vl rs := by
  obtain ⟨c, hc⟩ := hr
  exact ⟨by have := h.lb; simpa using this, own_set h.c (a := ⟨b, j, none⟩) hc.1 h1 v, own_set h.l (a := ⟨b, j, none⟩) hc.1 h2 v⟩
theorem Tryz.infoMade : (Tryz.prog.info? 119).map (fun i => (i.zero, i.size, i.bytes)) = some (some (.agg #[.string ⟨#[]⟩, .int .i64 0, .int .i64 0]), 3, 32) := by kernel_rfl
theorem Tryz.underSMade : Tryz.prog.underlying 64 = some (.slice 119) := by kernel_rfl
theorem own_grown {w w' : World} {B : Nat} {e : TypeId} {sz : Nat} {v : Value} {n : Nat} {xs : List Value} {row : Option Nat} (h : w.ownsRow B e sz v n xs) (hg : w.grownBy w' row) (hne : v.ownBlock = none ∨ v.ownBlock ≠ row) : w'.ownsRow B e sz v n xs := by
  refine ⟨h.1, ?_⟩
  rcases h.2 with h2 | ⟨g, cap, cur, hv, hg2, hh, r⟩
  · exact .inl h2
  · refine .inr ⟨g, cap, cur, hv, hg2, ?_, r⟩
    have hb : v.ownBlock = some g := by rw [hv]; rfl
    rw [hb] at hne
    rw [hg.block g (Array.getElem?_eq_some_iff.1 hh).1 (hne.resolve_left (by simp))]
    exact hh
/-- Two boxes of the maker's type, made anew. -/
theorem mk_boxes {w w2 : World} {N : Nat} {vc vo vl : Value} (h : (w.alloc (.cells #[.int .i64 N, vc, vo, vl] 66)).alloc (.cells #[.int .i64 0, .slice none 0 0, .slice none 0 0, .slice none 0 0] 66) = w2) :
    Below w.heap.size w w2 ∧ w2.heap.size = w.heap.size + 2 ∧ w2.rowIs w.heap.size 66 4 (rmf N vc vo vl) ∧ w2.rowIs (w.heap.size + 1) 66 4 (rmf 0 (.slice none 0 0) (.slice none 0 0) (.slice none 0 0)) := by
  subst h
  refine ⟨(bel_alloc _ _).alloc (by simp) _, by simp, ?_, ?_⟩
  · refine World.rowIs.alloc (World.rowIs_alloc w #[.int .i64 N, vc, vo, vl] _ _ fun i hi => ?_) _
    have : i = 0 ∨ i = 1 ∨ i = 2 ∨ i = 3 := by simp at hi; omega
    rcases this with rfl | rfl | rfl | rfl <;> rfl
  · have h := World.rowIs_alloc (w.alloc (.cells #[.int .i64 N, vc, vo, vl] 66)) #[.int .i64 0, .slice none 0 0, .slice none 0 0, .slice none 0 0] 66 (rmf 0 (.slice none 0 0) (.slice none 0 0) (.slice none 0 0)) fun i hi => by
      have : i = 0 ∨ i = 1 ∨ i = 2 ∨ i = 3 := by simp at hi; omega
      rcases this with rfl | rfl | rfl | rfl <;> rfl
    rw [World.size_alloc] at h
    exact h
/-- The maker's value is stored, cell by cell. -/
theorem mk_put {B : Nat} {w : World} {b N : Nat} {vc vo vl : Value} {f : Nat → Value} (hr : w.rowIs b 66 4 f) :
    ((((w.setCell ⟨b, 0, none⟩ (.int .i64 N)).setCell ⟨b, 1, none⟩ vc).setCell ⟨b, 2, none⟩ vo).setCell ⟨b, 3, none⟩ vl).rowIs b 66 4 (rmf N vc vo vl) := by
  refine (((((hr.set 0 _).set 1 _).set 2 _).set 3 _)).congr fun i hi => ?_
  have : i = 0 ∨ i = 1 ∨ i = 2 ∨ i = 3 := by omega
  rcases this with rfl | rfl | rfl | rfl <;> rfl
theorem RMs.put {B : Nat} {w : World} {wc wl : Value} {rs : RSt} {b : Nat} {f : Nat → Value} (h : RMs B w wc wl rs) (hr : w.rowIs b 66 4 f) (x0 x1 x2 x3 : Value) :
    RMs B ((((w.setCell ⟨b, 0, none⟩ x0).setCell ⟨b, 1, none⟩ x1).setCell ⟨b, 2, none⟩ x2).setCell ⟨b, 3, none⟩ x3) wc wl rs :=
  (((h.set hr (by decide) (by decide) 0 x0).set (hr.set 0 x0) (by decide) (by decide) 1 x1).set ((hr.set 0 x0).set 1 x1) (by decide) (by decide) 2 x2).set (((hr.set 0 x0).set 1 x1).set 2 x2) (by decide) (by decide) 3 x3
theorem KT.put {B : Nat} {w w' : World} (h : KT B w w') {b : Nat} (hb : w.heap.size ≤ b) (x0 x1 x2 x3 : Value) :
    KT B w ((((w'.setCell ⟨b, 0, none⟩ x0).setCell ⟨b, 1, none⟩ x1).setCell ⟨b, 2, none⟩ x2).setCell ⟨b, 3, none⟩ x3) :=
  (((h.set (a := ⟨b, 0, none⟩) hb x0).set (a := ⟨b, 1, none⟩) hb x1).set (a := ⟨b, 2, none⟩) hb x2).set (a := ⟨b, 3, none⟩) hb x3
set_option maxRecDepth 100000 in
set_option maxHeartbeats 4000000 in
theorem radd_any (B N : Nat) (vc vl : Value) (ao : Option Addr) (no co : Nat) (rs : RSt) (op a b : Int) (w : World) (h : RMs B w vc vl rs) (hl : rs.code.length ≤ 100000) (hN : N ≤ 24) :
    Calls Tryz.prog 59 #[.agg #[.int .i64 (N : Int), vc, .slice ao no co, vl], .int .i64 op, .int .i64 a, .int .i64 b] w fun e w' => ∃ vc', e = .returned (.tuple #[.agg #[.int .i64 (N : Int), vc', .slice ao no co, vl], .int .i64 (((N + rs.code.length : Nat) : Int))]) ∧
      RMs B w' vc' vl ⟨rs.code ++ [⟨op, a, b⟩], rs.made⟩ ∧ KT B w w' := by
  have HR := hid h
  obtain ⟨av, cv, rfl⟩ := own_slice h.c
  obtain ⟨al, cl, rfl⟩ := own_slice h.l
  clear h
  go_enter Tryz.func59, Tryz.ntmps59
  go_upto_region 1 with fail
  obtain ⟨w2, hw2⟩ : ∃ w2, (w.alloc (.cells #[.int .i64 (N : Int), .slice av rs.code.length cv, .slice ao no co, .slice al rs.made.length cl] 66)).alloc (.cells #[.int .i64 0, .slice none 0 0, .slice none 0 0, .slice none 0 0] 66) = w2 := ⟨_, rfl⟩
  obtain ⟨hb2, hs2, hr1, hr2⟩ := mk_boxes hw2
  rw [hw2]
  clear hw2
  have HR2 := hid (HR.out.below hb2)
  have HK2 := hid (KT.of (B := B) hb2)
  have HR1 := hid hr1
  have HRr2 := hid hr2
  have HLb := hid HR2.out.lb
  have c1 := hr1.cell (i := 1) (by omega)
  have f1 := hr1.frozen 1
  simp only [rmf] at c1
  have HG := hid (show w.heap.size ≤ w.heap.size from Nat.le_refl _)
  obtain ⟨g, hg⟩ : ∃ g, w.heap.size = g := ⟨_, rfl⟩
  have HGe := hid hg
  rw [hg] at HR1 HRr2 c1 f1 ⊢
  clear hr1 hr2 hb2 hs2 hg
  go_upto_region 2 with (at_builtin; refine wpList_push w2 rfl _ _ 25 rfl B 47 (.agg #[.int .i64 0, .int .i64 0, .int .i64 0]) 3 24 Tryz.underlying25 Tryz.infoInstr rfl (by decide) (.slice av rs.code.length cv) rs.code.length (icells rs.code) rfl HR2.out.c #[.int .i64 op, .int .i64 a, .int .i64 b] rfl (by intro u hu; simp at hu; rcases hu with rfl | rfl | rfl <;> rfl) rfl (by unfold maxLen; omega) (by omega) HLb.out ?_; intro gv capv w5 hown5 hg5 hb5; have HK5 := hid (KT.grow HR2.out.c (.inl rfl) hg5); have HL5 := hid (own_grown HR2.out.l hg5 (own_apart HR2.out.l HR2.out.c (by decide))); have c1 := (HK5.out.row HR1.out (by decide) (by decide)).cell (i := 1) (by omega); have f1 := (HK5.out.row HR1.out (by decide) (by decide)).frozen 1; simp only [rmf] at c1; have HO5 := hid hown5; clear hown5 hg5 hb5)
  obtain ⟨w6, hw6⟩ : ∃ w6, w5.setCell ⟨g, 1, none⟩ (.slice (some ⟨gv, 0, none⟩) (rs.code.length + 1) capv) = w6 := ⟨_, rfl⟩
  have hr1 : w6.rowIs g 66 4 (rmf N (.slice (some ⟨gv, 0, none⟩) (rs.code.length + 1) capv) (.slice ao no co) (.slice al rs.made.length cl)) := by
    rw [← hw6]
    refine ((HK5.out.row HR1.out (by decide) (by decide)).set 1 _).congr fun i hi => ?_
    have : i = 0 ∨ i = 1 ∨ i = 2 ∨ i = 3 := by omega
    rcases this with rfl | rfl | rfl | rfl <;> rfl
  have hr2 : w6.rowIs (g + 1) 66 4 (rmf 0 (.slice none 0 0) (.slice none 0 0) (.slice none 0 0)) := by rw [← hw6]; exact (HK5.out.row HRr2.out (by decide) (by decide)).setOther (by show g + 1 ≠ g; omega) _
  have HR6 := hid (show RMs B w6 (.slice (some ⟨gv, 0, none⟩) (rs.code.length + 1) capv) (.slice al rs.made.length cl) ⟨rs.code ++ [⟨op, a, b⟩], rs.made⟩ by
    rw [← hw6]
    have h5 : RMs B w5 (.slice (some ⟨gv, 0, none⟩) (rs.code.length + 1) capv) (.slice al rs.made.length cl) ⟨rs.code ++ [⟨op, a, b⟩], rs.made⟩ := ⟨Nat.le_trans HLb.out HK5.out.size, by rw [List.length_append, icells_snoc]; exact HO5.out, HL5.out⟩
    exact h5.set (HK5.out.row HR1.out (by decide) (by decide)) (by decide) (by decide) 1 _)
  have HK6 := hid (show KT B w w6 by rw [← hw6]; exact (HK2.out.trans HK5.out).set (a := ⟨g, 1, none⟩) (by rw [HGe.out]; exact Nat.le_refl _) _)
  rw [hw6]
  have c0 := hr1.cell (i := 0) (by omega)
  have c1 := hr1.cell (i := 1) (by omega)
  have c2 := hr1.cell (i := 2) (by omega)
  have c3 := hr1.cell (i := 3) (by omega)
  have z0 := hr2.cell (i := 0) (by omega)
  have z1 := hr2.cell (i := 1) (by omega)
  have z2 := hr2.cell (i := 2) (by omega)
  have z3 := hr2.cell (i := 3) (by omega)
  have y0 := hr2.frozen 0
  have y1 := hr2.frozen 1
  have y2 := hr2.frozen 2
  have y3 := hr2.frozen 3
  simp only [rmf] at c0 c1 c2 c3 z0 z1 z2 z3
  have HP2 := hid hr2
  clear hw6 hr1 hr2 HK5 HL5 HO5 HR1 HRr2 HK2 HR2 HLb f1
  have hs1 : IntKind.i64.wrap ((N : Int) + ((rs.code.length : Int) + 1)) = (N : Int) + ((rs.code.length : Int) + 1) := IntWalk.i64_in _ (by omega)
  have hs2 : IntKind.i64.wrap ((N : Int) + ((rs.code.length : Int) + 1) - 1) = (N : Int) + (rs.code.length : Int) := (IntWalk.i64_in _ (by omega)).trans (by omega)
  go_region
  all_goals
    go_wp2_with fail
    refine bodyPost_ret (v := .tuple #[.agg #[.int .i64 (N : Int), .slice (some ⟨gv, 0, none⟩) (rs.code.length + 1) capv, .slice ao no co, .slice al rs.made.length cl], .int .i64 ((N : Int) + (rs.code.length : Int))]) ?_ rfl ⟨.slice (some ⟨gv, 0, none⟩) (rs.code.length + 1) capv, ?_, ?_, ?_⟩
    · simp [results, Tryz.results59, go_sem, z0, z1, z2, z3]
    · rw [Int.natCast_add]
    · exact (HR6.out.below (below_drewN (Below.refl _ _) 1)).put (row_below HP2.out (below_drewN (Below.refl _ _) 1)) _ _ _ _
    · exact (HK6.out.trans (KT.of (below_drewN (Below.refl _ _) 1))).put (by rw [HGe.out]; omega) _ _ _ _
end Go.Proofs.YtcdfghogmdhfcaaGreatDoor
