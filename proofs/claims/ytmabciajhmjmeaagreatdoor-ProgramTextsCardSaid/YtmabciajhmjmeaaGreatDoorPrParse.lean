/-
  program.Parse: a text is read.
  The library's tables and errors lie in their variables.
-/
import Derived.Test.YtmabciajhmjmeaaGreatDoorPrRead
import Derived.Test.YtmabciajhmjmeaaGreatDoorPrIdx
import Derived.Test.YtmabciajhmjmeaaGreatDoorPrPut
import Derived.Test.YtmabciajhmjmeaaGreatDoorInsSt
namespace Go.Proofs.YtmabciajhmjmeaaGreatDoor
open Go.RowKit Go.Deep
set_option linter.unusedVariables false
set_option linter.unusedSimpArgs false

/-- What Parse answers. -/
def parR (s : ByteArray) : Int × List Ins × List Int × Int :=
  if 65536 < s.size then (0, [], [], 4) else match parseT s.data.toList with
  | none => (0, [], [], 3)
  | some (n, c, o) => if progErr n c (natI o) = 0 then (n, c, natI o, 0) else (0, [], [], progErr n c (natI o))
def ParPost (s : ByteArray) (w : World) (e : Ending) (w' : World) : Prop := ∃ vc vo, e = .returned (.tuple #[.agg #[.int .i64 (parR s).1, vc, vo], .int .i64 (parR s).2.2.2]) ∧
  Sl 3 w' vc (parR s).2.1.length (icells (parR s).2.1) ∧ Sl 1 w' vo (parR s).2.2.1.length (ints (parR s).2.2.1) ∧ Below w.heap.size w w'
theorem par_bad {s : ByteArray} {w w' : World} {e : Ending} {E : Int} (h : parR s = (0, [], [], E)) (he : e = .returned (.tuple #[.agg #[.int .i64 0, .slice none 0 0, .slice none 0 0], .int .i64 E])) (hb : Below w.heap.size w w') : ParPost s w e w' := by
  unfold ParPost
  rw [h]
  exact ⟨.slice none 0 0, .slice none 0 0, he, Sl.nil 3 w', Sl.nil 1 w', hb⟩
/-- A program's box. -/
def pfun (n : Int) (vc vo : Value) : Nat → Value
  | 0 => .int .i64 n
  | 1 => vc
  | _ => vo
theorem boxPR {w w0 : World} {n : Int} {vc vo : Value} (h : w.alloc (.cells #[.int .i64 n, vc, vo] 25) = w0) : Below w.heap.size w w0 ∧ w0.rowIs w.heap.size 25 3 (pfun n vc vo) ∧ w0.heap.size = w.heap.size + 1 := by
  subst h
  refine ⟨bel_alloc _ _, World.rowIs_alloc w #[.int .i64 n, vc, vo] 25 (pfun n vc vo) (fun i hi => ?_), by simp⟩
  have hi : i < 3 := hi
  have : i = 0 ∨ i = 1 ∨ i = 2 := by omega
  rcases this with rfl | rfl | rfl <;> rfl
theorem zero_set {R : Nat} {w v : World} (hb : Below R w v) (h : R ≤ R) (x y z : Value) : Below R w (((v.setCell ⟨R, 0, none⟩ x).setCell ⟨R, 1, none⟩ y).setCell ⟨R, 2, none⟩ z) :=
  ((hb.setCell (p := ⟨R, 0, none⟩) h _).setCell (p := ⟨R, 1, none⟩) h _).setCell (p := ⟨R, 2, none⟩) h _
/-- The text's body, its lines. -/
def bodyB (s : ByteArray) : ByteArray := ⟨(Lib.trimSuffix s.data.toList [10]).toArray⟩
theorem parR_lines {s : ByteArray} (h : ¬ 65536 < s.size) : parR s = match (if Lib.hasSuffix s.data.toList [10] then linesT ((cutB 10 (bodyB s)).map (·.data.toList)) else none) with
    | none => (0, [], [], 3)
    | some (n, c, o) => if progErr n c (natI o) = 0 then (n, c, natI o, 0) else (0, [], [], progErr n c (natI o)) := by
  rw [parR, if_neg h, parseT, cutB_data]
  rfl
theorem body_size (s : ByteArray) : (bodyB s).size ≤ s.size := by
  have h : (Lib.trimSuffix s.data.toList [10]).length ≤ s.data.toList.length := by
    unfold Lib.trimSuffix
    split
    · rw [List.length_take]; exact Nat.min_le_right _ _
    · exact Nat.le_refl _
  have h1 : (bodyB s).size = (Lib.trimSuffix s.data.toList [10]).length := by show (Lib.trimSuffix s.data.toList [10]).toArray.size = _; simp
  have h2 : s.data.toList.length = s.size := by simp
  omega
/-- read at a line of which is known what it says. -/
theorem read_no {s : ByteArray} {w : World} (hs : s.size ≤ 100000) (E : TxtEnv w) (h : readT s.data.toList = none) : Calls Tryz.prog 27 #[.string s] w fun e w' => e = .returned (.tuple #[.string ⟨#[]⟩, .slice none 0 0, .bool false]) ∧ Below w.heap.size w w' := by
  refine (read_any s w hs E).mono ?_
  rintro e w' ⟨hb, ⟨_, he⟩ | ⟨h0, l, u, h2, _⟩⟩
  · exact ⟨he, hb⟩
  · rw [h] at h2; cases h2
theorem read_yes {s : ByteArray} {w : World} {wd : List UInt8} {l : List Nat} (hs : s.size ≤ 100000) (E : TxtEnv w) (h : readT s.data.toList = some (wd, l)) : Calls Tryz.prog 27 #[.string s] w fun e w' => ∃ u, e = .returned (.tuple #[.string ⟨wd.toArray⟩, u, .bool true]) ∧ w'.ownsRow w.heap.size 3 1 u l.length (ints (natI l)) ∧ Below w.heap.size w w' := by
  refine (read_any s w hs E).mono ?_
  rintro e w' ⟨hb, ⟨h2, _⟩ | ⟨h0, l', u, h2, he, ho⟩⟩
  · rw [h] at h2; cases h2
  · rw [h] at h2
    simp only [Option.some.injEq, Prod.mk.injEq] at h2
    obtain ⟨rfl, rfl⟩ := h2
    exact ⟨u, by rw [he, str_back], ho, hb⟩
/-- What the loop keeps. -/
structure PM (W0 : World) (P LB G : Nat) (L : List ByteArray) (wr : World) (n : Int) (vc vo : Value) (c : List Ins) (o : List Nat) : Prop where
  box : wr.rowIs P 25 3 (pfun n vc vo)
  code : wr.ownsRow (P + 1) 36 3 vc c.length (icells c)
  outs : wr.ownsRow (P + 1) 3 1 vo o.length (ints (natI o))
  old : ∀ b, b < P → wr.heap[b]? = W0.heap[b]?
  size : P + 1 ≤ wr.heap.size
theorem PM.below {W0 wr w' : World} {P LB G : Nat} {L : List ByteArray} {n : Int} {vc vo : Value} {c : List Ins} {o : List Nat} (h : PM W0 P LB G L wr n vc vo c o) (hb : Below wr.heap.size wr w') : PM W0 P LB G L w' n vc vo c o :=
  ⟨row_below h.box hb, own_below h.code hb, own_below h.outs hb, fun b hbP => (hb.block b (by have := h.size; omega)).trans (h.old b hbP), Nat.le_trans h.size hb.size⟩
theorem PM.cell {W0 wr : World} {P LB G : Nat} {L : List ByteArray} {n : Int} {vc vo : Value} {c : List Ins} {o : List Nat} (h : PM W0 P LB G L wr n vc vo c o) {b j : Nat} {v : Value} (hb : b < P) (hc : W0.cell? ⟨b, j, none⟩ = some v) : wr.cell? ⟨b, j, none⟩ = some v :=
  (World.cell?_of_block (h.old b hb)).trans hc
theorem PM.set0 {W0 wr : World} {P LB G : Nat} {L : List ByteArray} {n : Int} {vc vo : Value} {c : List Ins} {o : List Nat} (h : PM W0 P LB G L wr n vc vo c o) (m : Int) : PM W0 P LB G L (wr.setCell ⟨P, 0, none⟩ (.int .i64 m)) m vc vo c o :=
  ⟨(h.box.set 0 _).congr (fun i hi => by
      have : i = 0 ∨ i = 1 ∨ i = 2 := by omega
      rcases this with rfl | rfl | rfl <;> rfl),
    ownsRow_setCell_below (a := ⟨P, 0, none⟩) h.code (Nat.lt_succ_self P) _, ownsRow_setCell_below (a := ⟨P, 0, none⟩) h.outs (Nat.lt_succ_self P) _,
    fun b hb => (blk_setCell_other _ _ _ _ (by show b ≠ P; omega)).trans (h.old b hb), by simp; exact h.size⟩
theorem PM.set2 {W0 wr : World} {P LB G : Nat} {L : List ByteArray} {n : Int} {vc vo u : Value} {c : List Ins} {o l : List Nat} (h : PM W0 P LB G L wr n vc vo c o) (hu : wr.ownsRow (P + 1) 3 1 u l.length (ints (natI l))) : PM W0 P LB G L (wr.setCell ⟨P, 2, none⟩ u) n vc u c l :=
  ⟨(h.box.set 2 _).congr (fun i hi => by
      have : i = 0 ∨ i = 1 ∨ i = 2 := by omega
      rcases this with rfl | rfl | rfl <;> rfl),
    ownsRow_setCell_below (a := ⟨P, 2, none⟩) h.code (Nat.lt_succ_self P) _, ownsRow_setCell_below (a := ⟨P, 2, none⟩) hu (Nat.lt_succ_self P) _,
    fun b hb => (blk_setCell_other _ _ _ _ (by show b ≠ P; omega)).trans (h.old b hb), by simp; exact h.size⟩
theorem wpList_push2 {P : Program} {ops : Array Oper} {rest : List Oper} {o : Oper} {a : Act} {Q : Exit → Act → World → Prop} (wr : World) (hgd : o.guard = none) (s x : Operand) (t : TypeId)
    (ho : o.op = .call { callee := .builtin .append, args := #[s, x], argTypes := #[t, t] })
    (base : Nat) (e : TypeId) (z : Value) (bytes : Nat) (ht : P.underlying t = some (.slice e)) (hinfo : (P.info? e).map (fun i => (i.zero, i.size, i.bytes)) = some (some z, 1, bytes))
    (hzs : z.cells.size = 1) (v : Value) (n : Nat) (xs : List Value) (hs : a.eval s = v) (hown : wr.ownsRow base e 1 v n xs)
    (us : Array Value) (hus : us.size = 2) (hu : ∀ u ∈ us.toList, u.oneCell' = true) (hx : a.eval x = .slice (some ⟨wr.heap.size, 0, none⟩) 2 2)
    (h63 : n + 2 ≤ maxLen) (hbytes : (n + 2) * bytes ≤ 140737488355328) (hbase : base ≤ wr.heap.size)
    (h : ∀ g cap w', w'.ownsRow base e 1 (.slice (some ⟨g, 0, none⟩) (n + 2) cap) (n + 2) (xs ++ us.toList) → Below base wr w' → wpList P ops Q rest (a.put o.dst (.slice (some ⟨g, 0, none⟩) (n + 2) cap)) w') :
    wpList P ops Q (o :: rest) a (wr.alloc (.cells us e)) := by
  obtain ⟨i0, hi, hz0, hz1, hz2⟩ := info_parts hinfo
  refine wpList_append_own _ hgd s x t ho base e i0 z 1 bytes ht hi hz0 hz1 hz2 hzs (by decide) v n xs hs (hown.alloc _) ⟨wr.heap.size, 0, none⟩ 2 2 us.toList hx (by simp [hus]) (cells_new wr us e) hu h63 hbytes (by simp; omega) ?_
  intro v' w' ho' hg _
  have hg' : wr.grownBy w' v.ownBlock := ⟨hg.os, hg.tape, hg.output, by have := hg.size; simp at this; omega, fun k hk hne => (hg.block k (by simp; omega) hne).trans (Below.heap_alloc wr _ k hk)⟩
  obtain ⟨g, cap, rfl⟩ : ∃ g cap, v' = .slice (some ⟨g, 0, none⟩) (n + 2) cap := by
    rcases ho'.2 with ⟨_, h0⟩ | ⟨g, cap, cur, hv, _⟩
    · omega
    · exact ⟨g, cap, hv⟩
  exact h g cap w' ho' ((Below.refl _ _).grown hg' hbase (fun k hk => ((hown.lt k hk).1)))
theorem two_get (l : List Nat) : (ints (natI l) ++ [.int .i64 0, .int .i64 0])[0]? = some (.int .i64 ((l.getD 0 0 : Nat) : Int)) ∧ (ints (natI l) ++ [.int .i64 0, .int .i64 0])[1]? = some (.int .i64 ((l.getD 1 0 : Nat) : Int)) := by
  match l with
  | [] => exact ⟨rfl, rfl⟩
  | [a] => exact ⟨rfl, rfl⟩
  | a :: b :: r => exact ⟨rfl, rfl⟩
theorem PM.set1 {W0 wr w3 : World} {P LB G : Nat} {L : List ByteArray} {n : Int} {vc vo v' : Value} {c : List Ins} {o : List Nat} {x : Ins} (h : PM W0 P LB G L wr n vc vo c o) (hg : wr.grownBy w3 vc.ownBlock) (ho : w3.ownsRow (P + 1) 36 3 v' (c.length + 1) (icells c ++ [.int .i64 x.op, .int .i64 x.a, .int .i64 x.b])) :
    PM W0 P LB G L (w3.setCell ⟨P, 1, none⟩ v') n v' vo (c ++ [x]) o := by
  have hne : ∀ b, b < P + 1 → some b ≠ vc.ownBlock := fun b hb => row_ne_low53 h.code hb
  have hox : w3.ownsRow (P + 1) 3 1 vo o.length (ints (natI o)) := h.outs.kept hg (own_apart h.outs h.code (by decide))
  refine ⟨((row_grown h.box hg (hne P (Nat.lt_succ_self P))).set 1 _).congr (fun i hi => by
      have : i = 0 ∨ i = 1 ∨ i = 2 := by omega
      rcases this with rfl | rfl | rfl <;> rfl), ?_, ownsRow_setCell_below (a := ⟨P, 1, none⟩) hox (Nat.lt_succ_self P) _, fun b hb => ?_, ?_⟩
  · have := ownsRow_setCell_below (a := ⟨P, 1, none⟩) ho (Nat.lt_succ_self P) v'
    rw [List.length_append, icells_snoc]
    exact this
  · exact (blk_setCell_other _ _ _ _ (by show b ≠ P; omega)).trans ((hg.block b (by have := h.size; omega) (hne b (by omega))).trans (h.old b hb))
  · simp
    have := hg.size
    have := h.size
    omega
theorem word_list (l : List UInt8) : (⟨l.toArray⟩ : ByteArray).toList = l := by rw [Lib.toList_data]
set_option maxRecDepth 100000 in
set_option maxHeartbeats 4000000 in
theorem parse_any (s : ByteArray) (w : World) (E : TxtEnv w) :
    Calls Tryz.prog 8 #[.string s] w fun e w' => ParPost s w e w' := by
  have HE := hid E
  clear E
  have HPb := hid (fun e w' E h h2 h3 => par_bad (s := s) (w := w) (w' := w') (e := e) (E := E) h h2 h3)
  by_cases hbig : 65536 < s.size
  · have hpar := hid (show parR s = (0, [], [], 4) from if_pos hbig)
    have hI : (65536 : Int) < (s.size : Int) := by omega
    clear hbig
    go_enter Tryz.func8, Tryz.ntmps8
    go_upto_region 1 with fail
    obtain ⟨w0, hw0⟩ : ∃ w0, w.alloc (.cells #[.int .i64 0, .slice none 0 0, .slice none 0 0] 25) = w0 := ⟨_, rfl⟩
    obtain ⟨hb0, hr, -⟩ := boxPR hw0
    rw [hw0]
    have HB0 := hid hb0
    have r0 := hr.cell (i := 0) (by omega)
    have r1 := hr.cell (i := 1) (by omega)
    have r2 := hr.cell (i := 2) (by omega)
    have q0 := hr.frozen 0
    have q1 := hr.frozen 1
    have q2 := hr.frozen 2
    simp only [pfun] at r0 r1 r2
    clear hw0 hb0
    go_wp2
    refine bodyPost_ret (v := .tuple #[.agg #[.int .i64 0, .slice none 0 0, .slice none 0 0], .int .i64 4]) ?_ rfl (HPb.out _ _ 4 hpar.out rfl ?_)
    · simp [results, Tryz.results8, go_sem, r0, r1, r2]
    · exact zero_set (HB0.out) (Nat.le_refl _) _ _ _
  have hI : ¬ (65536 : Int) < (s.size : Int) := by omega
  have HPl := hid (parR_lines hbig)
  have HCs := hid (fun X => Tryz.strings_CutSuffix s ⟨#[10]⟩ X (by omega))
  have hbs := body_size s
  change Hid (∀ X, Calls Tryz.prog 25 #[.string s, .string ⟨#[10]⟩] X fun e w' => e = .returned (.tuple #[.string (bodyB s), .bool (Lib.hasSuffix s.data.toList [10])]) ∧ w' = X) at HCs
  have HSp := hid (fun X h => cut_any 10 (bodyB s) X (by omega) h)
  obtain ⟨-, f2, f3⟩ := cutB_facts 10 (bodyB s)
  have HSz := hid (fun (x : ByteArray) hx => (show x.size ≤ 100000 by have := f3 x hx; omega))
  have hLn : (cutB 10 (bodyB s)).length ≤ 100000 := by omega
  clear f2 f3 hbs
  generalize cutB 10 (bodyB s) = L at *
  generalize bodyB s = T at *
  cases hH : Lib.hasSuffix s.data.toList [10]
  · rw [hH] at HCs HPl
    have hpar := hid (show parR s = (0, [], [], 3) from HPl.out)
    clear hH hbig HPl
    go_enter Tryz.func8, Tryz.ntmps8
    go_upto_region 1 with fail
    obtain ⟨w0, hw0⟩ : ∃ w0, w.alloc (.cells #[.int .i64 0, .slice none 0 0, .slice none 0 0] 25) = w0 := ⟨_, rfl⟩
    obtain ⟨hb0, hr, hs0⟩ := boxPR hw0
    rw [hw0]
    have HB0 := hid hb0
    have HS0 := hid hs0
    clear hw0 hb0 hs0
    go_upto_region 5 with (first
      | (go_at_call 25; refine (HCs.out _).mono ?_; rintro e w1 ⟨rfl, h1⟩; rw [h1]; clear h1)
      | (go_at_call 26; refine (HSp.out _ (HE.out.below HB0.out)).mono ?_; rintro e w2 ⟨rfl, h2⟩; have hb2 : Below w0.heap.size w0 w2 := (by rw [h2]; exact bel_alloc _ _); have HB2 := hid (HB0.out.trans (hb2.mono HB0.out.size)); have hr := row_below hr hb2; clear hb2 h2))
    have r0 := hr.cell (i := 0) (by omega)
    have r1 := hr.cell (i := 1) (by omega)
    have r2 := hr.cell (i := 2) (by omega)
    have q0 := hr.frozen 0
    have q1 := hr.frozen 1
    have q2 := hr.frozen 2
    simp only [pfun] at r0 r1 r2
    go_wp2
    refine bodyPost_ret (v := .tuple #[.agg #[.int .i64 0, .slice none 0 0, .slice none 0 0], .int .i64 3]) ?_ rfl (HPb.out _ _ 3 hpar.out rfl ?_)
    · simp [results, Tryz.results8, go_sem, r0, r1, r2]
    · exact zero_set (HB2.out) (Nat.le_refl _) _ _ _
  rw [hH] at HCs HPl
  by_cases hL2 : L.length < 2
  · have hpar := hid (show parR s = (0, [], [], 3) by
      rw [HPl.out]
      match L, hL2 with
      | [], _ => rfl
      | [a], _ => rfl)
    have hL2I : (L.length : Int) < 2 := by omega
    clear hH hbig HPl hL2
    go_enter Tryz.func8, Tryz.ntmps8
    go_upto_region 1 with fail
    obtain ⟨w0, hw0⟩ : ∃ w0, w.alloc (.cells #[.int .i64 0, .slice none 0 0, .slice none 0 0] 25) = w0 := ⟨_, rfl⟩
    obtain ⟨hb0, hr, hs0⟩ := boxPR hw0
    rw [hw0]
    have HB0 := hid hb0
    have HS0 := hid hs0
    clear hw0 hb0 hs0
    go_upto_region 5 with (first
      | (go_at_call 25; refine (HCs.out _).mono ?_; rintro e w1 ⟨rfl, h1⟩; rw [h1]; clear h1)
      | (go_at_call 26; refine (HSp.out _ (HE.out.below HB0.out)).mono ?_; rintro e w2 ⟨rfl, h2⟩; have hb2 : Below w0.heap.size w0 w2 := (by rw [h2]; exact bel_alloc _ _); have HB2 := hid (HB0.out.trans (hb2.mono HB0.out.size)); have hr := row_below hr hb2; clear hb2 h2))
    have r0 := hr.cell (i := 0) (by omega)
    have r1 := hr.cell (i := 1) (by omega)
    have r2 := hr.cell (i := 2) (by omega)
    have q0 := hr.frozen 0
    have q1 := hr.frozen 1
    have q2 := hr.frozen 2
    simp only [pfun] at r0 r1 r2
    go_wp2
    refine bodyPost_ret (v := .tuple #[.agg #[.int .i64 0, .slice none 0 0, .slice none 0 0], .int .i64 3]) ?_ rfl (HPb.out _ _ 3 hpar.out rfl ?_)
    · simp [results, Tryz.results8, go_sem, r0, r1, r2]
    · exact zero_set (HB2.out) (Nat.le_refl _) _ _ _
  have hL2I : ¬ (L.length : Int) < 2 := by omega
  have HPn := hid (fun (h : linesT (L.map (·.data.toList)) = none) => (show parR s = (0, [], [], 3) by rw [HPl.out, if_pos rfl, h]))
  have HPs := hid (fun (n : Nat) (c : List Ins) (o : List Nat) (h : linesT (L.map (·.data.toList)) = some (n, c, o)) => (show parR s = if progErr n c (natI o) = 0 then ((n : Int), c, natI o, 0) else (0, [], [], progErr n c (natI o)) by rw [HPl.out, if_pos rfl, h]))
  clear hH hbig HPl
  generalize hls : L.map (·.data.toList) = ls at *
  have HLl := hid (show ls.length = L.length by rw [← hls, List.length_map])
  have HLg := hid (fun (k : Nat) (x : ByteArray) (hx : L[k]? = some x) => (show ls.getD k [] = x.data.toList by rw [← hls, List.getD_eq_getElem?_getD, List.getElem?_map, hx]; rfl))
  clear hls
  have HOps := hid operations_any
  go_enter Tryz.func8, Tryz.ntmps8
  go_upto_region 1 with fail
  obtain ⟨w0, hw0⟩ : ∃ w0, w.alloc (.cells #[.int .i64 0, .slice none 0 0, .slice none 0 0] 25) = w0 := ⟨_, rfl⟩
  obtain ⟨hb0, hr, hs0⟩ := boxPR hw0
  rw [hw0]
  have HB0 := hid hb0
  have HS0 := hid hs0
  clear hw0 hb0 hs0
  go_upto_region 8 with (first
    | (go_at_call 25; refine (HCs.out _).mono ?_; rintro e w1 ⟨rfl, h1⟩; rw [h1]; clear h1)
    | (go_at_call 26; refine (HSp.out _ (HE.out.below HB0.out)).mono ?_; rintro e w2 ⟨rfl, h2⟩; have HK2 := hid (show w2.heap[w0.heap.size]? = some (.cells (L.map Value.string).toArray 9 (0, 0)) by rw [h2]; exact heap_alloc_new w0 _); have hb2 : Below w0.heap.size w0 w2 := (by rw [h2]; exact bel_alloc _ _); have HS2 := hid (show w2.heap.size = w0.heap.size + 1 by rw [h2]; simp); have HB2 := hid (HB0.out.trans (hb2.mono HB0.out.size)); have hr := row_below hr hb2; clear hb2 h2)
    | (go_at_call 18; refine (HOps.out _).mono ?_; rintro e w3 ⟨rfl, hb3⟩)
    | (refine wpList_store_ops w3 _ rfl _ _ rfl rfl rfl rfl ?_; intro w4 hOps4 hb4 hlt4; have HB24 := hid (bel_step hb3 hb4); have HLt := hid (And.intro hb3.size hlt4); have HO4 := hid hOps4; clear hb3 hb4 hlt4 hOps4))
  go_upto_region 9 with fail
  obtain ⟨w5, hw5⟩ : ∃ w5, w4.alloc (.cells #[.int .i64 0, .slice none 0 0, .slice none 0 0] 25) = w5 := ⟨_, rfl⟩
  obtain ⟨hb5, hp5, hs5⟩ := boxPR hw5
  rw [hw5]
  have HPm := hid (show PM w5 w4.heap.size w0.heap.size w3.heap.size L w5 0 (.slice none 0 0) (.slice none 0 0) [] [] from ⟨hp5, World.ownsRow_nil _ _ _ _, World.ownsRow_nil _ _ _ _, fun _ _ => rfl, by omega⟩)
  have HR5 := hid (row_below (row_below hr HB24.out) hb5)
  have HLb := hid (fun (k : Nat) (x : ByteArray) (hx : L[k]? = some x) => keeps hb5 (keeps HB24.out (show w2.cell? ⟨w0.heap.size, k, none⟩ = some (.string x) by rw [Lib.cell_of_heap HK2.out]; simp [hx])))
  have HOp := hid (HO4.out.below hb5 HLt.out.2)
  have HB5 := hid (show Below w.heap.size w w5 from (HB2.out.trans (HB24.out.mono HB2.out.size)).trans (hb5.mono (by have := HB2.out.size; have := HB24.out.size; omega)))
  have HSz5 := hid (show w.heap.size < w4.heap.size ∧ w0.heap.size < w4.heap.size ∧ w3.heap.size < w4.heap.size ∧ w5.heap.size = w4.heap.size + 1 by
    have h1 := HS0.out
    have h2 := HS2.out
    have h3 := HLt.out
    have h4 := HB24.out.size
    omega)
  clear hw5 hb5 hp5 hs5 HK2 HS2 HB2 HB24 HLt HO4 hr HS0 HB0
  generalize w0.heap.size = LB at *
  generalize w3.heap.size = G at *
  generalize w4.heap.size = P at *
  generalize hRR : w.heap.size = R at *
  have HRR := hid hRR
  clear hRR
  go_wp2_with fail
  go_loopw [38] (fun i wr => ∃ (k n : Nat) (vc vo : Value) (c : List Ins) (o : List Nat), k ≤ L.length ∧ i = .int .i64 (k : Int) ∧ Hid (PM w5 P LB G L wr (n : Int) vc vo c o) ∧ Hid (StP ls k n c o) ∧ Hid (c.length ≤ k) ∧ Hid (Below R w wr)) (fun i _ => L.length - (intOf i).toNat)
  case atStart => exact ⟨0, 0, .slice none 0 0, .slice none 0 0, [], [], Nat.zero_le _, rfl, HPm, hid (st_start ls), hid (Nat.le_refl _), HB5⟩
  case round =>
    obtain ⟨k, n, vc, vo, c, o, hk, rfl, HM, HS, HLen, HB⟩ := hrel
    rename World => wk
    by_cases hkn : k < L.length
    · obtain ⟨x, hx⟩ := some_of_lt hkn
      have cx := HM.out.cell HSz5.out.2.1 (HLb.out k x hx)
      have hxs := HSz.out x (List.mem_of_getElem? hx)
      have HG := hid (HLg.out k x hx)
      have HEk := hid (show TxtEnv wk from HE.out.below (by rw [HRR.out]; exact HB.out))
      have HOk := hid (show Ops wk G from fun j v hj => HM.out.cell HSz5.out.2.2.1 (HOp.out j v hj))
      have HRk := hid (show wk.rowIs R 25 3 (pfun 0 (.slice none 0 0) (.slice none 0 0)) from HR5.out.of_block (HM.out.old R HSz5.out.1))
      clear hx
      cases hrd : readT x.data.toList with
      | none =>
        have HRd := hid (read_no (by omega) HEk.out hrd)
        have hl0 : readT (ls.getD k []) = none := by rw [HG.out]; exact hrd
        have hpar := hid (show parR s = (0, [], [], 3) from HPn.out (by
          have h2 : 2 ≤ ls.length := by rw [HLl.out]; omega
          by_cases h0 : k = 0
          · subst h0; exact lines_first h2 (fun m => by rw [hl0]; simp)
          · by_cases h1 : k = ls.length - 1
            · subst h1; exact lines_last h2 (fun m => by rw [hl0]; simp)
            · exact lines_mid (k := k) (by omega) (by rw [HLl.out] at h1 ⊢; omega) (lineI_read hl0)))
        clear hrd hl0
        go_upto_region 13 with (go_at_call 27; refine HRd.out.mono ?_; rintro e w6 ⟨rfl, hb6⟩)
        obtain ⟨w7, hw7⟩ : ∃ w7, w6.alloc (.cells #[.string ⟨#[]⟩] 9) = w7 := ⟨_, rfl⟩
        have hb67 : Below w6.heap.size w6 w7 := by rw [← hw7]; exact bel_alloc _ _
        have cw : w7.cell? ⟨w6.heap.size, 0, none⟩ = some (.string ⟨#[]⟩) := by rw [← hw7]; simp
        have HIx := hid (index_any w6.heap.size G ⟨#[]⟩ w7 ((HOk.out.below hb6 (by have := HM.out.size; have := HSz5.out; omega)).below hb67 (by have := HM.out.size; have := HSz5.out; have := hb6.size; omega)) (by have := HM.out.size; have := HSz5.out; have := hb6.size; have := hb67.size; omega) cw)
        change Hid (Calls Tryz.prog 28 _ _ fun e w' => e = .returned (.int .i64 (ixO [])) ∧ _) at HIx
        rw [hw7]
        clear hw7
        have hsz67 := hb67.size
        go_upto_region 16 with (go_at_call 28; refine HIx.out.mono ?_; rintro e w8 ⟨rfl, hb8⟩)
        have cw := keeps hb8 cw
        have HB68 := hid (show Below w6.heap.size w6 w8 from hb67.trans (hb8.mono hb67.size))
        have HB8 := hid (show Below wk.heap.size wk w8 from hb6.trans (HB68.out.mono hb6.size))
        have HSb := hid (show wk.heap.size ≤ w6.heap.size from hb6.size)
        clear hb6 hb67 hb8 HIx hsz67
        have hr := row_below HRk.out HB8.out
        have r0 := hr.cell (i := 0) (by omega)
        have r1 := hr.cell (i := 1) (by omega)
        have r2 := hr.cell (i := 2) (by omega)
        have q0 := hr.frozen 0
        have q1 := hr.frozen 1
        have q2 := hr.frozen 2
        simp only [pfun] at r0 r1 r2
        have hop : (ixO [] : Int) = -1 := rfl
        generalize ixO [] = op at *
        go_wp2
        refine bodyPost_ret (v := .tuple #[.agg #[.int .i64 0, .slice none 0 0, .slice none 0 0], .int .i64 3]) ?_ rfl (HPb.out _ _ 3 hpar.out rfl ?_)
        · simp [results, Tryz.results8, go_sem, r0, r1, r2]
        · exact zero_set (HB.out.trans (HB8.out.mono (show R ≤ wk.heap.size by have := HM.out.size; have := HSz5.out; omega))) (Nat.le_refl _) _ _ _
      | some r =>
        obtain ⟨wd, l⟩ := r
        have HRd := hid (read_yes (by omega) HEk.out hrd)
        have hl0 : readT (ls.getD k []) = some (wd, l) := by rw [HG.out]; exact hrd
        have HLi := hid (lineI_of hl0)
        have HL0 := hid hl0
        clear hrd hl0
        go_upto_region 13 with (go_at_call 27; refine HRd.out.mono ?_; rintro e w6 ⟨u, rfl, ho6, hb6⟩; have HO6 := hid ho6; clear ho6)
        obtain ⟨w7, hw7⟩ : ∃ w7, w6.alloc (.cells #[.string ⟨wd.toArray⟩] 9) = w7 := ⟨_, rfl⟩
        have hb67 : Below w6.heap.size w6 w7 := by rw [← hw7]; exact bel_alloc _ _
        have cw : w7.cell? ⟨w6.heap.size, 0, none⟩ = some (.string ⟨wd.toArray⟩) := by rw [← hw7]; simp
        have HIx := hid (index_any w6.heap.size G ⟨wd.toArray⟩ w7 ((HOk.out.below hb6 (by have := HM.out.size; have := HSz5.out; omega)).below hb67 (by have := HM.out.size; have := HSz5.out; have := hb6.size; omega)) (by have := HM.out.size; have := HSz5.out; have := hb6.size; have := hb67.size; omega) cw)
        change Hid (Calls Tryz.prog 28 _ _ fun e w' => e = .returned (.int .i64 (ixO wd)) ∧ _) at HIx
        rw [hw7]
        clear hw7
        have hsz67 := hb67.size
        go_upto_region 16 with (go_at_call 28; refine HIx.out.mono ?_; rintro e w8 ⟨rfl, hb8⟩)
        have cw := keeps hb8 cw
        have HB68 := hid (show Below w6.heap.size w6 w8 from hb67.trans (hb8.mono hb67.size))
        have HB8 := hid (show Below wk.heap.size wk w8 from hb6.trans (HB68.out.mono hb6.size))
        have HSb := hid (show wk.heap.size ≤ w6.heap.size from hb6.size)
        clear hb6 hb67 hb8 HIx hsz67
        have HOu := hid (own_base (own_below HO6.out HB68.out) (Nat.le_refl _))
        have HM8 := hid (HM.out.below HB8.out)
        have c8 := cw
        clear HO6 HRd
        have hop : Hid (opOf wd = 0 ∧ ixO wd = -1 ∨ opOf wd ≠ 0 ∧ ixO wd = opOf wd) := hid (by unfold ixO; by_cases h : opOf wd = 0; exact .inl ⟨h, if_pos h⟩; exact .inr ⟨h, if_neg h⟩)
        generalize ixO wd = op at *
        have hbl := word_list wd
        have HRb := hid (show R ≤ wk.heap.size by have := HM.out.size; have := HSz5.out; omega)
        have HBz := hid (HB.out.trans (HB8.out.mono HRb.out))
        have HP6 := hid (show P + 1 ≤ w6.heap.size from Nat.le_trans HM.out.size HSb.out)
        have hr := row_below HRk.out HB8.out
        by_cases hk0 : k = 0
        · subst hk0
          obtain ⟨rfl, rfl, rfl⟩ := HS.out.1 rfl
          by_cases hw1 : wd = wProg
          · by_cases hl1 : l.length = 1
            · obtain ⟨m, rfl⟩ : ∃ m, l = [m] := by
                match l, hl1 with
                | [m], _ => exact ⟨m, rfl⟩
              have e1 : (⟨wd.toArray⟩ : ByteArray).toList = [112, 114, 111, 103, 114, 97, 109] := hbl.trans hw1
              have e2 : ((⟨wd.toArray⟩ : ByteArray).toList == [112, 114, 111, 103, 114, 97, 109]) = true := by rw [beq_iff_eq]; exact e1
              have HS1 := hid (st_first (ls := ls) (n := m) (by rw [HLl.out]; omega) (by rw [HL0.out, hw1]))
              clear hw1 hbl HLi HL0 hop
              generalize (⟨wd.toArray⟩ : ByteArray) = hb at *
              obtain ⟨au, cu, rfl⟩ := own_slice HOu.out
              obtain ⟨bu, ou, rfl, cu0⟩ := (Sl.of_owns HOu.out).cell (k := 0) (x := .int .i64 (m : Int)) rfl
              have cu0 : w8.cell? ⟨bu, ou, none⟩ = some (.int .i64 (m : Int)) := cu0
              have HM9 := hid (HM8.out.set0 (m : Int))
              have d0 := HM8.out.box.cell (i := 0) (by omega)
              have z0 := HM8.out.box.frozen 0
              simp only [pfun] at d0
              have hone : [m].length = 1 := rfl
              rw [hone] at *
              go_wp2
              go_roundw
              case rel => exact ⟨1, m, vc, vo, [], [], by omega, rfl, HM9, HS1, hid (Nat.zero_le _), hid (HBz.out.setCell (p := ⟨P, 0, none⟩) (by have := HSz5.out; show R ≤ P; omega) _)⟩
              case measure => simp [intOf]; omega
            · have hpar := hid (show parR s = (0, [], [], 3) from HPn.out (lines_first (by rw [HLl.out]; omega) (fun m hm => hl1 (by rw [HL0.out] at hm; simp only [Option.some.injEq, Prod.mk.injEq] at hm; rw [hm.2]; rfl))))
              have e1 : (⟨wd.toArray⟩ : ByteArray).toList = [112, 114, 111, 103, 114, 97, 109] := hbl.trans hw1
              have e2 : ((⟨wd.toArray⟩ : ByteArray).toList == [112, 114, 111, 103, 114, 97, 109]) = true := by rw [beq_iff_eq]; exact e1
              have hl1I : ((l.length : Int) == 1) = false := by rw [beq_eq_false_iff_ne]; omega
              clear hw1 hbl HLi HL0 hop
              generalize (⟨wd.toArray⟩ : ByteArray) = hb at *
              obtain ⟨au, cu, rfl⟩ := own_slice HOu.out
              have r0 := hr.cell (i := 0) (by omega)
              have r1 := hr.cell (i := 1) (by omega)
              have r2 := hr.cell (i := 2) (by omega)
              have q0 := hr.frozen 0
              have q1 := hr.frozen 1
              have q2 := hr.frozen 2
              simp only [pfun] at r0 r1 r2
              go_wp2
              refine bodyPost_ret (v := .tuple #[.agg #[.int .i64 0, .slice none 0 0, .slice none 0 0], .int .i64 3]) ?_ rfl (HPb.out _ _ 3 hpar.out rfl ?_)
              · simp [results, Tryz.results8, go_sem, r0, r1, r2]
              · exact zero_set (HBz.out) (Nat.le_refl _) _ _ _
          · have hpar := hid (show parR s = (0, [], [], 3) from HPn.out (lines_first (by rw [HLl.out]; omega) (fun m hm => hw1 (by rw [HL0.out] at hm; simp only [Option.some.injEq, Prod.mk.injEq] at hm; exact hm.1))))
            have e1 : ¬ (⟨wd.toArray⟩ : ByteArray).toList = [112, 114, 111, 103, 114, 97, 109] := fun e => hw1 (hbl.symm.trans e)
            have e2 : ((⟨wd.toArray⟩ : ByteArray).toList == [112, 114, 111, 103, 114, 97, 109]) = false := by rw [beq_eq_false_iff_ne]; exact e1
            clear hw1 hbl HLi HL0 hop
            generalize (⟨wd.toArray⟩ : ByteArray) = hb at *
            have r0 := hr.cell (i := 0) (by omega)
            have r1 := hr.cell (i := 1) (by omega)
            have r2 := hr.cell (i := 2) (by omega)
            have q0 := hr.frozen 0
            have q1 := hr.frozen 1
            have q2 := hr.frozen 2
            simp only [pfun] at r0 r1 r2
            go_wp2
            refine bodyPost_ret (v := .tuple #[.agg #[.int .i64 0, .slice none 0 0, .slice none 0 0], .int .i64 3]) ?_ rfl (HPb.out _ _ 3 hpar.out rfl ?_)
            · simp [results, Tryz.results8, go_sem, r0, r1, r2]
            · exact zero_set (HBz.out) (Nat.le_refl _) _ _ _
        · have hk0I : ((k : Int) == 0) = false := by rw [beq_eq_false_iff_ne]; omega
          by_cases hkl : k = L.length - 1
          · have hklI : ((k : Int) == (L.length : Int) - 1) = true := by rw [beq_iff_eq]; omega
            by_cases hw1 : wd = wOut
            · have e1 : (⟨wd.toArray⟩ : ByteArray).toList = [111, 117, 116] := hbl.trans hw1
              have e2 : ((⟨wd.toArray⟩ : ByteArray).toList == [111, 117, 116]) = true := by rw [beq_iff_eq]; exact e1
              have hkls : k = ls.length - 1 := by rw [HLl.out]; exact hkl
              have HS1 := hid (show StP ls (k + 1) n c l by
                have h := st_last (ls := ls) (by rw [HLl.out]; omega) (by rw [← hkls]; exact HS.out) (by rw [← hkls, HL0.out, hw1])
                rw [show k + 1 = ls.length by rw [HLl.out]; omega]; exact h)
              have HM9 := hid (HM8.out.set2 (own_base HOu.out (by have := HP6.out; have := HM.out.size; omega)))
              clear hw1 hbl HLi HL0 hop hkl hkls
              generalize (⟨wd.toArray⟩ : ByteArray) = hb at *
              obtain ⟨au, cu, rfl⟩ := own_slice HOu.out
              have d2 := HM8.out.box.cell (i := 2) (by omega)
              have z2 := HM8.out.box.frozen 2
              simp only [pfun] at d2
              go_wp2
              go_roundw
              case rel => exact ⟨k + 1, n, vc, _, c, l, by omega, by go_num, HM9, HS1, hid (Nat.le_succ_of_le HLen.out), hid (HBz.out.setCell (p := ⟨P, 2, none⟩) (by have := HSz5.out; show R ≤ P; omega) _)⟩
              case measure => simp [intOf]; omega
            · have hpar := hid (show parR s = (0, [], [], 3) from HPn.out (lines_last (by rw [HLl.out]; omega) (fun m hm => hw1 (by rw [HLl.out, ← hkl, HL0.out] at hm; simp only [Option.some.injEq, Prod.mk.injEq] at hm; exact hm.1))))
              have e1 : ¬ (⟨wd.toArray⟩ : ByteArray).toList = [111, 117, 116] := fun e => hw1 (hbl.symm.trans e)
              have e2 : ((⟨wd.toArray⟩ : ByteArray).toList == [111, 117, 116]) = false := by rw [beq_eq_false_iff_ne]; exact e1
              clear hw1 hbl HLi HL0 hop hkl
              generalize (⟨wd.toArray⟩ : ByteArray) = hb at *
              have r0 := hr.cell (i := 0) (by omega)
              have r1 := hr.cell (i := 1) (by omega)
              have r2 := hr.cell (i := 2) (by omega)
              have q0 := hr.frozen 0
              have q1 := hr.frozen 1
              have q2 := hr.frozen 2
              simp only [pfun] at r0 r1 r2
              go_wp2
              refine bodyPost_ret (v := .tuple #[.agg #[.int .i64 0, .slice none 0 0, .slice none 0 0], .int .i64 3]) ?_ rfl (HPb.out _ _ 3 hpar.out rfl ?_)
              · simp [results, Tryz.results8, go_sem, r0, r1, r2]
              · exact zero_set (HBz.out) (Nat.le_refl _) _ _ _
          · have hklI : ((k : Int) == (L.length : Int) - 1) = false := by rw [beq_eq_false_iff_ne]; omega
            have HMd := hid (fun (h : opOf wd = 0 ∨ (l.length : Int) ≠ usedN (opOf wd)) => (show parR s = (0, [], [], 3) from HPn.out (lines_mid (k := k) (by omega) (by rw [HLl.out]; omega) (by rw [HLi.out]; exact insOf_none h))))
            rcases hop.out with ⟨ho1, ho2⟩ | ⟨ho1, ho2⟩
            · have hpar := hid (HMd.out (.inl ho1))
              clear hbl HLi HL0 hop ho1
              generalize (⟨wd.toArray⟩ : ByteArray) = hb at *
              have r0 := hr.cell (i := 0) (by omega)
              have r1 := hr.cell (i := 1) (by omega)
              have r2 := hr.cell (i := 2) (by omega)
              have q0 := hr.frozen 0
              have q1 := hr.frozen 1
              have q2 := hr.frozen 2
              simp only [pfun] at r0 r1 r2
              go_wp2
              refine bodyPost_ret (v := .tuple #[.agg #[.int .i64 0, .slice none 0 0, .slice none 0 0], .int .i64 3]) ?_ rfl (HPb.out _ _ 3 hpar.out rfl ?_)
              · simp [results, Tryz.results8, go_sem, r0, r1, r2]
              · exact zero_set (HBz.out) (Nat.le_refl _) _ _ _
            · obtain ⟨o1, o5, -⟩ := opOf_some ho1
              rw [← ho2] at o1 o5
              have HO8 := hid (HOk.out.below HB8.out (by have := HM.out.size; have := HSz5.out; omega))
              have n1 := HO8.out.num' o1 o5
              have hu3 := usedN_three o1 o5
              by_cases hlu : (l.length : Int) = usedN op
              · have hx := HLi.out.trans (insOf_some ho1 (by rw [← ho2]; exact hlu))
                rw [← ho2] at hx
                have HS1 := hid (st_mid (by omega) (by rw [HLl.out]; omega) HS.out hx)
                have hluI : ((l.length : Int) == usedN op) = true := by rw [beq_iff_eq]; exact hlu
                have hluJ : ((l.length : Int) != usedN op) = false := by rw [bne, hluI]; rfl
                have hl2 : l.length ≤ 2 := by omega
                clear hbl HLi HL0 hop ho1 ho2 HMd hx
                generalize usedN op = U at *
                generalize (⟨wd.toArray⟩ : ByteArray) = hb at *
                obtain ⟨au, cu, rfl⟩ := own_slice HOu.out
                have p0 : (0 : Int) ≤ op := by omega
                have p6 : op < 6 := by omega
                have hw8 : wk.heap.size ≤ w8.heap.size := HB8.out.size
                have hcl := HLen.out
                go_upto_region 15 with (at_builtin; refine wpList_push2 w8 rfl _ _ 23 rfl wk.heap.size 3 (.int .i64 0) 8 Tryz.underlying23 Tryz.infoInt rfl (.slice au l.length cu) l.length (ints (natI l)) rfl HOu.out #[.int .i64 0, .int .i64 0] rfl (by simp [Value.oneCell']) rfl (by unfold maxLen; omega) (by omega) hw8 ?_; intro g1 gc1 wa hown hba; have HOa := hid hown; have HBa := hid (HB8.out.trans hba); clear hown hba)
                obtain ⟨t0, t1⟩ := two_get l
                have HMa := hid (HM.out.below HBa.out)
                have hra := HBa.out.size
                obtain ⟨ac, cc, rfl⟩ := own_slice HMa.out.code
                obtain ⟨ba, oa, hba, s0⟩ := (Sl.of_owns HOa.out).cell t0
                simp only [Option.some.injEq, Addr.mk.injEq, and_true] at hba
                obtain ⟨rfl, rfl⟩ := hba
                have s0 : wa.cell? ⟨g1, 0, none⟩ = some (.int .i64 ((l.getD 0 0 : Nat) : Int)) := s0
                obtain ⟨ba, oa, hba, s1⟩ := (Sl.of_owns HOa.out).cell t1
                simp only [Option.some.injEq, Addr.mk.injEq, and_true] at hba
                obtain ⟨rfl, rfl⟩ := hba
                have s1 : wa.cell? ⟨g1, 1, none⟩ = some (.int .i64 ((l.getD 1 0 : Nat) : Int)) := s1
                have hU0 : ¬ U + 2 ≤ 0 := by omega
                have hU1 : ¬ U + 2 ≤ 1 := by omega
                clear t0 t1 hr n1 hu3 cw c8
                generalize l.getD 0 0 = l0 at *
                generalize l.getD 1 0 = l1 at *
                refine wp_region_held_drew (S := (fun w' => w'.cell? ⟨g1, 0, none⟩ = some (.int .i64 (l0 : Int)) ∧ w'.cell? ⟨g1, 1, none⟩ = some (.int .i64 (l1 : Int)))) (by kernel_rfl) ⟨s0, s1⟩ (fun hHeld => ?_)
                have HMd := hid (HMa.out.below (below_drewN (Below.refl _ _) 1))
                have HBd := hid (HBa.out.trans (below_drewN (Below.refl _ wa) 1))
                change wa.drew.cell? ⟨g1, 0, none⟩ = some (.int .i64 (l0 : Int)) ∧ wa.drew.cell? ⟨g1, 1, none⟩ = some (.int .i64 (l1 : Int)) at hHeld
                change Hid (PM w5 P LB G L wa.drew _ _ _ _ _) at HMd
                change Hid (Below wk.heap.size wk wa.drew) at HBd
                have hgd : g1 < wa.drew.heap.size := World.block_lt_of_cell? wa.drew _ hHeld.1
                have HOd := hid (own_below HOa.out (below_drewN (Below.refl _ wa) 1))
                change Hid (wa.drew.ownsRow _ _ _ _ _ _) at HOd
                clear s0 s1 HOa HMa HBa
                generalize wa.drew = wd at *
                obtain ⟨hg1b, -⟩ := own_block HOd.out (g := g1) rfl
                have hg1P : P < g1 := by have := HM.out.size; omega
                refine wpAnyH_take (i := 0) (v := .pointer (some ⟨P, 1, none⟩)) rfl (by kernel_rfl) (by kernel_rfl) (by kernel_rfl) (fun _ _ _ h => h) (Or.inl ⟨by rfl, fun w hSw => ?_⟩) (by assumption) ?_
                · (try dsimp only at hSw); go_simp
                try simp only [Act.put, List.setIfInBounds_toArray, List.set_cons_zero, List.set_cons_succ, List.getElem_toArray, List.getElem_cons_zero, List.getElem_cons_succ]
                refine wpAnyH_take (i := 2) (v := .int .i64 op) rfl (by kernel_rfl) (by kernel_rfl) (by kernel_rfl) (fun _ _ _ h => h) (Or.inl ⟨by rfl, fun w hSw => ?_⟩) (by assumption) ?_
                · (try dsimp only at hSw); go_simp
                try simp only [Act.put, List.setIfInBounds_toArray, List.set_cons_zero, List.set_cons_succ, List.getElem_toArray, List.getElem_cons_zero, List.getElem_cons_succ]
                refine wpAnyH_take (i := 3) (v := .slice (some ⟨g1, 0, none⟩) (l.length + 2) gc1) rfl (by kernel_rfl) (by kernel_rfl) (by kernel_rfl) (fun _ _ _ h => h) (Or.inl ⟨by rfl, fun w hSw => ?_⟩) (by assumption) ?_
                · (try dsimp only at hSw); go_simp
                try simp only [Act.put, List.setIfInBounds_toArray, List.set_cons_zero, List.set_cons_succ, List.getElem_toArray, List.getElem_cons_zero, List.getElem_cons_succ]
                refine wpAnyH_take (i := 4) (v := .pointer (some ⟨g1, 0, none⟩)) rfl (by kernel_rfl) (by kernel_rfl) (by kernel_rfl) (fun _ _ _ h => h) (Or.inl ⟨by rfl, fun w hSw => ?_⟩) (by assumption) ?_
                · (try dsimp only at hSw); go_simp
                try simp only [Act.put, List.setIfInBounds_toArray, List.set_cons_zero, List.set_cons_succ, List.getElem_toArray, List.getElem_cons_zero, List.getElem_cons_succ]
                refine wpAnyH_take (i := 5) (v := .int .i64 (l0 : Int)) rfl (by kernel_rfl) (by kernel_rfl) (by kernel_rfl) (fun _ _ _ h => h) (Or.inl ⟨by rfl, fun w hSw => ?_⟩) (by assumption) ?_
                · (try dsimp only at hSw); go_simp
                try simp only [Act.put, List.setIfInBounds_toArray, List.set_cons_zero, List.set_cons_succ, List.getElem_toArray, List.getElem_cons_zero, List.getElem_cons_succ]
                refine wpAnyH_take (i := 6) (v := .slice (some ⟨g1, 0, none⟩) (l.length + 2) gc1) rfl (by kernel_rfl) (by kernel_rfl) (by kernel_rfl) (fun _ _ _ h => h) (Or.inl ⟨by rfl, fun w hSw => ?_⟩) (by assumption) ?_
                · (try dsimp only at hSw); go_simp
                try simp only [Act.put, List.setIfInBounds_toArray, List.set_cons_zero, List.set_cons_succ, List.getElem_toArray, List.getElem_cons_zero, List.getElem_cons_succ]
                refine wpAnyH_take (i := 7) (v := .pointer (some ⟨g1, 1, none⟩)) rfl (by kernel_rfl) (by kernel_rfl) (by kernel_rfl) (fun _ _ _ h => h) (Or.inl ⟨by rfl, fun w hSw => ?_⟩) (by assumption) ?_
                · (try dsimp only at hSw); go_simp
                try simp only [Act.put, List.setIfInBounds_toArray, List.set_cons_zero, List.set_cons_succ, List.getElem_toArray, List.getElem_cons_zero, List.getElem_cons_succ]
                refine wpAnyH_take (i := 8) (v := .int .i64 (l1 : Int)) rfl (by kernel_rfl) (by kernel_rfl) (by kernel_rfl) (fun _ _ _ h => h) (Or.inl ⟨by rfl, fun w hSw => ?_⟩) (by assumption) ?_
                · (try dsimp only at hSw); go_simp
                try simp only [Act.put, List.setIfInBounds_toArray, List.set_cons_zero, List.set_cons_succ, List.getElem_toArray, List.getElem_cons_zero, List.getElem_cons_succ]
                refine wpAnyH_take (i := 9) (v := .agg #[.int .i64 op, .int .i64 (l0 : Int), .int .i64 (l1 : Int)]) rfl (by kernel_rfl) (by kernel_rfl) (by kernel_rfl) (fun _ _ _ h => h) (Or.inl ⟨by rfl, fun w hSw => ?_⟩) (by assumption) ?_
                · (try dsimp only at hSw); go_simp
                try simp only [Act.put, List.setIfInBounds_toArray, List.set_cons_zero, List.set_cons_succ, List.getElem_toArray, List.getElem_cons_zero, List.getElem_cons_succ]
                obtain ⟨iC0, iC1, iC2, iC3, iC4⟩ := HMd.out
                have d1 := iC0.cell (i := 1) (by omega)
                simp only [pfun] at d1
                have hPd : P < wd.heap.size := iC0.lt
                refine wpAnyH_ready (rs := [1, 10]) (by kernel_rfl) (by simp) (AllReadyH.cons rfl (fun K hK => ?_) (AllReadyH.cons rfl (fun K hK => ?_) AllReadyH.nil))
                · go_simp
                  refine hK.out _ _ hHeld (fun _ => ?_)
                  clear hK K
                  try simp only [Act.put, List.setIfInBounds_toArray, List.set_cons_zero, List.set_cons_succ, List.getElem_toArray, List.getElem_cons_zero, List.getElem_cons_succ]
                  refine wpAnyH_ready (rs := [10]) (by kernel_rfl) (by simp) (AllReadyH.cons rfl (fun K hK => ?_) AllReadyH.nil)
                  go_simp
                  refine hK.out _ _ ⟨keeps (bel_alloc _ _) hHeld.1, keeps (bel_alloc _ _) hHeld.2⟩ (fun _ => ?_)
                  clear hK K
                  try simp only [Act.put, List.setIfInBounds_toArray, List.set_cons_zero, List.set_cons_succ, List.getElem_toArray, List.getElem_cons_zero, List.getElem_cons_succ]
                  have HX := hid (HMd.out.below (bel_alloc wd (.cells #[.int .i64 op, .int .i64 (l0 : Int), .int .i64 (l1 : Int)] 36)))
                  have hneg : some g1 ≠ (Value.slice ac c.length cc).ownBlock := by
                    rcases own_apart HOd.out HMd.out.code (by decide) with h | h
                    · cases h
                    · exact h
                  refine wpAnyH_ready (rs := [11]) (by kernel_rfl) (by simp) (AllReadyH.cons rfl (fun K hK => ?_) AllReadyH.nil)
                  refine step_push (by rfl) _ _ 22 (by rfl) (P + 1) 36 (.agg #[.int .i64 0, .int .i64 0, .int .i64 0]) 3 24 Tryz.underlying22 Tryz.infoInstr rfl (by decide) (.slice ac c.length cc) c.length (icells c) (by rfl) HX.out.code wd.heap.size #[.int .i64 op, .int .i64 (l0 : Int), .int .i64 (l1 : Int)] rfl (by intro u hu; simp at hu; rcases hu with rfl | rfl | rfl <;> rfl) (by rfl) (heap_alloc_new _ _) (by unfold maxLen; omega) (by omega) (by simp; omega) ?_
                  intro g gc w3 hown3 hg3 hb3
                  have hS3 : ∀ j v, wd.cell? ⟨g1, j, none⟩ = some v → w3.cell? ⟨g1, j, none⟩ = some v := fun j v hv => by
                    have h1 := keeps (bel_alloc wd (.cells #[.int .i64 op, .int .i64 (l0 : Int), .int .i64 (l1 : Int)] 36)) hv
                    exact (World.cell?_of_block (hg3.block _ (World.block_lt_of_cell? _ _ h1) hneg)).trans h1
                  have hp3 := row_grown HX.out.box hg3 (row_ne_low53 HX.out.code (Nat.lt_succ_self P))
                  have k1 := hp3.cell (i := 1) (by omega)
                  have kf := hp3.frozen 1
                  have HM3 := hid (HX.out.set1 (x := ⟨op, l0, l1⟩) hg3 hown3)
                  refine hK.out _ _ ⟨hS3 0 _ hHeld.1, hS3 1 _ hHeld.2⟩ (fun _ => ?_)
                  clear hK K
                  try simp only [Act.put, List.setIfInBounds_toArray, List.set_cons_zero, List.set_cons_succ, List.getElem_toArray, List.getElem_cons_zero, List.getElem_cons_succ]
                  refine wpAnyH_take (i := 12) (v := .pointer (some ⟨P, 1, none⟩)) rfl (by kernel_rfl) (by kernel_rfl) (by kernel_rfl) (fun _ _ _ h => h) (Or.inl ⟨by rfl, fun w hSw => ?_⟩) (by exact ⟨hS3 0 _ hHeld.1, hS3 1 _ hHeld.2⟩) ?_
                  · (try dsimp only at hSw); go_simp
                  try simp only [Act.put, List.setIfInBounds_toArray, List.set_cons_zero, List.set_cons_succ, List.getElem_toArray, List.getElem_cons_zero, List.getElem_cons_succ]
                  refine wpAnyH_ready (rs := [13]) (by kernel_rfl) (by simp) (AllReadyH.cons rfl (fun K hK => ?_) AllReadyH.nil)
                  go_simp
                  refine hK.out _ _ ⟨?_, ?_⟩ (fun _ => ?_)
                  · rw [World.cell?_setCell_other _ _ _ _ (by simp)]; exact hS3 0 _ hHeld.1
                  · rw [World.cell?_setCell_other _ _ _ _ (by simp)]; exact hS3 1 _ hHeld.2
                  clear hK K
                  try simp only [Act.put, List.setIfInBounds_toArray, List.set_cons_zero, List.set_cons_succ, List.getElem_toArray, List.getElem_cons_zero, List.getElem_cons_succ]
                  refine wpAnyH_done (by kernel_rfl) ?_ _
                  go_wp2
                  go_roundw
                  case rel => exact ⟨k + 1, n, _, vo, _, o, by omega, by go_num, HM3, HS1, hid (by rw [List.length_append]; exact Nat.succ_le_succ hcl), hid (((HB.out.trans ((HBd.out.trans ((bel_alloc wd (.cells #[.int .i64 op, .int .i64 (l0 : Int), .int .i64 (l1 : Int)] 36)).mono HBd.out.size)).mono HRb.out)).trans (hb3.mono (by have := HSz5.out; omega))).setCell (p := ⟨P, 1, none⟩) (by have := HSz5.out; show R ≤ P; omega) _)⟩
                  case measure => simp [intOf]; omega
                · go_simp
                  refine hK.out _ _ ⟨keeps (bel_alloc _ _) hHeld.1, keeps (bel_alloc _ _) hHeld.2⟩ (fun _ => ?_)
                  clear hK K
                  try simp only [Act.put, List.setIfInBounds_toArray, List.set_cons_zero, List.set_cons_succ, List.getElem_toArray, List.getElem_cons_zero, List.getElem_cons_succ]
                  have d1' := keeps (bel_alloc wd (.cells #[.int .i64 op, .int .i64 (l0 : Int), .int .i64 (l1 : Int)] 36)) d1
                  refine wpAnyH_ready (rs := [1]) (by kernel_rfl) (by simp) (AllReadyH.cons rfl (fun K hK => ?_) AllReadyH.nil)
                  go_simp
                  refine hK.out _ _ ⟨keeps (bel_alloc _ _) hHeld.1, keeps (bel_alloc _ _) hHeld.2⟩ (fun _ => ?_)
                  clear hK K
                  try simp only [Act.put, List.setIfInBounds_toArray, List.set_cons_zero, List.set_cons_succ, List.getElem_toArray, List.getElem_cons_zero, List.getElem_cons_succ]
                  have HX := hid (HMd.out.below (bel_alloc wd (.cells #[.int .i64 op, .int .i64 (l0 : Int), .int .i64 (l1 : Int)] 36)))
                  have hneg : some g1 ≠ (Value.slice ac c.length cc).ownBlock := by
                    rcases own_apart HOd.out HMd.out.code (by decide) with h | h
                    · cases h
                    · exact h
                  refine wpAnyH_ready (rs := [11]) (by kernel_rfl) (by simp) (AllReadyH.cons rfl (fun K hK => ?_) AllReadyH.nil)
                  refine step_push (by rfl) _ _ 22 (by rfl) (P + 1) 36 (.agg #[.int .i64 0, .int .i64 0, .int .i64 0]) 3 24 Tryz.underlying22 Tryz.infoInstr rfl (by decide) (.slice ac c.length cc) c.length (icells c) (by rfl) HX.out.code wd.heap.size #[.int .i64 op, .int .i64 (l0 : Int), .int .i64 (l1 : Int)] rfl (by intro u hu; simp at hu; rcases hu with rfl | rfl | rfl <;> rfl) (by rfl) (heap_alloc_new _ _) (by unfold maxLen; omega) (by omega) (by simp; omega) ?_
                  intro g gc w3 hown3 hg3 hb3
                  have hS3 : ∀ j v, wd.cell? ⟨g1, j, none⟩ = some v → w3.cell? ⟨g1, j, none⟩ = some v := fun j v hv => by
                    have h1 := keeps (bel_alloc wd (.cells #[.int .i64 op, .int .i64 (l0 : Int), .int .i64 (l1 : Int)] 36)) hv
                    exact (World.cell?_of_block (hg3.block _ (World.block_lt_of_cell? _ _ h1) hneg)).trans h1
                  have hp3 := row_grown HX.out.box hg3 (row_ne_low53 HX.out.code (Nat.lt_succ_self P))
                  have k1 := hp3.cell (i := 1) (by omega)
                  have kf := hp3.frozen 1
                  have HM3 := hid (HX.out.set1 (x := ⟨op, l0, l1⟩) hg3 hown3)
                  refine hK.out _ _ ⟨hS3 0 _ hHeld.1, hS3 1 _ hHeld.2⟩ (fun _ => ?_)
                  clear hK K
                  try simp only [Act.put, List.setIfInBounds_toArray, List.set_cons_zero, List.set_cons_succ, List.getElem_toArray, List.getElem_cons_zero, List.getElem_cons_succ]
                  refine wpAnyH_take (i := 12) (v := .pointer (some ⟨P, 1, none⟩)) rfl (by kernel_rfl) (by kernel_rfl) (by kernel_rfl) (fun _ _ _ h => h) (Or.inl ⟨by rfl, fun w hSw => ?_⟩) (by exact ⟨hS3 0 _ hHeld.1, hS3 1 _ hHeld.2⟩) ?_
                  · (try dsimp only at hSw); go_simp
                  try simp only [Act.put, List.setIfInBounds_toArray, List.set_cons_zero, List.set_cons_succ, List.getElem_toArray, List.getElem_cons_zero, List.getElem_cons_succ]
                  refine wpAnyH_ready (rs := [13]) (by kernel_rfl) (by simp) (AllReadyH.cons rfl (fun K hK => ?_) AllReadyH.nil)
                  go_simp
                  refine hK.out _ _ ⟨?_, ?_⟩ (fun _ => ?_)
                  · rw [World.cell?_setCell_other _ _ _ _ (by simp)]; exact hS3 0 _ hHeld.1
                  · rw [World.cell?_setCell_other _ _ _ _ (by simp)]; exact hS3 1 _ hHeld.2
                  clear hK K
                  try simp only [Act.put, List.setIfInBounds_toArray, List.set_cons_zero, List.set_cons_succ, List.getElem_toArray, List.getElem_cons_zero, List.getElem_cons_succ]
                  refine wpAnyH_done (by kernel_rfl) ?_ _
                  go_wp2
                  go_roundw
                  case rel => exact ⟨k + 1, n, _, vo, _, o, by omega, by go_num, HM3, HS1, hid (by rw [List.length_append]; exact Nat.succ_le_succ hcl), hid (((HB.out.trans ((HBd.out.trans ((bel_alloc wd (.cells #[.int .i64 op, .int .i64 (l0 : Int), .int .i64 (l1 : Int)] 36)).mono HBd.out.size)).mono HRb.out)).trans (hb3.mono (by have := HSz5.out; omega))).setCell (p := ⟨P, 1, none⟩) (by have := HSz5.out; show R ≤ P; omega) _)⟩
                  case measure => simp [intOf]; omega
              · have hpar := hid (HMd.out (.inr (by rw [← ho2]; exact hlu)))
                have hluI : ((l.length : Int) == usedN op) = false := by rw [beq_eq_false_iff_ne]; exact hlu
                have hluJ : ((l.length : Int) != usedN op) = true := by rw [bne, hluI]; rfl
                clear hbl HLi HL0 hop ho1 ho2 HMd
                generalize usedN op = U at *
                generalize (⟨wd.toArray⟩ : ByteArray) = hb at *
                obtain ⟨au, cu, rfl⟩ := own_slice HOu.out
                have p0 : (0 : Int) ≤ op := by omega
                have p6 : op < 6 := by omega
                have r0 := hr.cell (i := 0) (by omega)
                have r1 := hr.cell (i := 1) (by omega)
                have r2 := hr.cell (i := 2) (by omega)
                have q0 := hr.frozen 0
                have q1 := hr.frozen 1
                have q2 := hr.frozen 2
                simp only [pfun] at r0 r1 r2
                go_wp2
                refine bodyPost_ret (v := .tuple #[.agg #[.int .i64 0, .slice none 0 0, .slice none 0 0], .int .i64 3]) ?_ rfl (HPb.out _ _ 3 hpar.out rfl ?_)
                · simp [results, Tryz.results8, go_sem, r0, r1, r2]
                · exact zero_set (HBz.out) (Nat.le_refl _) _ _ _
    · obtain rfl : k = L.length := by omega
      have hd := st_done (by rw [HLl.out]; omega) (by rw [HLl.out]; exact HS.out)
      have HPar := hid (HPs.out n c o hd)
      have HCk := hid (pcheck_any n vc vo c (natI o) wk (Sl.of_owns HM.out.code) (by rw [natI_len]; exact Sl.of_owns HM.out.outs))
      have HRk := hid (show wk.rowIs R 25 3 (pfun 0 (.slice none 0 0) (.slice none 0 0)) from HR5.out.of_block (HM.out.old R HSz5.out.1))
      clear hd HPn HPs
      have d0 := HM.out.box.cell (i := 0) (by omega)
      have d1 := HM.out.box.cell (i := 1) (by omega)
      have d2 := HM.out.box.cell (i := 2) (by omega)
      simp only [pfun] at d0 d1 d2
      have hRk : R ≤ wk.heap.size := by have := HM.out.size; have := HSz5.out; omega
      obtain ⟨ac, cc, rfl⟩ := own_slice HM.out.code
      obtain ⟨ao, co, rfl⟩ := own_slice HM.out.outs
      by_cases hE : progErr (n : Int) c (natI o) = 0
      · rw [hE] at HCk
        have hP := HPar.out
        rw [if_pos hE] at hP
        have HPz := hid hP
        clear hE hP HPar
        go_upto_region 30 with (go_at_call 13; refine HCk.out.mono ?_; rintro e w6 ⟨rfl, hb6⟩; have HB6 := hid hb6; clear hb6)
        have hr := row_below HRk.out HB6.out
        have d0 := keeps HB6.out d0
        have d1 := keeps HB6.out d1
        have d2 := keeps HB6.out d2
        have r0 := hr.cell (i := 0) (by omega)
        have r1 := hr.cell (i := 1) (by omega)
        have r2 := hr.cell (i := 2) (by omega)
        have q0 := hr.frozen 0
        have q1 := hr.frozen 1
        have q2 := hr.frozen 2
        simp only [pfun] at r0 r1 r2
        have HC6 := hid (own_below HM.out.code HB6.out)
        have HO6 := hid (own_below HM.out.outs HB6.out)
        have HBz := hid (HB.out.trans (HB6.out.mono hRk))
        go_wp2
        obtain ⟨wz, hwz⟩ : ∃ wz, (((w6.setCell ⟨R, 0, none⟩ (.int .i64 (n : Int))).setCell ⟨R, 1, none⟩ (.slice ac c.length cc)).setCell ⟨R, 2, none⟩ (.slice ao o.length co)) = wz := ⟨_, rfl⟩
        have hzb : R < P + 1 := by have := HSz5.out; omega
        have s0 : wz.cell? ⟨R, 0, none⟩ = some (.int .i64 (n : Int)) := by rw [← hwz, World.cell?_setCell_other _ _ _ _ (by simp), World.cell?_setCell_other _ _ _ _ (by simp)]; exact World.cell?_setCell_same _ _ _ r0
        have s1 : wz.cell? ⟨R, 1, none⟩ = some (.slice ac c.length cc) := by rw [← hwz, World.cell?_setCell_other _ _ _ _ (by simp)]; exact World.cell?_setCell_same _ _ _ ((World.cell?_setCell_other _ _ _ _ (by simp)).trans r1)
        have s2 : wz.cell? ⟨R, 2, none⟩ = some (.slice ao o.length co) := by rw [← hwz]; exact World.cell?_setCell_same _ _ _ ((World.cell?_setCell_other _ _ _ _ (by simp)).trans ((World.cell?_setCell_other _ _ _ _ (by simp)).trans r2))
        have HCz := hid (show wz.ownsRow (P + 1) 36 3 (.slice ac c.length cc) c.length (icells c) by rw [← hwz]; exact ownsRow_setCell_below (ownsRow_setCell_below (ownsRow_setCell_below HC6.out hzb _) hzb _) hzb _)
        have HOz := hid (show wz.ownsRow (P + 1) 3 1 (.slice ao o.length co) o.length (ints (natI o)) by rw [← hwz]; exact ownsRow_setCell_below (ownsRow_setCell_below (ownsRow_setCell_below HO6.out hzb _) hzb _) hzb _)
        have HWz := hid (show Below R w wz by rw [← hwz]; exact zero_set HBz.out (Nat.le_refl _) _ _ _)
        rw [hwz]
        clear hwz r0 r1 r2 q0 q1 q2 d0 d1 d2
        refine bodyPost_ret (v := .tuple #[.agg #[.int .i64 (n : Int), .slice ac c.length cc, .slice ao o.length co], .int .i64 0]) ?_ rfl ?_
        · simp [results, Tryz.results8, go_sem, s0, s1, s2]
        · unfold ParPost
          rw [HPz.out]
          exact ⟨_, _, rfl, Sl.of_owns HCz.out, by rw [natI_len]; exact Sl.of_owns HOz.out, by rw [HRR.out]; exact HWz.out⟩
      · have hP := HPar.out
        rw [if_neg hE] at hP
        have hpar := hid hP
        have hEn : (progErr (n : Int) c (natI o) != 0) = true := by simp [hE]
        clear hE hP HPar
        generalize progErr (n : Int) c (natI o) = EE at *
        go_upto_region 30 with (go_at_call 13; refine HCk.out.mono ?_; rintro e w6 ⟨rfl, hb6⟩; have HB6 := hid hb6; clear hb6)
        have hr := row_below HRk.out HB6.out
        have r0 := hr.cell (i := 0) (by omega)
        have r1 := hr.cell (i := 1) (by omega)
        have r2 := hr.cell (i := 2) (by omega)
        have q0 := hr.frozen 0
        have q1 := hr.frozen 1
        have q2 := hr.frozen 2
        simp only [pfun] at r0 r1 r2
        go_wp2
        refine bodyPost_ret (v := .tuple #[.agg #[.int .i64 0, .slice none 0 0, .slice none 0 0], .int .i64 EE]) ?_ rfl (HPb.out _ _ EE hpar.out rfl ?_)
        · simp [results, Tryz.results8, go_sem, r0, r1, r2]
        · exact zero_set (HB.out.trans (HB6.out.mono hRk)) (Nat.le_refl _) _ _ _
end Go.Proofs.YtmabciajhmjmeaaGreatDoor
