/-
  program.Print: the text of a program.
  No condition beyond the code and the outputs lying in slices, and what strconv.Itoa yields at the numbers of the program.
-/
import Derived.Test.YtcdfghogmdhfcaaGreatDoorMg48
import Derived.Test.YtcdfghogmdhfcaaGreatDoorMg33
import Derived.Test.YtcdfghogmdhfcaaGreatDoorPrCheck
import Derived.Test.YtcdfghogmdhfcaaGreatDoorPrRun
import Derived.Deep.RegionHeld3
namespace Go.Proofs.YtcdfghogmdhfcaaGreatDoor
open Go.RowKit
set_option linter.unusedVariables false

def opWs (op : Int) : ByteArray := if op = 1 then ⟨#[122, 101, 114, 111]⟩ else if op = 2 then ⟨#[111, 110, 101]⟩ else if op = 3 then ⟨#[97, 110, 100]⟩ else if op = 4 then ⟨#[120, 111, 114]⟩ else ⟨#[110, 111, 116]⟩
theorem opWs_size (op : Int) : (opWs op).size ≤ 4 := by unfold opWs; split; decide; split; decide; split; decide; split; decide; decide
theorem Ops.word' {w : World} {g : Nat} {op : Int} (h : Ops w g) (h1 : 1 ≤ op) (h5 : op ≤ 5) : w.cell? ⟨g, op.toNat * 3, none⟩ = some (.string (opWs op)) := by
  refine h.at' ?_
  have : op = 1 ∨ op = 2 ∨ op = 3 ∨ op = 4 ∨ op = 5 := by omega
  rcases this with rfl | rfl | rfl | rfl | rfl <;> rfl
theorem Ops.belB {w w' : World} {g S b : Nat} (h : Ops w g) (hb : BelB S b w w') (h1 : g < S) (h2 : g ≠ b) : Ops w' g := fun j v hj => hb.cell (h j v hj) h1 h2
def insA (x : Ins) : List Int := [x.a, x.b].take (usedN x.op).toNat
def codeL (dg : Int → List UInt8) (c : List Ins) : List UInt8 := c.flatMap fun x => lineL dg (opWs x.op).data.toList (insA x)
theorem codeL_snoc (dg : Int → List UInt8) (c : List Ins) (x : Ins) : codeL dg (c ++ [x]) = codeL dg c ++ lineL dg (opWs x.op).data.toList (insA x) := by simp [codeL]
/-- The text. -/
def printL (dg : Int → List UInt8) (n : Int) (c : List Ins) (o : List Int) : List UInt8 :=
  lineL dg [112, 114, 111, 103, 114, 97, 109] [n] ++ codeL dg c ++ lineL dg [111, 117, 116] o
def printE (dg : Int → List UInt8) (n : Int) (c : List Ins) (o : List Int) : Int := if progErr n c o ≠ 0 then 1 else if 65536 < ((printL dg n c o).length : Int) then 4 else 0
def printS (dg : Int → List UInt8) (n : Int) (c : List Ins) (o : List Int) : ByteArray := if printE dg n c o = 0 then ⟨(printL dg n c o).toArray⟩ else ⟨#[]⟩
theorem lineL_len {dg : Int → List UInt8} {wd : List UInt8} {l : List Int} (h : ∀ k ∈ l, (dg k).length ≤ 20) : (lineL dg wd l).length ≤ wd.length + l.length * 21 + 1 := by
  have := numsL_len h
  simp only [lineL, List.length_append, List.length_singleton]
  omega
theorem codeL_len {dg : Int → List UInt8} {c : List Ins} (h : ∀ x ∈ c, ∀ k ∈ insA x, (dg k).length ≤ 20) : (codeL dg c).length ≤ c.length * 47 := by
  induction c with
  | nil => simp [codeL]
  | cons x t ih =>
    have h2 := ih fun y hy => h y (by simp [hy])
    have h1 := lineL_len (wd := (opWs x.op).data.toList) (h x (by simp))
    have h3 := opWs_size x.op
    have h4 : (opWs x.op).data.toList.length = (opWs x.op).size := by simp
    have h5 : (insA x).length ≤ 2 := by simp [insA]; omega
    simp only [codeL, List.flatMap_cons, List.length_append, List.length_cons] at h2 ⊢
    omega
theorem nums_keep {X : World} {b g k : Nat} {a bb : Int} (hk : X.heap[g]? = some (.cells #[.int .i64 a, .int .i64 bb] 3 (0, 0))) (hg : g ≠ b) (h2 : k ≤ 2) {w' : World} (h : BelT b X w') : Sl 1 w' (.slice (some ⟨g, 0, none⟩) k 2) ([a, bb].take k).length (ints ([a, bb].take k)) := by
  have hl : ([a, bb].take k).length = k := by simp; omega
  refine ⟨some ⟨g, 0, none⟩, 2, by rw [hl], by simp [ints], by rw [hl]; exact h2, by decide, .inr ⟨g, 0, rfl, fun j y hy => ?_⟩⟩
  have hj := lt_of_some hy
  have hj2 : j < 2 := by simp [ints] at hj; omega
  have hc : X.cell? ⟨g, j, none⟩ = some y := by
    rw [cell_of_row X g j _ _ _ hk]
    have hi : (ints [a, bb])[j]? = some y := by
      simp only [ints] at hy ⊢
      rw [List.map_take, List.getElem?_take] at hy
      split at hy
      · exact hy
      · cases hy
    have : j = 0 ∨ j = 1 := by omega
    rcases this with rfl | rfl <;> simpa [ints] using hi
  have := h.cell hc hk (by decide) hg
  simpa using this
theorem nums_keep1 {X : World} {b g : Nat} {a : Int} (hk : X.heap[g]? = some (.cells #[.int .i64 a] 3 (0, 0))) (hg : g ≠ b) {w' : World} (h : BelT b X w') : Sl 1 w' (.slice (some ⟨g, 0, none⟩) 1 1) [a].length (ints [a]) := by
  refine ⟨some ⟨g, 0, none⟩, 1, rfl, by simp [ints], Nat.le_refl _, by decide, .inr ⟨g, 0, rfl, fun j y hy => ?_⟩⟩
  have hj := lt_of_some hy
  have hj2 : j = 0 := by simp [ints] at hj; omega
  subst hj2
  have hc : X.cell? ⟨g, 0, none⟩ = some y := by
    rw [cell_of_row X g 0 _ _ _ hk]
    simpa [ints] using hy
  have := h.cell hc hk (by decide) hg
  simpa using this
theorem ret_print {dg : Int → List UInt8} {n : Int} {c : List Ins} {o : List Int} {x : Int} (h : printE dg n c o = x) (hx : x ≠ 0) : Ending.returned (.tuple #[.string ⟨#[]⟩, .int .i64 x]) = .returned (.tuple #[.string (printS dg n c o), .int .i64 (printE dg n c o)]) := by
  rw [printS, h, if_neg hx]
theorem ret_print0 {dg : Int → List UInt8} {n : Int} {c : List Ins} {o : List Int} (h : printE dg n c o = 0) : Ending.returned (.tuple #[.string ⟨(printL dg n c o).toArray⟩, .int .i64 0]) = .returned (.tuple #[.string (printS dg n c o), .int .i64 (printE dg n c o)]) := by
  rw [printS, h, if_pos rfl]
theorem ins_nums {n : Int} {i m : Nat} {x : Ins} (h : insErr (n + i) x = 0) (hi : i < m) : ∀ y ∈ insA x, 0 ≤ y ∧ y < n + m + 1 := by
  intro y hy
  unfold insA at hy
  rcases insErr_zero.1 h with ⟨h1, h2, h3⟩ | ⟨h1, h2, h3, h4⟩ | ⟨h1, h2, h3, h4, h5⟩
  · rw [show usedN x.op = 0 by unfold usedN; rw [if_pos h1]] at hy
    simp at hy
  · rw [show usedN x.op = 1 by rw [h1]; rfl] at hy
    have : y = x.a := by simpa using hy
    omega
  · rw [show usedN x.op = 2 by rcases h1 with h | h <;> rw [h] <;> rfl] at hy
    have : y = x.a ∨ y = x.b := by simpa using hy
    omega
theorem usedN_three {op : Int} (h1 : 1 ≤ op) (h5 : op ≤ 5) : usedN op = 0 ∨ usedN op = 1 ∨ usedN op = 2 := by
  have : op = 1 ∨ op = 2 ∨ op = 3 ∨ op = 4 ∨ op = 5 := by omega
  rcases this with rfl | rfl | rfl | rfl | rfl <;> simp [usedN]
/-- Where the row of numbers lies, and what is kept. -/
theorem row_made {wx X : World} {a bb : Int} (h : (wx.alloc (.cells #[.int .i64 a, .int .i64 bb] 3)).drew = X) :
    Below wx.heap.size wx X ∧ X.heap[wx.heap.size]? = some (.cells #[.int .i64 a, .int .i64 bb] 3 (0, 0)) := by
  subst h
  exact ⟨below_now ⟨rfl, rfl, rfl⟩ (.inr ⟨_, rfl⟩), heap_alloc_new wx _⟩
set_option maxRecDepth 100000 in
set_option maxHeartbeats 4000000 in
theorem print_any (dg : Int → List UInt8) (n : Int) (vc vo : Value) (c : List Ins) (o : List Int) (w : World) (hc : Sl 3 w vc c.length (icells c)) (ho : Sl 1 w vo o.length (ints o))
    (hI : ∀ (k : Int) (X : World), 0 ≤ k → k < n + c.length + 1 → Below w.heap.size w X → Calls Tryz.prog 31 #[.int .i64 k] X fun e X' => e = .returned (.string ⟨(dg k).toArray⟩) ∧ Below X.heap.size X X')
    (hd : ∀ k : Int, 0 ≤ k → k < n + c.length + 1 → (dg k).length ≤ 20) :
    Calls Tryz.prog 16 #[.agg #[.int .i64 n, vc, vo]] w fun e w' => e = .returned (.tuple #[.string (printS dg n c o), .int .i64 (printE dg n c o)]) ∧ Below w.heap.size w w' := by
  have HC := hid hc
  have HO := hid ho
  have HI := hid hI
  have HD := hid hd
  have HOps := hid operations_any
  have HCk := hid (fun X h1 h2 => pcheck_any n vc vo c o X h1 h2)
  obtain ⟨ac, cc, rfl, _, hc1, hc2, hc3⟩ := hc
  obtain ⟨ao, co, rfl, _, ho1, ho2, ho3⟩ := ho
  clear hc3 ho3 hI hd
  by_cases he : progErr n c o = 0
  · obtain ⟨hn0, hn24, hc6, ho6, hce, hoe⟩ := progErr_zero.1 he
    have HCE := hid (pcodeErr_at.1 hce)
    have HOE := hid hoe
    have HPE := hid (show printE dg n c o = if 65536 < ((printL dg n c o).length : Int) then 4 else 0 by rw [printE, if_neg (by simp [he])])
    rw [he] at HCk
    clear he hce hoe
    go_enter Tryz.func16, Tryz.ntmps16
    go_upto_region 1 with fail
    obtain ⟨w0, hw0⟩ : ∃ w0, w.alloc (.cells #[.int .i64 n, .slice ac c.length cc, .slice ao o.length co] 28) = w0 := ⟨_, rfl⟩
    obtain ⟨hb0, c0, c1, c2⟩ := boxP hw0
    rw [hw0]
    have HB0 := hid hb0
    have HS0 := hid (show w0.heap.size = w.heap.size + 1 by rw [← hw0]; simp)
    clear hw0 hb0
    go_upto_region 4 with (go_at_call 39; refine (HCk.out _ (HC.out.below HB0.out) (HO.out.below HB0.out)).mono ?_; rintro e w1 ⟨rfl, hb1⟩)
    obtain ⟨w2, hw2⟩ : ∃ w2, w1.alloc (.cells #[.pointer none, .slice none 0 0] 71) = w2 := ⟨_, rfl⟩
    have hbw : Below w1.heap.size w1 w2 := by rw [← hw2]; exact bel_alloc _ _
    have hsw : w2.heap.size = w1.heap.size + 1 := by rw [← hw2]; simp
    rw [hw2]
    have HW2 := hid hw2
    have HB2 := hid (bel_step (bel_step HB0.out hb1) hbw)
    have c0 := keeps hbw (keeps hb1 c0)
    have c1 := keeps hbw (keeps hb1 c1)
    have c2 := keeps hbw (keeps hb1 c2)
    have HSw := hid hsw
    have HSb := hid (show w.heap.size < w1.heap.size by have := hb1.size; have := HS0.out; omega)
    have HWb := hid (show Below w2.heap.size w2 w2 from Below.refl _ _)
    clear hw2 hb1 hbw hsw
    go_upto_region 6 with (first
      | (go_at_call 42; refine (HOps.out _).mono ?_; rintro e w3 ⟨rfl, hb3⟩)
      | (refine wpList_store_ops w3 _ rfl _ _ rfl rfl rfl rfl ?_; intro w4 hOps4 hb4 hlt4; have HB24 := hid (bel_step hb3 hb4); have HLt := hid (And.intro hb3.size hlt4); have c0 := keeps hb4 (keeps hb3 c0); have c1 := keeps hb4 (keeps hb3 c1); have c2 := keeps hb4 (keeps hb3 c2); clear hb3 hb4 hlt4))
    obtain ⟨w5, hw5⟩ : ∃ w5, w4.alloc (.cells #[.int .i64 n] 3) = w5 := ⟨_, rfl⟩
    have hb5 : Below w4.heap.size w4 w5 := by rw [← hw5]; exact bel_alloc _ _
    have hs5 : w5.heap.size = w4.heap.size + 1 := by rw [← hw5]; simp
    have hk5 : w5.heap[w4.heap.size]? = some (.cells #[.int .i64 n] 3 (0, 0)) := by rw [← hw5]; exact heap_alloc_new w4 _
    have hbld : Bld w5 w1.heap.size w5.heap.size [] := Bld.start (w := w1) (by rw [HW2.out, ← HSw.out]; exact bel_step HB24.out hb5)
    have HB5 := hid (bel_step (HB2.out.trans (HB24.out.mono HB2.out.size)) hb5)
    have hn1 : w4.heap.size ≠ w1.heap.size := by have := HLt.out; have := HSw.out; omega
    have HOp := hid (hOps4.below hb5 HLt.out.2)
    have c0 := keeps hb5 c0
    have c1 := keeps hb5 c1
    have c2 := keeps hb5 c2
    have HIt := hid (show ItoaAt dg (n + c.length + 1) w1.heap.size w5.heap.size w5 from fun k X h0 hk hX => HI.out k X h0 hk (HB5.out.trans (hX.below (by have := HSb.out; omega) HB5.out.size)))
    have HL1 := hid (line_any dg (n + c.length + 1) w1.heap.size w5.heap.size [] ⟨#[112, 114, 111, 103, 114, 97, 109]⟩ (.slice (some ⟨w4.heap.size, 0, none⟩) 1 1) [n] w5 hbld (fun w' _ ht => nums_keep1 hk5 hn1 ht) (by simp; omega) HIt.out HD.out (by show 0 + 7 + 1 * 21 + 1 ≤ 140737488355328; decide))
    have HB5s := hid (show w1.heap.size + 1 < w5.heap.size ∧ w3.heap.size < w5.heap.size ∧ w1.heap.size ≠ w3.heap.size by have := HLt.out; have := HSw.out; omega)
    clear hOps4 hs5 hk5 hbld hn1 hb5
    go_upto_region 7 with (go_at_call 40; refine HL1.out.mono ?_; rintro e w6 ⟨rfl, hB6, hb6, ht6⟩)
    have HB6 := hid hB6
    have Hb6 := hid hb6
    have d1 := hb6.cell c1 (by have := HB5s.out; have := HSb.out; show w.heap.size < _; omega) (by have := HSb.out; show w.heap.size ≠ _; omega)
    have C0 := hid (And.intro c1 c2)
    clear hw5 hB6 hb6 ht6 HL1 HW2 HSw HWb c0 c1 c2
    generalize hSg : w5.heap.size = S at *
    generalize w1.heap.size = b at *
    generalize w3.heap.size = g3 at *
    go_wp2_with fail
    clear d1
    rw [List.nil_append] at HB6
    have HLk := hid (fun k => show (codeL dg (c.take k)).length ≤ 65536 * 47 from by
      refine Nat.le_trans (codeL_len (c := c.take k) fun x hx y hy => ?_) (Nat.mul_le_mul_right _ (by rw [List.length_take]; omega))
      obtain ⟨i, hi⟩ := List.getElem?_of_mem (List.mem_of_mem_take hx)
      have := ins_nums (HCE.out i x hi) (lt_of_some hi) y hy
      exact HD.out y this.1 this.2)
    have HLp := hid (show (lineL dg [112, 114, 111, 103, 114, 97, 109] [n]).length ≤ 7 + 1 * 21 + 1 from lineL_len (wd := [112, 114, 111, 103, 114, 97, 109]) (l := [n]) fun k hk => by
      have : k = n := by simpa using hk
      exact HD.out k (by omega) (by omega))
    go_loopw [22] (fun i wr => ∃ k : Nat, k ≤ c.length ∧ i = .int .i64 k ∧ Bld wr b S (Lib.byteCells (lineL dg [112, 114, 111, 103, 114, 97, 109] [n] ++ codeL dg (c.take k))) ∧ BelB S b w5 wr) (fun i _ => c.length - (intOf i).toNat)
    case atStart => exact ⟨0, Nat.zero_le _, rfl, by rw [List.take_zero]; simpa [codeL] using HB6.out, Hb6.out⟩
    case round =>
      obtain ⟨k, hk, rfl, hBk, hbk⟩ := hrel
      have HBk := hid hBk
      have Hbk := hid hbk
      clear hBk hbk
      rename World => wm
      have HBw := hid (HB5.out.trans (Hbk.out.below (by have := HSb.out; omega) (by have := HB5.out.size; omega)))
      by_cases hlt : k < c.length
      · obtain ⟨x, hx⟩ := some_of_lt hlt
        have hv := insErr_zero.1 (HCE.out k x hx)
        have HT := hid (show codeL dg (c.take (k + 1)) = codeL dg (c.take k) ++ lineL dg (opWs x.op).data.toList (insA x) by rw [take_snoc hx, codeL_snoc])
        obtain ⟨bc, off, rfl, x0, x1, x2⟩ := Sl.ins (HC.out.below HBw.out) hx
        have hop : 1 ≤ x.op ∧ x.op ≤ 5 := by rcases hv with ⟨h, _⟩ | ⟨h, _⟩ | ⟨h, _⟩ <;> omega
        have hA : ∀ y ∈ insA x, 0 ≤ y ∧ y < n + c.length + 1 := ins_nums (HCE.out k x hx) hlt
        have hU := usedN_three hop.1 hop.2
        clear hx
        have hlen1 := HLk.out k
        have hlen2 := opWs_size x.op
        have hlen3 : (insA x).length ≤ 2 := by simp [insA]; omega
        obtain ⟨op, a, bb⟩ := x
        obtain ⟨hop1, hop5⟩ := hop
        simp only at hop1 hop5 hU
        go_upto_region 10 with fail
        obtain ⟨wx, hwx⟩ : ∃ wx, wm.alloc (.cells #[.int .i64 op, .int .i64 a, .int .i64 bb] 47) = wx := ⟨_, rfl⟩
        obtain ⟨hbx, y0, y1, y2⟩ := boxI (x := ⟨op, a, bb⟩) hwx
        simp only at y0 y1 y2
        rw [hwx]
        have HBx := hid (HBk.out.below hbx)
        have Hbx := hid (Hbk.out.trans (BelB.of (hbx.mono HBk.out.2.1)))
        have HOx := hid ((HOp.out.belB Hbx.out HB5s.out.2.1 (Ne.symm HB5s.out.2.2)))
        have q0 := HOx.out.word' hop1 hop5
        have q1 := HOx.out.num' hop1 hop5
        have hkx : wx.heap[wm.heap.size]? = some (.cells #[.int .i64 op, .int .i64 a, .int .i64 bb] 47 (0, 0)) := by rw [← hwx]; exact heap_alloc_new wm _
        have HKx := hid (fun (X X' : World) (hX : Below wx.heap.size wx X) (hb : BelB S b X X') (ht : BelT b X X') =>
          have hkX := (hX.block _ (Array.getElem?_eq_some_iff.1 hkx).1).trans hkx
          have hne : wm.heap.size ≠ b := by have := HBk.out.lt; omega
          (⟨ht.cell (keeps hX y0) hkX (by decide) hne, ht.cell (keeps hX y1) hkX (by decide) hne, ht.cell (keeps hX y2) hkX (by decide) hne, hb.cell (keeps hX q0) HB5s.out.2.1 (Ne.symm HB5s.out.2.2), hb.cell (keeps hX q1) HB5s.out.2.1 (Ne.symm HB5s.out.2.2)⟩ :
            X'.cell? ⟨wm.heap.size, 0, none⟩ = some (.int .i64 op) ∧ X'.cell? ⟨wm.heap.size, 1, none⟩ = some (.int .i64 a) ∧ X'.cell? ⟨wm.heap.size, 2, none⟩ = some (.int .i64 bb) ∧ X'.cell? ⟨g3, op.toNat * 3, none⟩ = some (.string (opWs op)) ∧ X'.cell? ⟨g3, op.toNat * 3 + 1, none⟩ = some (.int .i64 (usedN op))))
        clear hwx hbx x0 x1 x2 HBk Hbk hkx
        generalize wm.heap.size = gx at *
        have HIns := hid (show insA ⟨op, a, bb⟩ = [a, bb].take (usedN op).toNat from rfl)
        generalize usedN op = U at *
        have hlenT : (lineL dg [112, 114, 111, 103, 114, 97, 109] [n] ++ codeL dg (c.take k)).length + (opWs op).size + (insA ⟨op, a, bb⟩).length * 21 + 1 ≤ 140737488355328 := by
          rw [List.length_append]
          have := HLp.out
          simp only at hlen2
          omega
        clear hlen1 hlen2 hlen3
        have hi0 : (0 : Int) ≤ op := by omega
        have hi6 : op < 6 := by omega
        have HIw := hid (show insA ⟨op, a, bb⟩ = [a, bb].take U.toNat from HIns.out)
        rcases hU with rfl | rfl | rfl
        · have HLn := hid (fun (X : World) (g : Nat) (h1 : Bld X b S (Lib.byteCells (lineL dg [112, 114, 111, 103, 114, 97, 109] [n] ++ codeL dg (c.take k)))) (h2 : X.heap[g]? = some (.cells #[.int .i64 a, .int .i64 bb] 3 (0, 0))) (h3 : g ≠ b) (h4 : BelB S b w5 X) => line_any dg (n + c.length + 1) b S (lineL dg [112, 114, 111, 103, 114, 97, 109] [n] ++ codeL dg (c.take k)) (opWs op) (.slice (some ⟨g, 0, none⟩) 0 2) (insA ⟨op, a, bb⟩) X h1 (fun w' _ ht => by rw [HIns.out]; exact nums_keep h2 h3 (by decide) ht) hA (fun k X' h0 hk hX => HIt.out k X' h0 hk (h4.trans hX)) HD.out hlenT)
          rw [HIns.out] at HLn
          go_region_held3 (fun w' => w'.cell? ⟨gx, 0, none⟩ = some (.int .i64 op) ∧ w'.cell? ⟨gx, 1, none⟩ = some (.int .i64 a) ∧ w'.cell? ⟨gx, 2, none⟩ = some (.int .i64 bb) ∧ w'.cell? ⟨g3, op.toNat * 3, none⟩ = some (.string (opWs op)) ∧ w'.cell? ⟨g3, op.toNat * 3 + 1, none⟩ = some (.int .i64 0))
            (first | exact ⟨y0, y1, y2, q0, q1⟩ | exact ⟨keeps (bel_alloc _ _) y0, keeps (bel_alloc _ _) y1, keeps (bel_alloc _ _) y2, keeps (bel_alloc _ _) q0, keeps (bel_alloc _ _) q1⟩ | exact HK9.out | go_keep)
            (first | (go_at_call 40; obtain ⟨X, hX⟩ : ∃ X, (wx.alloc (.cells #[.int .i64 a, .int .i64 bb] 3)).drew = X := ⟨_, rfl⟩; obtain ⟨hbX, hkX⟩ := row_made hX; rw [hX]; refine (HLn.out _ _ (HBx.out.below hbX) hkX (by have := HBx.out.lt; omega) (Hbx.out.trans (BelB.of (hbX.mono HBx.out.2.1)))).mono ?_; rintro e w9 ⟨rfl, hB9, hb9, ht9⟩; have HB9 := hid hB9; have Hb9 := hid ((Hbx.out.trans (BelB.of (hbX.mono HBx.out.2.1))).trans hb9); have HK9 := hid (HKx.out X w9 hbX hb9 ht9); clear hX hbX hkX hB9 hb9 ht9))
          go_wp2
          go_roundw
          case rel => exact ⟨k + 1, by omega, by go_num, by rw [HT.out, ← List.append_assoc]; have h1 := HB9.out; simp only [HIw.out] at h1 ⊢; exact h1, Hb9.out⟩
          case measure => simp [intOf]; omega
        · have HLn := hid (fun (X : World) (g : Nat) (h1 : Bld X b S (Lib.byteCells (lineL dg [112, 114, 111, 103, 114, 97, 109] [n] ++ codeL dg (c.take k)))) (h2 : X.heap[g]? = some (.cells #[.int .i64 a, .int .i64 bb] 3 (0, 0))) (h3 : g ≠ b) (h4 : BelB S b w5 X) => line_any dg (n + c.length + 1) b S (lineL dg [112, 114, 111, 103, 114, 97, 109] [n] ++ codeL dg (c.take k)) (opWs op) (.slice (some ⟨g, 0, none⟩) 1 2) (insA ⟨op, a, bb⟩) X h1 (fun w' _ ht => by rw [HIns.out]; exact nums_keep h2 h3 (by decide) ht) hA (fun k X' h0 hk hX => HIt.out k X' h0 hk (h4.trans hX)) HD.out hlenT)
          rw [HIns.out] at HLn
          go_region_held3 (fun w' => w'.cell? ⟨gx, 0, none⟩ = some (.int .i64 op) ∧ w'.cell? ⟨gx, 1, none⟩ = some (.int .i64 a) ∧ w'.cell? ⟨gx, 2, none⟩ = some (.int .i64 bb) ∧ w'.cell? ⟨g3, op.toNat * 3, none⟩ = some (.string (opWs op)) ∧ w'.cell? ⟨g3, op.toNat * 3 + 1, none⟩ = some (.int .i64 1))
            (first | exact ⟨y0, y1, y2, q0, q1⟩ | exact ⟨keeps (bel_alloc _ _) y0, keeps (bel_alloc _ _) y1, keeps (bel_alloc _ _) y2, keeps (bel_alloc _ _) q0, keeps (bel_alloc _ _) q1⟩ | exact HK9.out | go_keep)
            (first | (go_at_call 40; obtain ⟨X, hX⟩ : ∃ X, (wx.alloc (.cells #[.int .i64 a, .int .i64 bb] 3)).drew = X := ⟨_, rfl⟩; obtain ⟨hbX, hkX⟩ := row_made hX; rw [hX]; refine (HLn.out _ _ (HBx.out.below hbX) hkX (by have := HBx.out.lt; omega) (Hbx.out.trans (BelB.of (hbX.mono HBx.out.2.1)))).mono ?_; rintro e w9 ⟨rfl, hB9, hb9, ht9⟩; have HB9 := hid hB9; have Hb9 := hid ((Hbx.out.trans (BelB.of (hbX.mono HBx.out.2.1))).trans hb9); have HK9 := hid (HKx.out X w9 hbX hb9 ht9); clear hX hbX hkX hB9 hb9 ht9))
          go_wp2
          go_roundw
          case rel => exact ⟨k + 1, by omega, by go_num, by rw [HT.out, ← List.append_assoc]; have h1 := HB9.out; simp only [HIw.out] at h1 ⊢; exact h1, Hb9.out⟩
          case measure => simp [intOf]; omega
        · have HLn := hid (fun (X : World) (g : Nat) (h1 : Bld X b S (Lib.byteCells (lineL dg [112, 114, 111, 103, 114, 97, 109] [n] ++ codeL dg (c.take k)))) (h2 : X.heap[g]? = some (.cells #[.int .i64 a, .int .i64 bb] 3 (0, 0))) (h3 : g ≠ b) (h4 : BelB S b w5 X) => line_any dg (n + c.length + 1) b S (lineL dg [112, 114, 111, 103, 114, 97, 109] [n] ++ codeL dg (c.take k)) (opWs op) (.slice (some ⟨g, 0, none⟩) 2 2) (insA ⟨op, a, bb⟩) X h1 (fun w' _ ht => by rw [HIns.out]; exact nums_keep h2 h3 (by decide) ht) hA (fun k X' h0 hk hX => HIt.out k X' h0 hk (h4.trans hX)) HD.out hlenT)
          rw [HIns.out] at HLn
          go_region_held3 (fun w' => w'.cell? ⟨gx, 0, none⟩ = some (.int .i64 op) ∧ w'.cell? ⟨gx, 1, none⟩ = some (.int .i64 a) ∧ w'.cell? ⟨gx, 2, none⟩ = some (.int .i64 bb) ∧ w'.cell? ⟨g3, op.toNat * 3, none⟩ = some (.string (opWs op)) ∧ w'.cell? ⟨g3, op.toNat * 3 + 1, none⟩ = some (.int .i64 2))
            (first | exact ⟨y0, y1, y2, q0, q1⟩ | exact ⟨keeps (bel_alloc _ _) y0, keeps (bel_alloc _ _) y1, keeps (bel_alloc _ _) y2, keeps (bel_alloc _ _) q0, keeps (bel_alloc _ _) q1⟩ | exact HK9.out | go_keep)
            (first | (go_at_call 40; obtain ⟨X, hX⟩ : ∃ X, (wx.alloc (.cells #[.int .i64 a, .int .i64 bb] 3)).drew = X := ⟨_, rfl⟩; obtain ⟨hbX, hkX⟩ := row_made hX; rw [hX]; refine (HLn.out _ _ (HBx.out.below hbX) hkX (by have := HBx.out.lt; omega) (Hbx.out.trans (BelB.of (hbX.mono HBx.out.2.1)))).mono ?_; rintro e w9 ⟨rfl, hB9, hb9, ht9⟩; have HB9 := hid hB9; have Hb9 := hid ((Hbx.out.trans (BelB.of (hbX.mono HBx.out.2.1))).trans hb9); have HK9 := hid (HKx.out X w9 hbX hb9 ht9); clear hX hbX hkX hB9 hb9 ht9))
          go_wp2
          go_roundw
          case rel => exact ⟨k + 1, by omega, by go_num, by rw [HT.out, ← List.append_assoc]; have h1 := HB9.out; simp only [HIw.out] at h1 ⊢; exact h1, Hb9.out⟩
          case measure => simp [intOf]; omega
      · have HA := hid (show codeL dg (c.take k) = codeL dg c by rw [take_all (by omega)])
        have hkc := HLk.out k
        rw [HA.out] at hkc
        have HB7 := hid (show Bld wm b S (Lib.byteCells (lineL dg [112, 114, 111, 103, 114, 97, 109] [n] ++ codeL dg c)) by rw [← HA.out]; exact HBk.out)
        have e2 := Hbk.out.cell C0.out.2 (by have := HSb.out; have := HB5s.out.1; show w.heap.size < _; omega) (by have := HSb.out; show w.heap.size ≠ _; omega)
        have HLo := hid (line_any dg (n + c.length + 1) b S (lineL dg [112, 114, 111, 103, 114, 97, 109] [n] ++ codeL dg c) ⟨#[111, 117, 116]⟩ (.slice ao o.length co) o wm HB7.out (fun w' hb _ => HO.out.below (HBw.out.trans (hb.below (by have := HSb.out; omega) (by have := HB5.out.size; omega)))) (fun y hy => by have := HOE.out y hy; omega) (fun k X' h0 hk hX => HIt.out k X' h0 hk (Hbk.out.trans hX)) HD.out (by
          rw [List.length_append]
          have := HLp.out
          have h3 : ByteArray.size ⟨#[111, 117, 116]⟩ = 3 := rfl
          omega))
        have HStr := hid (fun X h => string_bld b S (printL dg n c o) X h)
        have HLen := hid (fun X (h : Bld X b S (Lib.byteCells (printL dg n c o))) => Tryz.Builder_Len b b (Lib.byteCells (printL dg n c o)) X h.is)
        rw [Lib.byteCells_length] at HLen
        have HPp := hid (show lineL dg [112, 114, 111, 103, 114, 97, 109] [n] ++ codeL dg c ++ lineL dg [111, 117, 116] o = printL dg n c o from rfl)
        clear hkc C0
        by_cases hL : 65536 < ((printL dg n c o).length : Int)
        · have HF := hid (show printE dg n c o = 4 by rw [HPE.out, if_pos hL])
          go_wp2_with (first
            | (go_at_call 40; refine HLo.out.mono ?_; rintro e w8 ⟨rfl, hB8, hb8, _⟩; have HB8 := hid (show Bld w8 b S (Lib.byteCells (printL dg n c o)) from hB8); have Hb8 := hid (Hbk.out.trans hb8); clear hB8 hb8)
            | (go_at_call 32; refine (HLen.out _ HB8.out).mono ?_; rintro e w9 ⟨rfl, rfl⟩))
          go_ret2
          exact ⟨ret_print HF.out (by decide), HB5.out.trans (Hb8.out.below (by have := HSb.out; omega) (by have := HB5.out.size; omega))⟩
        · have HF := hid (show printE dg n c o = 0 by rw [HPE.out, if_neg hL])
          generalize (printL dg n c o).length = PL at *
          have hL : (PL : Int) ≤ 65536 := by omega
          go_wp2_with (first
            | (go_at_call 40; refine HLo.out.mono ?_; rintro e w8 ⟨rfl, hB8, hb8, _⟩; have HB8 := hid (show Bld w8 b S (Lib.byteCells (printL dg n c o)) from hB8); have Hb8 := hid (Hbk.out.trans hb8); clear hB8 hb8)
            | (go_at_call 32; refine (HLen.out _ HB8.out).mono ?_; rintro e w9 ⟨rfl, rfl⟩)
            | (go_at_call 33; refine (HStr.out _ HB8.out).mono ?_; rintro e w10 ⟨rfl, hb10⟩))
          go_ret2
          exact ⟨ret_print0 HF.out, (HB5.out.trans (Hb8.out.below (by have := HSb.out; omega) (by have := HB5.out.size; omega))).trans (hb10.mono (by have := HSb.out; omega))⟩
  · have hE1 : (progErr n c o != 0) = true := by simpa using he
    have h1 := hid (show printE dg n c o = 1 by rw [printE, if_pos he])
    generalize progErr n c o = E at *
    go_enter Tryz.func16, Tryz.ntmps16
    go_upto_region 1 with fail
    obtain ⟨w0, hw0⟩ : ∃ w0, w.alloc (.cells #[.int .i64 n, .slice ac c.length cc, .slice ao o.length co] 28) = w0 := ⟨_, rfl⟩
    obtain ⟨hb0, c0, c1, c2⟩ := boxP hw0
    rw [hw0]
    have HB0 := hid hb0
    clear hw0 hb0
    go_wp2_with (go_at_call 39; refine (HCk.out _ (HC.out.below HB0.out) (HO.out.below HB0.out)).mono ?_; rintro e w1 ⟨rfl, hb1⟩)
    go_ret2
    exact ⟨ret_print h1.out (by decide), bel_step HB0.out hb1⟩
end Go.Proofs.YtcdfghogmdhfcaaGreatDoor
