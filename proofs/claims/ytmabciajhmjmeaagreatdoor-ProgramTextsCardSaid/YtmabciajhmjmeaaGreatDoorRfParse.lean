/-
  The reference's Parse: a text is read.
  The text is any.
-/
import Derived.Test.YtmabciajhmjmeaaGreatDoorRfLine
import Derived.Test.YtmabciajhmjmeaaGreatDoorPrParse
import Derived.Test.YtmabciajhmjmeaaGreatDoorPrRef
import Derived.Test.YtmabciajhmjmeaaGreatDoorPrPrint
namespace Go.Proofs.YtmabciajhmjmeaaGreatDoor
open Go.RowKit Go.Deep
set_option linter.unusedVariables false
set_option linter.unusedSimpArgs false

def nmS : Array Value := #[.string ⟨#[]⟩, .string ⟨#[122, 101, 114, 111]⟩, .string ⟨#[111, 110, 101]⟩, .string ⟨#[97, 110, 100]⟩, .string ⟨#[120, 111, 114]⟩, .string ⟨#[110, 111, 116]⟩]
theorem names_any (w : World) : Calls Tryz.prog 23 #[] w fun e w' => e = .returned (.slice (some ⟨w.heap.size, 0, none⟩) 6 6) ∧ w' = w.alloc (.cells nmS 9) := by
  go_enter Tryz.func23, Tryz.ntmps23
  go_wp2
  go_ret
  exact ⟨rfl, rfl⟩
theorem nm_cell {w : World} {k : Nat} (h1 : 1 ≤ k) (h5 : k ≤ 5) : (w.alloc (.cells nmS 9)).cell? ⟨w.heap.size, k, none⟩ = some (.string (opWs (k : Int))) := by
  rw [Lib.cell_of_heap (heap_alloc_new w _)]
  have : k = 1 ∨ k = 2 ∨ k = 3 ∨ k = 4 ∨ k = 5 := by omega
  rcases this with rfl | rfl | rfl | rfl | rfl <;> rfl
theorem opOf_iff {wd : List UInt8} {k : Nat} (h1 : 1 ≤ k) (h5 : k ≤ 5) : opWL (k : Int) = wd ↔ opOf wd = (k : Int) := by
  constructor
  · rintro rfl
    exact (opOf_word (by omega) (by omega)).1
  · intro h
    have := (opOf_some (w := wd) (by omega)).2.2
    rw [h] at this
    exact this.symm
/-- The operation that is found among the first names. -/
def opK (wd : List UInt8) (k : Nat) : Int := if opOf wd < (k : Int) then opOf wd else 0
theorem opOf_range (wd : List UInt8) : 0 ≤ opOf wd ∧ opOf wd ≤ 5 := by
  by_cases h : opOf wd = 0
  · omega
  · have := opOf_some h; omega
theorem opK_one (wd : List UInt8) : opK wd 1 = 0 := by
  unfold opK
  have := opOf_range wd
  split <;> omega
theorem opK_six (wd : List UInt8) : opK wd 6 = opOf wd := by
  unfold opK
  have := opOf_range wd
  rw [if_pos (by omega)]
theorem opK_hit {wd : List UInt8} {k : Nat} (h : opOf wd = (k : Int)) : (k : Int) = opK wd (k + 1) := by
  unfold opK
  rw [if_pos (by omega), h]
theorem opK_miss {wd : List UInt8} {k : Nat} (h : opOf wd ≠ (k : Int)) : opK wd k = opK wd (k + 1) := by
  unfold opK
  by_cases h1 : opOf wd < (k : Int)
  · rw [if_pos h1, if_pos (by omega)]
  · rw [if_neg h1, if_neg (by omega)]
/-- What the rest of a text says, behind the instructions that were read. -/
def contP (n : Nat) (c : List Ins) : Option (List Ins × List Nat) → Int × List Ins × List Int × Int
  | none => (0, [], [], 3)
  | some (c', o) => if progErr (n : Int) (c ++ c') (natI o) = 0 then ((n : Int), c ++ c', natI o, 0) else (0, [], [], progErr (n : Int) (c ++ c') (natI o))
theorem parR_first {s : ByteArray} (h : ¬ 65536 < s.size) {p r wd : List UInt8} {l : List Nat} (hs : s.data.toList = p ++ 10 :: r) (hp : (10 : UInt8) ∉ p) (hr : readT p = some (wd, l)) :
    parR s = if wd = wProg ∧ l.length = 1 then contP (l.getD 0 0) [] (restT r) else (0, [], [], 3) := by
  rw [parR, if_neg h, hs, parseT_line hp, hr]
  match l with
  | [] => simp
  | _ :: _ :: _ => simp
  | [n] =>
    cases hR : restT r with
    | none => simp [contP]
    | some q =>
      obtain ⟨c, o⟩ := q
      by_cases hw : wd = wProg
      · simp [hw, contP]
      · simp [hw]
theorem parR_bad {s : ByteArray} (h : ¬ 65536 < s.size) (hs : (10 : UInt8) ∉ s.data.toList ∨ ∃ p r, s.data.toList = p ++ 10 :: r ∧ (10 : UInt8) ∉ p ∧ readT p = none) : parR s = (0, [], [], 3) := by
  rw [parR, if_neg h]
  rcases hs with hs | ⟨p, r, h1, h2, h3⟩
  · rw [parseT_none hs]
  · rw [h1, parseT_line h2, h3]
theorem cont_bad {n : Nat} {c : List Ins} {r : List UInt8} (hs : (10 : UInt8) ∉ r ∨ ∃ p t, r = p ++ 10 :: t ∧ (10 : UInt8) ∉ p ∧ readT p = none) : contP n c (restT r) = (0, [], [], 3) := by
  rcases hs with hs | ⟨p, t, h1, h2, h3⟩
  · rw [restT_none hs]; rfl
  · rw [h1, restT_line h2, h3]; rfl
theorem cont_out {n : Nat} {c : List Ins} {r p t wd : List UInt8} {l : List Nat} (hs : r = p ++ 10 :: t) (hp : (10 : UInt8) ∉ p) (hr : readT p = some (wd, l)) (hw : wd = wOut) :
    contP n c (restT r) = if t = [] then contP n c (some ([], l)) else (0, [], [], 3) := by
  rw [hs, restT_line hp, hr]
  simp only
  rw [if_pos hw]
  split <;> rfl
theorem cont_ins {n : Nat} {c : List Ins} {r p t wd : List UInt8} {l : List Nat} (hs : r = p ++ 10 :: t) (hp : (10 : UInt8) ∉ p) (hr : readT p = some (wd, l)) (hw : wd ≠ wOut) :
    contP n c (restT r) = match insOf (wd, l) with | none => (0, [], [], 3) | some x => contP n (c ++ [x]) (restT t) := by
  rw [hs, restT_line hp, hr]
  simp only
  rw [if_neg hw]
  cases insOf (wd, l) with
  | none => rfl
  | some x =>
    cases restT t with
    | none => rfl
    | some q => obtain ⟨c', o⟩ := q; simp [contP]
/-- The program's box behind its first store. -/
theorem box_store {w : World} {P : Nat} {f : Nat → Value} (h : w.rowIs P 25 3 f) (n : Int) :
    (((w.setCell ⟨P, 0, none⟩ (.int .i64 n)).setCell ⟨P, 1, none⟩ (.slice none 0 0)).setCell ⟨P, 2, none⟩ (.slice none 0 0)).rowIs P 25 3 (pfun n (.slice none 0 0) (.slice none 0 0)) :=
  (((h.set 0 _).set 1 _).set 2 _).congr (fun i hi => by
    have : i = 0 ∨ i = 1 ∨ i = 2 := by omega
    rcases this with rfl | rfl | rfl <;> rfl)
set_option maxRecDepth 100000 in
set_option maxHeartbeats 4000000 in
theorem rparse_any (s : ByteArray) (w : World) : Calls Tryz.prog 9 #[.string s] w fun e w' => ParPost s w e w' := by
  have HPb := hid (fun e w' E h h2 h3 => par_bad (s := s) (w := w) (w' := w') (e := e) (E := E) h h2 h3)
  by_cases hbig : 65536 < s.size
  · have hpar := hid (show parR s = (0, [], [], 4) from if_pos hbig)
    have hI : (65536 : Int) < (s.size : Int) := by omega
    clear hbig
    go_enter Tryz.func9, Tryz.ntmps9
    go_upto_region 1 with fail
    obtain ⟨w0, hw0⟩ : ∃ w0, w.alloc (.cells #[.int .i64 0, .slice none 0 0, .slice none 0 0] 25) = w0 := ⟨_, rfl⟩
    obtain ⟨hb0, hr, -⟩ := boxPR hw0
    rw [hw0]
    have HB0 := hid hb0
    clear hw0 hb0
    have r0 := hr.cell (i := 0) (by omega)
    have r1 := hr.cell (i := 1) (by omega)
    have r2 := hr.cell (i := 2) (by omega)
    have q0 := hr.frozen 0
    have q1 := hr.frozen 1
    have q2 := hr.frozen 2
    simp only [pfun] at r0 r1 r2
    go_wp2
    refine bodyPost_ret (v := .tuple #[.agg #[.int .i64 0, .slice none 0 0, .slice none 0 0], .int .i64 4]) ?_ rfl (HPb.out _ _ 4 hpar.out rfl ?_)
    · simp [results, Tryz.results9, go_sem, r0, r1, r2]
    · exact zero_set (HB0.out) (Nat.le_refl _) _ _ _
  have hI : ¬ (65536 : Int) < (s.size : Int) := by omega
  have hsz : s.size ≤ 65536 := by omega
  have HBad := hid (fun h => parR_bad (s := s) hbig h)
  have HFst := hid (fun p r wd l h1 h2 h3 => parR_first (s := s) (p := p) (r := r) (wd := wd) (l := l) hbig h1 h2 h3)
  have HLn := hid (fun (r : ByteArray) (X : World) (h : r.size ≤ 65536) => rline_any r X (by omega))
  clear hbig
  go_enter Tryz.func9, Tryz.ntmps9
  go_upto_region 1 with fail
  obtain ⟨w0, hw0⟩ : ∃ w0, w.alloc (.cells #[.int .i64 0, .slice none 0 0, .slice none 0 0] 25) = w0 := ⟨_, rfl⟩
  obtain ⟨hb0, hr, hs0⟩ := boxPR hw0
  rw [hw0]
  have HB0 := hid hb0
  have HS0 := hid hs0
  clear hw0 hb0 hs0
  go_upto_region 4 with (go_at_call 30; refine (HLn.out _ _ hsz).mono ?_; rintro e w1 ⟨hb1, ⟨h1, f, t, rfl⟩ | ⟨p, r, wd, l, u, h1, h2, h3, rfl, ho⟩⟩)
  · have hpar := hid (HBad.out h1)
    have HB1 := hid (HB0.out.trans (hb1.mono HB0.out.size))
    have hr := row_below hr hb1
    clear h1 hb1
    have r0 := hr.cell (i := 0) (by omega)
    have r1 := hr.cell (i := 1) (by omega)
    have r2 := hr.cell (i := 2) (by omega)
    have q0 := hr.frozen 0
    have q1 := hr.frozen 1
    have q2 := hr.frozen 2
    simp only [pfun] at r0 r1 r2
    go_wp2
    refine bodyPost_ret (v := .tuple #[.agg #[.int .i64 0, .slice none 0 0, .slice none 0 0], .int .i64 3]) ?_ rfl (HPb.out _ _ 3 hpar.out rfl ?_)
    · simp [results, Tryz.results9, go_sem, r0, r1, r2]
    · exact zero_set (HB1.out) (Nat.le_refl _) _ _ _
  have HF := hid (HFst.out _ _ _ _ h1 h2 h3)
  have HB1 := hid (HB0.out.trans (hb1.mono HB0.out.size))
  have hr := row_below hr hb1
  have HS1 := hid (show w.heap.size + 1 ≤ w1.heap.size by have := hb1.size; have := HS0.out; omega)
  have HO1 := hid ho
  have hrs : r.length + 1 ≤ s.size := by
    have e1 := congrArg List.length h1
    have e2 : s.data.toList.length = s.size := by simp
    rw [e2, List.length_append, List.length_cons] at e1
    omega
  clear h1 h2 h3 hb1 ho HFst HBad
  have hbl : (⟨wd.toArray⟩ : ByteArray).toList = wd := word_list wd
  obtain ⟨au, cu, rfl⟩ := own_slice HO1.out
  by_cases hw1 : wd = wProg
  · have e1 : (⟨wd.toArray⟩ : ByteArray).toList = [112, 114, 111, 103, 114, 97, 109] := hbl.trans hw1
    have e2 : ((⟨wd.toArray⟩ : ByteArray).toList == [112, 114, 111, 103, 114, 97, 109]) = true := by rw [beq_iff_eq]; exact e1
    by_cases hl1 : l.length = 1
    · obtain ⟨m, rfl⟩ : ∃ m, l = [m] := by
        match l, hl1 with
        | [m], _ => exact ⟨m, rfl⟩
      have HC := hid (show parR s = contP m [] (restT r) by have h := HF.out; rw [if_pos ⟨hw1, rfl⟩] at h; exact h)
      obtain ⟨bu, ou, rfl, cu0⟩ := (Sl.of_owns HO1.out).cell (k := 0) (x := .int .i64 (m : Int)) rfl
      have cu0 : w1.cell? ⟨bu, ou, none⟩ = some (.int .i64 (m : Int)) := cu0
      have hone : [m].length = 1 := rfl
      rw [hone] at *
      clear hw1 hbl HF hl1
      generalize (⟨wd.toArray⟩ : ByteArray) = hb at *
      have hm0 := HS1.out
      go_upto_region 7 with fail
      obtain ⟨w5, hw5⟩ : ∃ w5, w1.alloc (.cells #[.int .i64 (m : Int), .slice none 0 0, .slice none 0 0] 25) = w5 := ⟨_, rfl⟩
      obtain ⟨hb5, hp5, hs5⟩ := boxPR hw5
      rw [hw5]
      have HPm := hid (show PM w5 w1.heap.size 0 0 [] w5 (m : Int) (.slice none 0 0) (.slice none 0 0) [] [] from ⟨hp5, World.ownsRow_nil _ _ _ _, World.ownsRow_nil _ _ _ _, fun _ _ => rfl, by omega⟩)
      have HR5 := hid (row_below hr hb5)
      have HB5 := hid (HB1.out.trans (hb5.mono HB1.out.size))
      have HSz5 := hid (show w.heap.size < w1.heap.size ∧ w5.heap.size = w1.heap.size + 1 from ⟨by omega, hs5⟩)
      clear hw5 hb5 hp5 hs5 hr cu0 HO1 HB1 HS1 HB0 HS0 hm0
      generalize w1.heap.size = P at *
      generalize hRR : w.heap.size = R at *
      have HRR := hid hRR
      clear hRR
      go_wp2_with fail
      go_loopw [0] (fun a wr => ∃ (r : ByteArray) (vc : Value) (c : List Ins), a = .string r ∧ r.size ≤ 65536 ∧ c.length + r.size ≤ 65536 ∧ Hid (PM w5 P 0 0 [] wr (m : Int) vc (.slice none 0 0) c []) ∧ Hid (parR s = contP m c (restT r.data.toList)) ∧ Hid (Below R w wr)) (fun a _ => match a with | .string r => r.size | _ => 0)
      case atStart => exact ⟨⟨r.toArray⟩, .slice none 0 0, [], rfl, by show r.toArray.size ≤ 65536; simp; omega, by show 0 + r.toArray.size ≤ 65536; simp; omega, HPm, HC, HB5⟩
      case round =>
        rename World => wk
        clear HPm HC hrs
        obtain ⟨r, vc, c, rfl, hrz, hcr, HM, HC, HB⟩ := hrel
        have HRb := hid (show R ≤ wk.heap.size by have := HM.out.size; have := HSz5.out; omega)
        have HRk := hid (show wk.rowIs R 25 3 (pfun 0 (.slice none 0 0) (.slice none 0 0)) from HR5.out.of_block (HM.out.old R HSz5.out.1))
        go_upto_region 8 with (go_at_call 30; refine (HLn.out _ _ hrz).mono ?_; rintro e w8 ⟨hb8, ⟨h1, f, t, rfl⟩ | ⟨p, t, wd, l, u, h1, h2, h3, rfl, ho⟩⟩)
        · have hpar := hid (HC.out.trans (cont_bad h1))
          have HBz := hid (HB.out.trans (hb8.mono HRb.out))
          have hr := row_below HRk.out hb8
          clear h1
          have r0 := hr.cell (i := 0) (by omega)
          have r1 := hr.cell (i := 1) (by omega)
          have r2 := hr.cell (i := 2) (by omega)
          have q0 := hr.frozen 0
          have q1 := hr.frozen 1
          have q2 := hr.frozen 2
          simp only [pfun] at r0 r1 r2
          go_wp2
          refine bodyPost_ret (v := .tuple #[.agg #[.int .i64 0, .slice none 0 0, .slice none 0 0], .int .i64 3]) ?_ rfl (HPb.out _ _ 3 hpar.out rfl ?_)
          · simp [results, Tryz.results9, go_sem, r0, r1, r2]
          · exact zero_set (HBz.out) (Nat.le_refl _) _ _ _
        have hrt : t.length + 1 ≤ r.size := by
          have e1 := congrArg List.length h1
          have e2 : r.data.toList.length = r.size := by simp
          rw [e2, List.length_append, List.length_cons] at e1
          omega
        have HBz := hid (HB.out.trans (hb8.mono HRb.out))
        have hr := row_below HRk.out hb8
        have HM8 := hid (HM.out.below hb8)
        have HOu := hid ho
        have HB8 := hid hb8
        clear ho hb8
        by_cases hw : wd = wOut
        · have HT := hid (HC.out.trans (cont_out h1 h2 h3 hw))
          have e1 : (⟨wd.toArray⟩ : ByteArray).toList = [111, 117, 116] := (word_list wd).trans hw
          have e2 : ((⟨wd.toArray⟩ : ByteArray).toList == [111, 117, 116]) = true := by rw [beq_iff_eq]; exact e1
          have htl : (⟨t.toArray⟩ : ByteArray).toList = t := word_list t
          by_cases ht : t = []
          · have HT2 := hid (show parR s = contP m c (some ([], l)) by have h := HT.out; rw [if_pos ht] at h; exact h)
            have f1 : (⟨t.toArray⟩ : ByteArray).toList = [] := htl.trans ht
            have HM9 := hid (HM8.out.set2 (own_base HOu.out (by have := HSz5.out; have := HM.out.size; omega)))
            clear h1 h2 h3 hw HT HC htl ht
            generalize (⟨wd.toArray⟩ : ByteArray) = hb at *
            generalize (⟨t.toArray⟩ : ByteArray) = tb at *
            obtain ⟨au, cu, rfl⟩ := own_slice HOu.out
            obtain ⟨ac, cc, rfl⟩ := own_slice HM8.out.code
            have d2 := HM8.out.box.cell (i := 2) (by omega)
            have z2 := HM8.out.box.frozen 2
            simp only [pfun] at d2
            go_upto_region 24 with fail
            have HB9 := hid (HBz.out.setCell (p := ⟨P, 2, none⟩) (by have := HSz5.out; show R ≤ P; omega) (.slice au l.length cu))
            have hr9 : (w8.setCell ⟨P, 2, none⟩ (.slice au l.length cu)).rowIs R 25 3 (pfun 0 (.slice none 0 0) (.slice none 0 0)) := hr.setOther (by have := HSz5.out; show R ≠ P; omega) _
            have HR9 := hid hr9
            clear d2 z2 hr hr9 HM8 HOu
            generalize w8.setCell ⟨P, 2, none⟩ (.slice au l.length cu) = w9 at *
            have HCk := hid (rcheck53_any (m : Int) _ _ c (natI l) w9 (Sl.of_owns HM9.out.code) (by rw [natI_len]; exact Sl.of_owns HM9.out.outs))
            have d0 := HM9.out.box.cell (i := 0) (by omega)
            have d1 := HM9.out.box.cell (i := 1) (by omega)
            have d2 := HM9.out.box.cell (i := 2) (by omega)
            simp only [pfun] at d0 d1 d2
            have hR9 : R ≤ w9.heap.size := by have := HM9.out.size; have := HSz5.out; omega
            by_cases hE : progErr (m : Int) c (natI l) = 0
            · rw [hE] at HCk
              have HPz := hid (show parR s = ((m : Int), c, natI l, 0) by have h := HT2.out; simp only [contP, List.append_nil] at h; rw [if_pos hE] at h; exact h)
              clear hE HT2
              go_upto_region 25 with (go_at_call 21; refine HCk.out.mono ?_; rintro e w6 ⟨rfl, hb6⟩; have HB6 := hid hb6; clear hb6)
              have hr := row_below HR9.out HB6.out
              have d0 := keeps HB6.out d0
              have d1 := keeps HB6.out d1
              have d2 := keeps HB6.out d2
              have r0 := hr.cell (i := 0) (by omega)
              have r1 := hr.cell (i := 1) (by omega)
              have r2 := hr.cell (i := 2) (by omega)
              have q0 := hr.frozen 0
              have q1 := hr.frozen 1
              have q2 := hr.frozen 2
              simp only [pfun] at r0 r1 r2
              have HC6 := hid (own_below HM9.out.code HB6.out)
              have HO6 := hid (own_below HM9.out.outs HB6.out)
              have HBz := hid (HB9.out.trans (HB6.out.mono hR9))
              go_wp2
              obtain ⟨wz, hwz⟩ : ∃ wz, (((w6.setCell ⟨R, 0, none⟩ (.int .i64 (m : Int))).setCell ⟨R, 1, none⟩ (.slice ac c.length cc)).setCell ⟨R, 2, none⟩ (.slice au l.length cu)) = wz := ⟨_, rfl⟩
              have hzb : R < P + 1 := by have := HSz5.out; omega
              have s0 : wz.cell? ⟨R, 0, none⟩ = some (.int .i64 (m : Int)) := by rw [← hwz, World.cell?_setCell_other _ _ _ _ (by simp), World.cell?_setCell_other _ _ _ _ (by simp)]; exact World.cell?_setCell_same _ _ _ r0
              have s1 : wz.cell? ⟨R, 1, none⟩ = some (.slice ac c.length cc) := by rw [← hwz, World.cell?_setCell_other _ _ _ _ (by simp)]; exact World.cell?_setCell_same _ _ _ ((World.cell?_setCell_other _ _ _ _ (by simp)).trans r1)
              have s2 : wz.cell? ⟨R, 2, none⟩ = some (.slice au l.length cu) := by rw [← hwz]; exact World.cell?_setCell_same _ _ _ ((World.cell?_setCell_other _ _ _ _ (by simp)).trans ((World.cell?_setCell_other _ _ _ _ (by simp)).trans r2))
              have HCz := hid (show wz.ownsRow (P + 1) 36 3 (.slice ac c.length cc) c.length (icells c) by rw [← hwz]; exact ownsRow_setCell_below (ownsRow_setCell_below (ownsRow_setCell_below HC6.out hzb _) hzb _) hzb _)
              have HOz := hid (show wz.ownsRow (P + 1) 3 1 (.slice au l.length cu) l.length (ints (natI l)) by rw [← hwz]; exact ownsRow_setCell_below (ownsRow_setCell_below (ownsRow_setCell_below HO6.out hzb _) hzb _) hzb _)
              have HWz := hid (show Below R w wz by rw [← hwz]; exact zero_set HBz.out (Nat.le_refl _) _ _ _)
              rw [hwz]
              clear hwz r0 r1 r2 q0 q1 q2 d0 d1 d2
              refine bodyPost_ret (v := .tuple #[.agg #[.int .i64 (m : Int), .slice ac c.length cc, .slice au l.length cu], .int .i64 0]) ?_ rfl ?_
              · simp [results, Tryz.results9, go_sem, s0, s1, s2]
              · unfold ParPost
                rw [HPz.out]
                exact ⟨_, _, rfl, Sl.of_owns HCz.out, by rw [natI_len]; exact Sl.of_owns HOz.out, by rw [HRR.out]; exact HWz.out⟩
            · have hpar := hid (show parR s = (0, [], [], progErr (m : Int) c (natI l)) by have h := HT2.out; simp only [contP, List.append_nil] at h; rw [if_neg hE] at h; exact h)
              have hEn : (progErr (m : Int) c (natI l) != 0) = true := by simp [hE]
              clear hE HT2
              generalize progErr (m : Int) c (natI l) = EE at *
              go_upto_region 25 with (go_at_call 21; refine HCk.out.mono ?_; rintro e w6 ⟨rfl, hb6⟩; have HB6 := hid hb6; clear hb6)
              have hr := row_below HR9.out HB6.out
              have r0 := hr.cell (i := 0) (by omega)
              have r1 := hr.cell (i := 1) (by omega)
              have r2 := hr.cell (i := 2) (by omega)
              have q0 := hr.frozen 0
              have q1 := hr.frozen 1
              have q2 := hr.frozen 2
              simp only [pfun] at r0 r1 r2
              go_wp2
              refine bodyPost_ret (v := .tuple #[.agg #[.int .i64 0, .slice none 0 0, .slice none 0 0], .int .i64 EE]) ?_ rfl (HPb.out _ _ EE hpar.out rfl ?_)
              · simp [results, Tryz.results9, go_sem, r0, r1, r2]
              · exact zero_set (HB9.out.trans (HB6.out.mono hR9)) (Nat.le_refl _) _ _ _
          · have hpar := hid (show parR s = (0, [], [], 3) by have h := HT.out; rw [if_neg ht] at h; exact h)
            have f1 : ¬ (⟨t.toArray⟩ : ByteArray).toList = [] := fun e => ht (htl.symm.trans e)
            have f2 : ((⟨t.toArray⟩ : ByteArray).toList == []) = false := by rw [beq_eq_false_iff_ne]; exact f1
            clear h1 h2 h3 hw HT HC htl ht
            generalize (⟨wd.toArray⟩ : ByteArray) = hb at *
            generalize (⟨t.toArray⟩ : ByteArray) = tb at *
            have r0 := hr.cell (i := 0) (by omega)
            have r1 := hr.cell (i := 1) (by omega)
            have r2 := hr.cell (i := 2) (by omega)
            have q0 := hr.frozen 0
            have q1 := hr.frozen 1
            have q2 := hr.frozen 2
            simp only [pfun] at r0 r1 r2
            go_wp2
            refine bodyPost_ret (v := .tuple #[.agg #[.int .i64 0, .slice none 0 0, .slice none 0 0], .int .i64 3]) ?_ rfl (HPb.out _ _ 3 hpar.out rfl ?_)
            · simp [results, Tryz.results9, go_sem, r0, r1, r2]
            · exact zero_set (HBz.out) (Nat.le_refl _) _ _ _
        · have HT := hid (HC.out.trans (cont_ins h1 h2 h3 hw))
          have e1 : ¬ (⟨wd.toArray⟩ : ByteArray).toList = [111, 117, 116] := fun e => hw ((word_list wd).symm.trans e)
          have e2 : ((⟨wd.toArray⟩ : ByteArray).toList == [111, 117, 116]) = false := by rw [beq_eq_false_iff_ne]; exact e1
          have HNm := hid (fun X => names_any X)
          have HEq := hid (fun (k : Nat) (a1 : 1 ≤ k) (a5 : k ≤ 5) => (show ((opWs (k : Int)).toList = (⟨wd.toArray⟩ : ByteArray).toList) ↔ opOf wd = (k : Int) by
            rw [Lib.toList_data, opWs_list, word_list]; exact opOf_iff a1 a5))
          have HTn := hid (fun (h : opOf wd = 0 ∨ (l.length : Int) ≠ usedN (opOf wd)) => (show parR s = (0, [], [], 3) by have h2 := HT.out; rw [insOf_none h] at h2; exact h2))
          have HTs := hid (fun (h0 : opOf wd ≠ 0) (h : (l.length : Int) = usedN (opOf wd)) => (show parR s = contP m (c ++ [⟨opOf wd, (l.getD 0 0 : Nat), (l.getD 1 0 : Nat)⟩]) (restT t) by have h2 := HT.out; rw [insOf_some h0 h] at h2; exact h2))
          have HOr := hid (opOf_range wd)
          have HOs := hid (fun h => opOf_some (w := wd) h)
          have HK1 := hid (opK_one wd)
          have HK6 := hid (opK_six wd)
          have HKh := hid (fun (k : Nat) h => opK_hit (wd := wd) (k := k) h)
          have HKm := hid (fun (k : Nat) h => opK_miss (wd := wd) (k := k) h)
          clear h1 h2 h3 hw HT HC
          generalize (⟨wd.toArray⟩ : ByteArray) = hb at *
          generalize opK wd = KO at *
          generalize opOf wd = op at *
          go_wp2_with fail
          go_loopw [8, 9] (fun o i wr => ∃ k : Nat, 1 ≤ k ∧ k ≤ 6 ∧ o = .int .i64 (KO k) ∧ i = .int .i64 (k : Int) ∧ Hid (Below w8.heap.size w8 wr)) (fun _ i _ => 7 - (intOf i).toNat)
          case atStart => exact ⟨1, by omega, by omega, by rw [HK1.out], rfl, hid (Below.refl _ _)⟩
          case round =>
            obtain ⟨k, hk1, hk6, rfl, rfl, HBn⟩ := hrel
            rename World => wn
            by_cases hk : k < 6
            · have hk5 : k ≤ 5 := by omega
              have hkI : (k : Int) < 6 := by omega
              have hq := HEq.out k hk1 hk5
              by_cases hop : op = (k : Int)
              · have hy := hq.2 hop
                have hy2 : ((opWs (k : Int)).toList == hb.toList) = true := by rw [beq_iff_eq]; exact hy
                have HKK := hid (HKh.out k hop)
                have HCl := hid (nm_cell (w := wn) hk1 hk5)
                clear hq hop
                generalize opWs (k : Int) = NB at *
                go_wp2_with (go_at_call 23; refine (HNm.out _).mono ?_; rintro e w' ⟨rfl, rfl⟩; have hcl := HCl.out)
                go_roundw
                case rel => exact ⟨k + 1, by omega, by omega, by rw [HKK.out], by go_num, hid (HBn.out.trans ((bel_alloc wn _).mono HBn.out.size))⟩
                case measure => simp [intOf]; omega
              · have hy2 : ((opWs (k : Int)).toList == hb.toList) = false := by rw [beq_eq_false_iff_ne]; exact fun e => hop (hq.1 e)
                have HKK := hid (HKm.out k hop)
                have HCl := hid (nm_cell (w := wn) hk1 hk5)
                clear hq hop
                generalize opWs (k : Int) = NB at *
                go_wp2_with (go_at_call 23; refine (HNm.out _).mono ?_; rintro e w' ⟨rfl, rfl⟩; have hcl := HCl.out)
                go_roundw
                case rel => exact ⟨k + 1, by omega, by omega, by rw [HKK.out], by go_num, hid (HBn.out.trans ((bel_alloc wn _).mono HBn.out.size))⟩
                case measure => simp [intOf]; omega
            · obtain rfl : k = 6 := by omega
              rw [HK6.out]
              have HB8n := hid (HB8.out.trans (HBn.out.mono HB8.out.size))
              have hr := row_below hr HBn.out
              have HOn := hid (own_below HOu.out HBn.out)
              have HBz := hid (HB.out.trans (HB8n.out.mono HRb.out))
              clear HKh HKm HK1 HK6 HEq hk hk1 hk6 HM8 HOu
              by_cases hop0 : op = 0
              · have hpar := hid (HTn.out (.inl hop0))
                have ho0 : (op == 0) = true := by rw [beq_iff_eq]; exact hop0
                subst hop0
                have r0 := hr.cell (i := 0) (by omega)
                have r1 := hr.cell (i := 1) (by omega)
                have r2 := hr.cell (i := 2) (by omega)
                have q0 := hr.frozen 0
                have q1 := hr.frozen 1
                have q2 := hr.frozen 2
                simp only [pfun] at r0 r1 r2
                go_wp2
                refine bodyPost_ret (v := .tuple #[.agg #[.int .i64 0, .slice none 0 0, .slice none 0 0], .int .i64 3]) ?_ rfl (HPb.out _ _ 3 hpar.out rfl ?_)
                · simp [results, Tryz.results9, go_sem, r0, r1, r2]
                · exact zero_set (HBz.out) (Nat.le_refl _) _ _ _
              · have ho0 : (op == 0) = false := by rw [beq_eq_false_iff_ne]; exact hop0
                have hor := HOr.out
                obtain ⟨au, cu, rfl⟩ := own_slice HOn.out
                by_cases hlu : (l.length : Int) = usedN op
                · have HS1 := hid (HTs.out hop0 hlu)
                  have hluI : ((l.length : Int) == usedN op) = true := by rw [beq_iff_eq]; exact hlu
                  have hluJ : ((l.length : Int) != usedN op) = false := by rw [bne, hluI]; rfl
                  have hu3 := usedN_three (op := op) (by omega) hor.2
                  have hl2 : l.length ≤ 2 := by omega
                  have HUs := hid (fun X => used_any op X)
                  have hw8 : wk.heap.size ≤ wn.heap.size := HB8n.out.size
                  clear HTs HTn HOs hor hop0 hu3
                  generalize usedN op = U at *
                  go_upto_region 20 with (first | (go_at_call 24; refine (HUs.out _).mono ?_; rintro e w' ⟨rfl, rfl⟩) | (at_builtin; refine wpList_push2 wn rfl _ _ 23 rfl wk.heap.size 3 (.int .i64 0) 8 Tryz.underlying23 Tryz.infoInt rfl (.slice au l.length cu) l.length (ints (natI l)) rfl HOn.out #[.int .i64 0, .int .i64 0] rfl (by simp [Value.oneCell']) rfl (by unfold maxLen; omega) (by omega) hw8 ?_; intro g1 gc1 wa hown hba; have HOa := hid hown; have HBa := hid (HB8n.out.trans hba); clear hown hba))
                  obtain ⟨T0, T1⟩ := two_get l
                  have HMa := hid (HM.out.below HBa.out)
                  have hra := HBa.out.size
                  obtain ⟨ac, cc, rfl⟩ := own_slice HMa.out.code
                  obtain ⟨ba, oa, hba, s0⟩ := (Sl.of_owns HOa.out).cell T0
                  simp only [Option.some.injEq, Addr.mk.injEq, and_true] at hba
                  obtain ⟨rfl, rfl⟩ := hba
                  have s0 : wa.cell? ⟨g1, 0, none⟩ = some (.int .i64 ((l.getD 0 0 : Nat) : Int)) := s0
                  obtain ⟨ba, oa, hba, s1⟩ := (Sl.of_owns HOa.out).cell T1
                  simp only [Option.some.injEq, Addr.mk.injEq, and_true] at hba
                  obtain ⟨rfl, rfl⟩ := hba
                  have s1 : wa.cell? ⟨g1, 1, none⟩ = some (.int .i64 ((l.getD 1 0 : Nat) : Int)) := s1
                  have hU0 : ¬ U + 2 ≤ 0 := by omega
                  have hU1 : ¬ U + 2 ≤ 1 := by omega
                  clear T0 T1 hr
                  generalize l.getD 0 0 = l0 at *
                  generalize l.getD 1 0 = l1 at *
                  refine wp_region_held_drew (S := (fun w' => w'.cell? ⟨g1, 0, none⟩ = some (.int .i64 (l0 : Int)) ∧ w'.cell? ⟨g1, 1, none⟩ = some (.int .i64 (l1 : Int)))) (by kernel_rfl) ⟨s0, s1⟩ (fun hHeld => ?_)
                  have HMd := hid (HMa.out.below (below_drewN (Below.refl _ _) 1))
                  have HBd := hid (HBa.out.trans (below_drewN (Below.refl _ wa) 1))
                  change wa.drew.cell? ⟨g1, 0, none⟩ = some (.int .i64 (l0 : Int)) ∧ wa.drew.cell? ⟨g1, 1, none⟩ = some (.int .i64 (l1 : Int)) at hHeld
                  change Hid (PM w5 P 0 0 [] wa.drew _ _ _ _ _) at HMd
                  change Hid (Below wk.heap.size wk wa.drew) at HBd
                  have hgd : g1 < wa.drew.heap.size := World.block_lt_of_cell? wa.drew _ hHeld.1
                  have HOd := hid (own_below HOa.out (below_drewN (Below.refl _ wa) 1))
                  change Hid (wa.drew.ownsRow _ _ _ _ _ _) at HOd
                  clear s0 s1 HOa HMa HBa
                  generalize wa.drew = wD at *
                  obtain ⟨hg1b, -⟩ := own_block HOd.out (g := g1) rfl
                  have hg1P : P < g1 := by have := HM.out.size; omega
                  refine wpAnyH_take (i := 0) (v := .pointer (some ⟨P, 1, none⟩)) rfl (by kernel_rfl) (by kernel_rfl) (by kernel_rfl) (fun _ _ _ h => h) (Or.inl ⟨by rfl, fun w hSw => ?_⟩) (by assumption) ?_
                  · (try dsimp only at hSw); go_simp
                  try simp only [Act.put, List.setIfInBounds_toArray, List.set_cons_zero, List.set_cons_succ, List.getElem_toArray, List.getElem_cons_zero, List.getElem_cons_succ]
                  refine wpAnyH_take (i := 2) (v := .int .i64 op) rfl (by kernel_rfl) (by kernel_rfl) (by kernel_rfl) (fun _ _ _ h => h) (Or.inl ⟨by rfl, fun w hSw => ?_⟩) (by assumption) ?_
                  · (try dsimp only at hSw); go_simp
                  try simp only [Act.put, List.setIfInBounds_toArray, List.set_cons_zero, List.set_cons_succ, List.getElem_toArray, List.getElem_cons_zero, List.getElem_cons_succ]
                  refine wpAnyH_take (i := 3) (v := .slice (some ⟨g1, 0, none⟩) (l.length + 2) gc1) rfl (by kernel_rfl) (by kernel_rfl) (by kernel_rfl) (fun _ _ _ h => h) (Or.inl ⟨by rfl, fun w hSw => ?_⟩) (by assumption) ?_
                  · (try dsimp only at hSw); go_simp
                  try simp only [Act.put, List.setIfInBounds_toArray, List.set_cons_zero, List.set_cons_succ, List.getElem_toArray, List.getElem_cons_zero, List.getElem_cons_succ]
                  refine wpAnyH_take (i := 4) (v := .pointer (some ⟨g1, 0, none⟩)) rfl (by kernel_rfl) (by kernel_rfl) (by kernel_rfl) (fun _ _ _ h => h) (Or.inl ⟨by rfl, fun w hSw => ?_⟩) (by assumption) ?_
                  · (try dsimp only at hSw); go_simp
                  try simp only [Act.put, List.setIfInBounds_toArray, List.set_cons_zero, List.set_cons_succ, List.getElem_toArray, List.getElem_cons_zero, List.getElem_cons_succ]
                  refine wpAnyH_take (i := 5) (v := .int .i64 (l0 : Int)) rfl (by kernel_rfl) (by kernel_rfl) (by kernel_rfl) (fun _ _ _ h => h) (Or.inl ⟨by rfl, fun w hSw => ?_⟩) (by assumption) ?_
                  · (try dsimp only at hSw); go_simp
                  try simp only [Act.put, List.setIfInBounds_toArray, List.set_cons_zero, List.set_cons_succ, List.getElem_toArray, List.getElem_cons_zero, List.getElem_cons_succ]
                  refine wpAnyH_take (i := 6) (v := .slice (some ⟨g1, 0, none⟩) (l.length + 2) gc1) rfl (by kernel_rfl) (by kernel_rfl) (by kernel_rfl) (fun _ _ _ h => h) (Or.inl ⟨by rfl, fun w hSw => ?_⟩) (by assumption) ?_
                  · (try dsimp only at hSw); go_simp
                  try simp only [Act.put, List.setIfInBounds_toArray, List.set_cons_zero, List.set_cons_succ, List.getElem_toArray, List.getElem_cons_zero, List.getElem_cons_succ]
                  refine wpAnyH_take (i := 7) (v := .pointer (some ⟨g1, 1, none⟩)) rfl (by kernel_rfl) (by kernel_rfl) (by kernel_rfl) (fun _ _ _ h => h) (Or.inl ⟨by rfl, fun w hSw => ?_⟩) (by assumption) ?_
                  · (try dsimp only at hSw); go_simp
                  try simp only [Act.put, List.setIfInBounds_toArray, List.set_cons_zero, List.set_cons_succ, List.getElem_toArray, List.getElem_cons_zero, List.getElem_cons_succ]
                  refine wpAnyH_take (i := 8) (v := .int .i64 (l1 : Int)) rfl (by kernel_rfl) (by kernel_rfl) (by kernel_rfl) (fun _ _ _ h => h) (Or.inl ⟨by rfl, fun w hSw => ?_⟩) (by assumption) ?_
                  · (try dsimp only at hSw); go_simp
                  try simp only [Act.put, List.setIfInBounds_toArray, List.set_cons_zero, List.set_cons_succ, List.getElem_toArray, List.getElem_cons_zero, List.getElem_cons_succ]
                  refine wpAnyH_take (i := 9) (v := .agg #[.int .i64 op, .int .i64 (l0 : Int), .int .i64 (l1 : Int)]) rfl (by kernel_rfl) (by kernel_rfl) (by kernel_rfl) (fun _ _ _ h => h) (Or.inl ⟨by rfl, fun w hSw => ?_⟩) (by assumption) ?_
                  · (try dsimp only at hSw); go_simp
                  try simp only [Act.put, List.setIfInBounds_toArray, List.set_cons_zero, List.set_cons_succ, List.getElem_toArray, List.getElem_cons_zero, List.getElem_cons_succ]
                  obtain ⟨iC0, iC1, iC2, iC3, iC4⟩ := HMd.out
                  have d1 := iC0.cell (i := 1) (by omega)
                  simp only [pfun] at d1
                  have hPd : P < wD.heap.size := iC0.lt
                  refine wpAnyH_ready (rs := [1, 10]) (by kernel_rfl) (by simp) (AllReadyH.cons rfl (fun K hK => ?_) (AllReadyH.cons rfl (fun K hK => ?_) AllReadyH.nil))
                  · go_simp
                    refine hK.out _ _ hHeld (fun _ => ?_)
                    clear hK K
                    try simp only [Act.put, List.setIfInBounds_toArray, List.set_cons_zero, List.set_cons_succ, List.getElem_toArray, List.getElem_cons_zero, List.getElem_cons_succ]
                    refine wpAnyH_ready (rs := [10]) (by kernel_rfl) (by simp) (AllReadyH.cons rfl (fun K hK => ?_) AllReadyH.nil)
                    go_simp
                    refine hK.out _ _ ⟨keeps (bel_alloc _ _) hHeld.1, keeps (bel_alloc _ _) hHeld.2⟩ (fun _ => ?_)
                    clear hK K
                    try simp only [Act.put, List.setIfInBounds_toArray, List.set_cons_zero, List.set_cons_succ, List.getElem_toArray, List.getElem_cons_zero, List.getElem_cons_succ]
                    have HX := hid (HMd.out.below (bel_alloc wD (.cells #[.int .i64 op, .int .i64 (l0 : Int), .int .i64 (l1 : Int)] 36)))
                    have hneg : some g1 ≠ (Value.slice ac c.length cc).ownBlock := by
                      rcases own_apart HOd.out HMd.out.code (by decide) with h | h
                      · cases h
                      · exact h
                    refine wpAnyH_ready (rs := [11]) (by kernel_rfl) (by simp) (AllReadyH.cons rfl (fun K hK => ?_) AllReadyH.nil)
                    refine step_push (by rfl) _ _ 22 (by rfl) (P + 1) 36 (.agg #[.int .i64 0, .int .i64 0, .int .i64 0]) 3 24 Tryz.underlying22 Tryz.infoInstr rfl (by decide) (.slice ac c.length cc) c.length (icells c) (by rfl) HX.out.code wD.heap.size #[.int .i64 op, .int .i64 (l0 : Int), .int .i64 (l1 : Int)] rfl (by intro u hu; simp at hu; rcases hu with rfl | rfl | rfl <;> rfl) (by rfl) (heap_alloc_new _ _) (by unfold maxLen; omega) (by omega) (by simp; omega) ?_
                    intro g gc w3 hown3 hg3 hb3
                    have hS3 : ∀ j v, wD.cell? ⟨g1, j, none⟩ = some v → w3.cell? ⟨g1, j, none⟩ = some v := fun j v hv => by
                      have h1 := keeps (bel_alloc wD (.cells #[.int .i64 op, .int .i64 (l0 : Int), .int .i64 (l1 : Int)] 36)) hv
                      exact (World.cell?_of_block (hg3.block _ (World.block_lt_of_cell? _ _ h1) hneg)).trans h1
                    have hp3 := row_grown HX.out.box hg3 (row_ne_low53 HX.out.code (Nat.lt_succ_self P))
                    have k1 := hp3.cell (i := 1) (by omega)
                    have kf := hp3.frozen 1
                    have HM3 := hid (HX.out.set1 (x := ⟨op, l0, l1⟩) hg3 hown3)
                    refine hK.out _ _ ⟨hS3 0 _ hHeld.1, hS3 1 _ hHeld.2⟩ (fun _ => ?_)
                    clear hK K
                    try simp only [Act.put, List.setIfInBounds_toArray, List.set_cons_zero, List.set_cons_succ, List.getElem_toArray, List.getElem_cons_zero, List.getElem_cons_succ]
                    refine wpAnyH_take (i := 12) (v := .pointer (some ⟨P, 1, none⟩)) rfl (by kernel_rfl) (by kernel_rfl) (by kernel_rfl) (fun _ _ _ h => h) (Or.inl ⟨by rfl, fun w hSw => ?_⟩) (by exact ⟨hS3 0 _ hHeld.1, hS3 1 _ hHeld.2⟩) ?_
                    · (try dsimp only at hSw); go_simp
                    try simp only [Act.put, List.setIfInBounds_toArray, List.set_cons_zero, List.set_cons_succ, List.getElem_toArray, List.getElem_cons_zero, List.getElem_cons_succ]
                    refine wpAnyH_ready (rs := [13]) (by kernel_rfl) (by simp) (AllReadyH.cons rfl (fun K hK => ?_) AllReadyH.nil)
                    go_simp
                    refine hK.out _ _ ⟨?_, ?_⟩ (fun _ => ?_)
                    · rw [World.cell?_setCell_other _ _ _ _ (by simp)]; exact hS3 0 _ hHeld.1
                    · rw [World.cell?_setCell_other _ _ _ _ (by simp)]; exact hS3 1 _ hHeld.2
                    clear hK K
                    try simp only [Act.put, List.setIfInBounds_toArray, List.set_cons_zero, List.set_cons_succ, List.getElem_toArray, List.getElem_cons_zero, List.getElem_cons_succ]
                    refine wpAnyH_done (by kernel_rfl) ?_ _
                    go_wp2
                    go_roundw
                    case rel => exact ⟨⟨t.toArray⟩, _, _, rfl, by show t.toArray.size ≤ 65536; simp; omega, by rw [List.length_append]; show c.length + 1 + t.toArray.size ≤ 65536; simp; omega, HM3, HS1, hid (((HB.out.trans ((HBd.out.trans ((bel_alloc wD (.cells #[.int .i64 op, .int .i64 (l0 : Int), .int .i64 (l1 : Int)] 36)).mono HBd.out.size)).mono HRb.out)).trans (hb3.mono (by have := HSz5.out; omega))).setCell (p := ⟨P, 1, none⟩) (by have := HSz5.out; show R ≤ P; omega) _)⟩
                    case measure => show t.toArray.size < _; simp; omega
                  · go_simp
                    refine hK.out _ _ ⟨keeps (bel_alloc _ _) hHeld.1, keeps (bel_alloc _ _) hHeld.2⟩ (fun _ => ?_)
                    clear hK K
                    try simp only [Act.put, List.setIfInBounds_toArray, List.set_cons_zero, List.set_cons_succ, List.getElem_toArray, List.getElem_cons_zero, List.getElem_cons_succ]
                    have d1' := keeps (bel_alloc wD (.cells #[.int .i64 op, .int .i64 (l0 : Int), .int .i64 (l1 : Int)] 36)) d1
                    refine wpAnyH_ready (rs := [1]) (by kernel_rfl) (by simp) (AllReadyH.cons rfl (fun K hK => ?_) AllReadyH.nil)
                    go_simp
                    refine hK.out _ _ ⟨keeps (bel_alloc _ _) hHeld.1, keeps (bel_alloc _ _) hHeld.2⟩ (fun _ => ?_)
                    clear hK K
                    try simp only [Act.put, List.setIfInBounds_toArray, List.set_cons_zero, List.set_cons_succ, List.getElem_toArray, List.getElem_cons_zero, List.getElem_cons_succ]
                    have HX := hid (HMd.out.below (bel_alloc wD (.cells #[.int .i64 op, .int .i64 (l0 : Int), .int .i64 (l1 : Int)] 36)))
                    have hneg : some g1 ≠ (Value.slice ac c.length cc).ownBlock := by
                      rcases own_apart HOd.out HMd.out.code (by decide) with h | h
                      · cases h
                      · exact h
                    refine wpAnyH_ready (rs := [11]) (by kernel_rfl) (by simp) (AllReadyH.cons rfl (fun K hK => ?_) AllReadyH.nil)
                    refine step_push (by rfl) _ _ 22 (by rfl) (P + 1) 36 (.agg #[.int .i64 0, .int .i64 0, .int .i64 0]) 3 24 Tryz.underlying22 Tryz.infoInstr rfl (by decide) (.slice ac c.length cc) c.length (icells c) (by rfl) HX.out.code wD.heap.size #[.int .i64 op, .int .i64 (l0 : Int), .int .i64 (l1 : Int)] rfl (by intro u hu; simp at hu; rcases hu with rfl | rfl | rfl <;> rfl) (by rfl) (heap_alloc_new _ _) (by unfold maxLen; omega) (by omega) (by simp; omega) ?_
                    intro g gc w3 hown3 hg3 hb3
                    have hS3 : ∀ j v, wD.cell? ⟨g1, j, none⟩ = some v → w3.cell? ⟨g1, j, none⟩ = some v := fun j v hv => by
                      have h1 := keeps (bel_alloc wD (.cells #[.int .i64 op, .int .i64 (l0 : Int), .int .i64 (l1 : Int)] 36)) hv
                      exact (World.cell?_of_block (hg3.block _ (World.block_lt_of_cell? _ _ h1) hneg)).trans h1
                    have hp3 := row_grown HX.out.box hg3 (row_ne_low53 HX.out.code (Nat.lt_succ_self P))
                    have k1 := hp3.cell (i := 1) (by omega)
                    have kf := hp3.frozen 1
                    have HM3 := hid (HX.out.set1 (x := ⟨op, l0, l1⟩) hg3 hown3)
                    refine hK.out _ _ ⟨hS3 0 _ hHeld.1, hS3 1 _ hHeld.2⟩ (fun _ => ?_)
                    clear hK K
                    try simp only [Act.put, List.setIfInBounds_toArray, List.set_cons_zero, List.set_cons_succ, List.getElem_toArray, List.getElem_cons_zero, List.getElem_cons_succ]
                    refine wpAnyH_take (i := 12) (v := .pointer (some ⟨P, 1, none⟩)) rfl (by kernel_rfl) (by kernel_rfl) (by kernel_rfl) (fun _ _ _ h => h) (Or.inl ⟨by rfl, fun w hSw => ?_⟩) (by exact ⟨hS3 0 _ hHeld.1, hS3 1 _ hHeld.2⟩) ?_
                    · (try dsimp only at hSw); go_simp
                    try simp only [Act.put, List.setIfInBounds_toArray, List.set_cons_zero, List.set_cons_succ, List.getElem_toArray, List.getElem_cons_zero, List.getElem_cons_succ]
                    refine wpAnyH_ready (rs := [13]) (by kernel_rfl) (by simp) (AllReadyH.cons rfl (fun K hK => ?_) AllReadyH.nil)
                    go_simp
                    refine hK.out _ _ ⟨?_, ?_⟩ (fun _ => ?_)
                    · rw [World.cell?_setCell_other _ _ _ _ (by simp)]; exact hS3 0 _ hHeld.1
                    · rw [World.cell?_setCell_other _ _ _ _ (by simp)]; exact hS3 1 _ hHeld.2
                    clear hK K
                    try simp only [Act.put, List.setIfInBounds_toArray, List.set_cons_zero, List.set_cons_succ, List.getElem_toArray, List.getElem_cons_zero, List.getElem_cons_succ]
                    refine wpAnyH_done (by kernel_rfl) ?_ _
                    go_wp2
                    go_roundw
                    case rel => exact ⟨⟨t.toArray⟩, _, _, rfl, by show t.toArray.size ≤ 65536; simp; omega, by rw [List.length_append]; show c.length + 1 + t.toArray.size ≤ 65536; simp; omega, HM3, HS1, hid (((HB.out.trans ((HBd.out.trans ((bel_alloc wD (.cells #[.int .i64 op, .int .i64 (l0 : Int), .int .i64 (l1 : Int)] 36)).mono HBd.out.size)).mono HRb.out)).trans (hb3.mono (by have := HSz5.out; omega))).setCell (p := ⟨P, 1, none⟩) (by have := HSz5.out; show R ≤ P; omega) _)⟩
                    case measure => show t.toArray.size < _; simp; omega
                · have hpar := hid (HTn.out (.inr hlu))
                  have hluI : ((l.length : Int) == usedN op) = false := by rw [beq_eq_false_iff_ne]; exact hlu
                  have hluJ : ((l.length : Int) != usedN op) = true := by rw [bne, hluI]; rfl
                  have HUs := hid (fun X => used_any op X)
                  clear HTs HTn HOs hor hop0
                  generalize usedN op = U at *
                  go_upto_region 18 with (go_at_call 24; refine (HUs.out _).mono ?_; rintro e w' ⟨rfl, rfl⟩)
                  have r0 := hr.cell (i := 0) (by omega)
                  have r1 := hr.cell (i := 1) (by omega)
                  have r2 := hr.cell (i := 2) (by omega)
                  have q0 := hr.frozen 0
                  have q1 := hr.frozen 1
                  have q2 := hr.frozen 2
                  simp only [pfun] at r0 r1 r2
                  go_wp2
                  refine bodyPost_ret (v := .tuple #[.agg #[.int .i64 0, .slice none 0 0, .slice none 0 0], .int .i64 3]) ?_ rfl (HPb.out _ _ 3 hpar.out rfl ?_)
                  · simp [results, Tryz.results9, go_sem, r0, r1, r2]
                  · exact zero_set (HBz.out) (Nat.le_refl _) _ _ _
    · have hpar := hid (show parR s = (0, [], [], 3) by have h := HF.out; rw [if_neg (fun h => hl1 h.2)] at h; exact h)
      have hl1I : ((l.length : Int) == 1) = false := by rw [beq_eq_false_iff_ne]; omega
      clear hw1 hbl HF
      generalize (⟨wd.toArray⟩ : ByteArray) = hb at *
      have r0 := hr.cell (i := 0) (by omega)
      have r1 := hr.cell (i := 1) (by omega)
      have r2 := hr.cell (i := 2) (by omega)
      have q0 := hr.frozen 0
      have q1 := hr.frozen 1
      have q2 := hr.frozen 2
      simp only [pfun] at r0 r1 r2
      go_wp2
      refine bodyPost_ret (v := .tuple #[.agg #[.int .i64 0, .slice none 0 0, .slice none 0 0], .int .i64 3]) ?_ rfl (HPb.out _ _ 3 hpar.out rfl ?_)
      · simp [results, Tryz.results9, go_sem, r0, r1, r2]
      · exact zero_set (HB1.out) (Nat.le_refl _) _ _ _
  · have hpar := hid (show parR s = (0, [], [], 3) by have h := HF.out; rw [if_neg (fun h => hw1 h.1)] at h; exact h)
    have e1 : ¬ (⟨wd.toArray⟩ : ByteArray).toList = [112, 114, 111, 103, 114, 97, 109] := fun e => hw1 (hbl.symm.trans e)
    have e2 : ((⟨wd.toArray⟩ : ByteArray).toList == [112, 114, 111, 103, 114, 97, 109]) = false := by rw [beq_eq_false_iff_ne]; exact e1
    clear hw1 hbl HF
    generalize (⟨wd.toArray⟩ : ByteArray) = hb at *
    have r0 := hr.cell (i := 0) (by omega)
    have r1 := hr.cell (i := 1) (by omega)
    have r2 := hr.cell (i := 2) (by omega)
    have q0 := hr.frozen 0
    have q1 := hr.frozen 1
    have q2 := hr.frozen 2
    simp only [pfun] at r0 r1 r2
    go_wp2
    refine bodyPost_ret (v := .tuple #[.agg #[.int .i64 0, .slice none 0 0, .slice none 0 0], .int .i64 3]) ?_ rfl (HPb.out _ _ 3 hpar.out rfl ?_)
    · simp [results, Tryz.results9, go_sem, r0, r1, r2]
    · exact zero_set (HB1.out) (Nat.le_refl _) _ _ _
end Go.Proofs.YtmabciajhmjmeaaGreatDoor
