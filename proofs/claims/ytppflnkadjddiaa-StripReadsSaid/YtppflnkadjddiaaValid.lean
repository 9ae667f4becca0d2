/-
  strip.Valid: whether a rectangle is allowed, or the error.
  No condition beyond the rows being at most 1000 (the statements give at most 6, or the rows of a height).
-/
import Derived.Test.YtppflnkadjddiaaCounting
import Derived.Test.YtppflnkadjddiaaColumns
namespace Go.Proofs.Ytppflnkadjddiaa
open Go.RowKit
set_option linter.unusedVariables false

/-- Whether each two neighbours are allowed. -/
def adjGo (P : Int → Int → Bool) : Option Int → List Int → Bool
  | _, [] => true
  | none, x :: r => adjGo P (some x) r
  | some y, x :: r => P y x && adjGo P (some x) r
def adj (P : Int → Int → Bool) (l : List Int) : Bool := adjGo P none l
/-- What the blocks allow side by side. -/
def okP (h : Int) (l : List Int) (c e : Int) : Bool := besP (fun j => l.contains (j : Int)) h c e
def validE (l : List Int) (rows : List ByteArray) : Int := if colsErr rows ≠ 0 then colsErr rows else chk rows.length l
def validB (l : List Int) (rows : List ByteArray) : Bool := if validE l rows = 0 then adj (okP rows.length l) (colsL rows) else false
def ValidPost (l : List Int) (rows : List ByteArray) (w : World) (e : Ending) (w' : World) : Prop :=
  e = .returned (.tuple #[.bool (validB l rows), .int .i64 (validE l rows)]) ∧ Below w.heap.size w w'

structure VW (w : World) (l : List Int) (g9 : Nat) (wx : World) : Prop where
  bel : Below w.heap.size w wx
  tab : ∀ j, j < 16 → wx.cell? ⟨g9, j, none⟩ = some (.bool (l.contains (j : Int)))
  lo : w.heap.size ≤ g9
  hi : g9 < wx.heap.size
theorem VW.keep {w wx wy : World} {l : List Int} {g9 : Nat} (h : VW w l g9 wx) (hb : Below wx.heap.size wx wy) : VW w l g9 wy :=
  ⟨h.bel.trans (hb.mono (by have := h.lo; have := h.hi; omega)), fun j hj => (hb.cell (p := ⟨g9, j, none⟩) h.hi).trans (h.tab j hj), h.lo, Nat.lt_of_lt_of_le h.hi hb.size⟩
theorem VW.start {w w1 : World} {l : List Int} {c : Array Value} {e : TypeId} (hb : Below w.heap.size w w1)
    (ht : (w1.alloc (.cells c e)).there w1.heap.size 0 (tabL l).toArray.size) : VW w l w1.heap.size ((w1.alloc (.cells c e)).setCells w1.heap.size 0 (tabL l)) := by
  have hs := hb.size
  have h1 : Below w1.heap.size w1 ((w1.alloc (.cells c e)).setCells w1.heap.size 0 (tabL l)) := below_setCells ((Below.refl _ _).alloc (Nat.le_refl _) _) (Nat.le_refl _) _ _
  have ht' : (w1.alloc (.cells c e)).there w1.heap.size 0 (tabL l).length := by rw [tabA_size] at ht; rw [tabL_len]; exact ht
  refine ⟨hb.trans (h1.mono hs), ?_, hs, ?_⟩
  · intro j hj
    have := World.rangeAt_setCells_same _ _ _ _ ht' j _ (tabL_get l hj)
    rwa [Nat.zero_add] at this
  · have h2 : Below w.heap.size (w1.alloc (.cells c e)) ((w1.alloc (.cells c e)).setCells w1.heap.size 0 (tabL l)) := below_setCells (Below.refl _ _) hs _ _
    have := h2.size
    rw [World.size_alloc] at this
    omega
theorem below_start (w1 : World) (l : List Int) (c : Array Value) (e : TypeId) : Below w1.heap.size w1 ((w1.alloc (.cells c e)).setCells w1.heap.size 0 (tabL l)) :=
  below_setCells ((Below.refl _ _).alloc (Nat.le_refl _) _) (Nat.le_refl _) _ _

theorem colsErr_len {rows : List ByteArray} (h : colsErr rows = 0) : 1 ≤ rows.length ∧ rows.length ≤ 4 := by
  unfold colsErr at h
  split at h
  · assumption
  · simp at h
theorem colsL_range {rows : List ByteArray} {k : Nat} {x : Int} (hE : colsErr rows = 0) (h : (colsL rows)[k]? = some x) : 0 ≤ x ∧ x < 2 ^ rows.length := by
  rw [colsL, if_pos hE] at h
  have := List.mem_of_getElem? h
  simp only [List.mem_map] at this
  obtain ⟨j, _, rfl⟩ := this
  exact colAt_bound rows j
theorem colsL_15 {rows : List ByteArray} {k : Nat} {x : Int} (hE : colsErr rows = 0) (h : (colsL rows)[k]? = some x) : 0 ≤ x ∧ x ≤ 15 ∧ ((rows.length : Int) = 1 → x ≤ 1) := by
  have h1 := colsL_range hE h
  have h2 := colsErr_len hE
  have h3 := pow_le16 h2.2
  refine ⟨h1.1, by omega, fun e => ?_⟩
  have : rows.length = 1 := by omega
  rw [this] at h1
  omega
theorem tup_bi {a b : Bool} {c d : Int} (h1 : b = a) (h2 : d = c) : Ending.returned (.tuple #[.bool a, .int .i64 c]) = .returned (.tuple #[.bool b, .int .i64 d]) := by rw [h1, h2]
theorem adj_end (P : Int → Int → Bool) (p : Option Int) : adjGo P p [] = true := by cases p <;> rfl
theorem colsL_len {rows : List ByteArray} (hE : colsErr rows = 0) : (colsL rows).length ≤ 65536 := by
  rw [colsL, if_pos hE]
  simp only [List.length_map, List.length_range]
  unfold colsErr at hE
  split at hE
  · split at hE
    · split at hE
      · simp at hE
      · omega
    · simp at hE
  · simp at hE

set_option maxRecDepth 100000 in
set_option maxHeartbeats 4000000 in
theorem valid_any (v1 v2 : Value) (l : List Int) (rows : List ByteArray) (w : World) (hl : Sl 1 w v1 l.length (ints l)) (hr : Sl 1 w v2 rows.length (strs rows)) (hn : rows.length ≤ 1000) :
    Calls Try.prog 20 #[v1, v2] w (ValidPost l rows w) := by
  have hC := columns_any v2 rows w hr hn
  obtain ⟨ao1, cap1, rfl, _, _, hm1, _⟩ := id hl
  obtain ⟨ao2, cap2, rfl, _, _, hm2, _⟩ := id hr
  have HL := hid hl
  have HR := hid hr
  clear hl hr
  by_cases hE : colsErr rows = 0
  · have hV : validE l rows = chk rows.length l := by rw [validE, if_neg (by simp [hE])]
    by_cases hk : chk rows.length l = 0
    · have HB := hid (show validB l rows = adj (okP rows.length l) (colsL rows) by rw [validB, if_pos (by rw [hV, hk])])
      have HV := hid (show validE l rows = 0 by rw [hV, hk])
      have HX := hid (fun (k : Nat) (x : Int) => colsL_15 (k := k) (x := x) hE)
      have HCL := hid (colsL_len hE)
      obtain ⟨h1, h4⟩ := colsErr_len hE
      have hlr := (chk_range hk).2
      have HK := hid hk
      have HC := hid hC
      have HLR := hid hlr
      have HE := hid hE
      clear hE hV hk hC hlr
      go_enter Try.func20, Try.ntmps20
      go_upto_region 4 with (go_at_call 13; refine HC.out.mono ?_; rintro e w1 ⟨v', rfl, ho1, hb1⟩; rw [HE.out])
      have hS1 := Sl.of_owns ho1
      clear ho1
      have hl1 := HL.out.below hb1
      generalize colsL rows = C at *
      go_upto_region 7 with (go_at_call 32; refine (check_any _ l _ _ ?_).mono ?_; (exact hl1); rintro e w2 ⟨rfl, rfl⟩; rw [HK.out])
      obtain ⟨ao3, cap3, rfl, _, _, hm3, _⟩ := id hS1
      have htb := table_any l _ w1 hl1 HLR.out
      have HI := hid (show (Try.prog.info? 76).map (·.size) = some (tabL l).toArray.size by rw [tabA_size]; kernel_rfl)
      have HT := hid htb
      have HS1 := hid hS1
      clear htb hS1 hl1
      go_cut [9] (fun u9 wx => ∃ g9, u9 = .pointer (some ⟨g9, 0, none⟩) ∧ VW w l g9 wx ∧ Sl 1 wx (.slice ao3 C.length cap3) C.length (ints C))
      case first =>
        go_wp2_with (first
          | (go_at_call 44; refine HT.out.mono ?_; rintro e w2 ⟨rfl, hb⟩; have hth := fun c => there_new w2 76 c (tabA_size l))
          | (refine wpList_store_mid rfl 76 _ _ rfl w2.heap.size 0 (tabL l).toArray rfl rfl (hth _ rfl) HI.out (tabL_one l) ?_))
        go_meet
        exact ⟨w2.heap.size, rfl, VW.start (hb1.trans (hb.mono hb1.size)) (hth _ rfl), (HS1.out.below hb).below (below_start _ _ _ _)⟩
      case rest =>
        obtain ⟨g9, rfl, hW, hS⟩ := hcut
        have HW := hid hW
        have HS := hid hS
        clear hW hS HS1 hb1
        go_upto_region 9 with fail
        go_loopw [31] (fun i wr => ∃ k : Nat, k ≤ C.length ∧ i = .int .i64 k ∧ VW w l g9 wr ∧ Sl 1 wr (.slice ao3 C.length cap3) C.length (ints C) ∧ Hid (adj (okP rows.length l) C = adjGo (okP rows.length l) (prev C k) (C.drop k))) (fun i _ => C.length - (intOf i).toNat)
        case atStart => exact ⟨0, Nat.zero_le _, rfl, HW.out, HS.out, hid rfl⟩
        case round =>
          obtain ⟨k, hk, rfl, hW2, hS2, HA⟩ := hrel
          have HW2 := hid hW2
          have HS2 := hid hS2
          clear hW2 hS2 HW HS
          have hcl := HCL.out
          by_cases hlt : k < C.length
          · obtain ⟨x, hx⟩ := some_of_lt hlt
            obtain ⟨b, o, rfl, c1⟩ := HS2.out.cell (ints_get hx)
            obtain ⟨x0, x15, x1⟩ := HX.out k x hx
            have X1 := hid x1
            have HX1 := hid hx
            clear x1 hx
            by_cases h0 : k = 0
            · subst h0
              simp only [Nat.add_zero] at c1
              go_wp2
              go_roundw
              case rel => exact ⟨1, by omega, rfl, HW2.out, HS2.out, hid (by rw [HA.out, drop_cons HX1.out, prev_succ _ _ _ HX1.out]; rfl)⟩
              case measure => simp [intOf]; omega
            · obtain ⟨y, hy⟩ := some_of_lt (l := C) (k := k - 1) (by omega)
              obtain ⟨b', o', hbo, c2⟩ := HS2.out.cell (ints_get hy)
              simp only [Option.some.injEq, Addr.mk.injEq, and_true] at hbo
              obtain ⟨rfl, rfl⟩ := hbo
              obtain ⟨y0, y15, y1⟩ := HX.out (k - 1) y hy
              have Y1 := hid y1
              have HP := hid (show prev C k = some y by rw [prev, if_neg h0, hy])
              clear y1 hy
              have hk1 : 1 ≤ k := by omega
              have hb := beside_any g9 (fun j => l.contains (j : Int)) rows.length y x wr (by omega) (by omega) y0 y15 x0 x15 (blks_range _ _ _ y0 x0 Y1.out X1.out) HW2.out.hi HW2.out.tab
              by_cases hP : besP (fun j => l.contains (j : Int)) rows.length y x = true
              · rw [hP] at hb
                have HBS := hid hb
                clear hb
                go_wp2_with (go_at_call 45; refine HBS.out.mono ?_; rintro e' w4 ⟨rfl, hb⟩)
                go_roundw
                case rel => exact ⟨k + 1, by omega, by go_num, HW2.out.keep hb, HS2.out.below hb, hid (by rw [HA.out, drop_cons HX1.out, HP.out, prev_succ _ _ _ HX1.out, adjGo, okP, hP, Bool.true_and])⟩
                case measure => simp [intOf]; omega
              · have hPf : besP (fun j => l.contains (j : Int)) rows.length y x = false := by simpa using hP
                rw [hPf] at hb
                have HBS := hid hb
                have HPF := hid hPf
                clear hb hP hPf
                go_wp2_with (go_at_call 45; refine HBS.out.mono ?_; rintro e' w4 ⟨rfl, hb⟩)
                go_ret2
                exact ⟨tup_bi (by rw [HB.out, HA.out, drop_cons HX1.out, HP.out, adjGo, okP, HPF.out, Bool.false_and]) HV.out, (HW2.out.keep hb).bel⟩
          · go_wp2
            go_ret2
            exact ⟨tup_bi (by rw [HB.out, HA.out, drop_all (by omega), adj_end]) HV.out, HW2.out.bel⟩
    · have HB := hid (show validB l rows = false by rw [validB, if_neg (by rw [hV]; exact hk)])
      have HV := hid hV
      have HC := hid hC
      have HE := hid hE
      have hcb : ((chk rows.length l) != 0) = true := by simp [hk]
      clear hE hV hk hC
      generalize hK : chk rows.length l = K at *
      have HK := hid hK
      clear hK
      go_enter Try.func20, Try.ntmps20
      go_upto_region 4 with (go_at_call 13; refine HC.out.mono ?_; rintro e w1 ⟨v', rfl, ho1, hb1⟩; rw [HE.out])
      have hS1 := Sl.of_owns ho1
      clear ho1
      have hl1 := HL.out.below hb1
      generalize colsL rows = C at *
      go_wp2_with (go_at_call 32; refine (check_any _ l _ _ ?_).mono ?_; (exact hl1); rintro e w2 ⟨rfl, rfl⟩; rw [HK.out])
      go_ret2
      exact ⟨tup_bi HB.out HV.out, hb1⟩
  · have hV : validE l rows = colsErr rows := by rw [validE, if_pos hE]
    have HB := hid (show validB l rows = false by rw [validB, if_neg (by rw [hV]; exact hE)])
    have HV := hid hV
    have HC := hid hC
    have hcb : (colsErr rows != 0) = true := by simp [hE]
    clear hE hV hC
    generalize hK : colsErr rows = K at *
    have HK := hid hK
    clear hK
    go_enter Try.func20, Try.ntmps20
    go_wp2_with (go_at_call 13; refine HC.out.mono ?_; rintro e w1 ⟨v', rfl, ho1, hb1⟩; rw [HK.out])
    go_ret2
    exact ⟨tup_bi HB.out HV.out, hb1⟩
end Go.Proofs.Ytppflnkadjddiaa
