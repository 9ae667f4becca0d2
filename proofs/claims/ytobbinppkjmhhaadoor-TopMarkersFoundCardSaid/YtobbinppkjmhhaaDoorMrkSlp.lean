/-
  marker.slips: the slips of some words, as an iterator.
  At most three words of at most sixteen letters.
-/
import Derived.Test.YtobbinppkjmhhaaDoorMrkTrk
import Derived.Stop.RegionWithIn
namespace Go.Proofs.YtobbinppkjmhhaaDoor
open Go.RowKit Go.Shelf
attribute [local go_sem] Oper.semAt_some
set_option linter.unusedVariables false

abbrev Slp := Nat × Int × List UInt8
def encSlp (p : Slp) : Array Value := #[.agg #[.int .i64 (p.1 : Nat), .int .i64 p.2.1, .string (mkS p.2.2)]]
/-- What a slip may be. -/
structure SlpOk (ws : List (List UInt8)) (p : Slp) : Prop where
  blk : p.1 < ws.length
  sh : p.2.1 = -1 ∨ p.2.1 = 1
  len : p.2.2.length ≤ 17
def delW (x : List UInt8) (k : Nat) : List UInt8 := x.take k ++ x.drop (k + 1)
/-- The letters that were left out so far: all of the words below i, the first k of word i. -/
def Dels (ws : List (List UInt8)) (i k : Nat) (l : List Slp) : Prop := ∀ i' k' x, ws[i']? = some x → k' < x.length → (i' < i ∨ (i' = i ∧ k' < k)) → (i', -1, delW x k') ∈ l
theorem Dels.more {ws : List (List UInt8)} {i k : Nat} {l : List Slp} (h : Dels ws i k l) (p : Slp) : Dels ws i k (l ++ [p]) := fun a b c d e f => List.mem_append_left _ (h a b c d e f)
theorem Dels.next {ws : List (List UInt8)} {i k : Nat} {l : List Slp} {x : List UInt8} (h : Dels ws i k l) (hx : ws[i]? = some x) : Dels ws i (k + 1) (l ++ [(i, -1, delW x k)]) := fun a b y d e f => by
  by_cases hb : a = i ∧ b = k
  · obtain ⟨rfl, rfl⟩ := hb
    rw [hx] at d; cases d
    exact List.mem_append_right _ (List.mem_singleton.2 rfl)
  · exact List.mem_append_left _ (h a b y d e (by omega))
theorem Dels.up {ws : List (List UInt8)} {i : Nat} {l : List Slp} {x : List UInt8} (h : Dels ws i x.length l) (hx : ws[i]? = some x) : Dels ws (i + 1) 0 l := fun a b y d e f => by
  rcases Nat.lt_or_ge a i with h1 | h1
  · exact h a b y d e (.inl h1)
  · obtain rfl : a = i := by omega
    rw [hx] at d; cases d
    exact h a b x hx e (.inr ⟨rfl, e⟩)
def OkAll (ws : List (List UInt8)) (l : List Slp) : Prop := ∀ p ∈ l, SlpOk ws p
theorem OkAll.more {ws : List (List UInt8)} {l : List Slp} (h : OkAll ws l) {p : Slp} (hp : SlpOk ws p) : OkAll ws (l ++ [p]) := fun q hq => by
  rcases List.mem_append.1 hq with hq | hq
  · exact h q hq
  · obtain rfl := List.mem_singleton.1 hq
    exact hp
/-- What the body of a round leaves alone: all cells, but for r. -/
def SlpK (r : Nat) (W W' : World) : Prop := W.heap.size ≤ W'.heap.size ∧ ∀ (k : Nat) (o : Obj), W.heap[k]? = some o → o.isCells = true → k ≠ r → W'.heap[k]? = some o
theorem SlpK.trans {r : Nat} {A B C : World} (h : SlpK r A B) (k : SlpK r B C) : SlpK r A C := ⟨Nat.le_trans h.1 k.1, fun i o h1 h2 h3 => k.2 i o (h.2 i o h1 h2 h3) h2 h3⟩
theorem SlpK.below {r : Nat} {A B : World} (h : Below A.heap.size A B) : SlpK r A B := ⟨h.size, fun k o h1 _ _ => (h.block k (Array.getElem?_eq_some_iff.1 h1).1).trans h1⟩
theorem SlpK.cell {r : Nat} {A B : World} (h : SlpK r A B) {a : Addr} {v : Value} (hc : A.cell? a = some v) (h2 : a.block ≠ r) : B.cell? a = some v := by
  cases ho : A.heap[a.block]? with
  | none => unfold World.cell? at hc; rw [ho] at hc; simp at hc
  | some o =>
    cases o with
    | cells cs T fz =>
      have := h.2 _ _ ho rfl h2
      unfold World.cell? at hc ⊢
      rw [this]; rw [ho] at hc; exact hc
    | _ => unfold World.cell? at hc; rw [ho] at hc; simp at hc
/-- What a round hands on, whichever way. -/
def slpPost (J Jx : World → Prop) (r : Nat) (W : World) (e : Ending) (W' : World) : Prop := ∃ bb : Bool, e = .returned (.bool bb) ∧ Hid ((bb = true ∧ J W' ∨ bb = false ∧ Jx W') ∧ SlpK r W W')
theorem slp_post {J Jx : World → Prop} {r : Nat} {W : World} : ∀ (e : Ending) (W' : World), (e = .returned (.bool true) ∧ J W' ∧ SlpK r W W') ∨ (e = .returned (.bool false) ∧ Jx W' ∧ SlpK r W W') → slpPost J Jx r W e W' := by
  rintro e W' (⟨rfl, h1, h2⟩ | ⟨rfl, h1, h2⟩)
  · exact ⟨true, rfl, .inl ⟨rfl, h1⟩, h2⟩
  · exact ⟨false, rfl, .inr ⟨rfl, h1⟩, h2⟩
set_option maxRecDepth 100000 in
set_option maxHeartbeats 4000000 in
theorem slp_many (l r Bx : Nat) (ao : Option Addr) (cap : Nat) (ws : List (List UInt8)) (hn : ws.length ≤ 3) (hw : ∀ x ∈ ws, x.length ≤ 16) (J Jx : List Slp → World → Prop) (hJ : Abides1 Bx J) (W : World) (hBr : Bx ≠ r) (hr : r < W.heap.size)
    (hl : Sl 1 W (.slice ao ws.length cap) ws.length (sstr ws)) (hao : ∀ bb oo, ws.length ≠ 0 → ao = some ⟨bb, oo, none⟩ → bb ≠ r) (hc : W.cell? ⟨Bx, 0, none⟩ = some (.slice ao ws.length cap))
    (hY : ∀ pre p W, J pre W → OkAll ws (pre ++ [p]) → YieldAt Fence.wide (8 - 1) Tryd.prog l (encSlp p) W fun e W' =>
      (e = .returned (.bool true) ∧ J (pre ++ [p]) W' ∧ SlpK r W W') ∨ (e = .returned (.bool false) ∧ Jx (pre ++ [p]) W' ∧ SlpK r W W'))
    (h0 : J [] W) :
    CallsIn Fence.wide 8 Tryd.prog 51 #[.func (.yield l) #[] #[], .pointer (some ⟨Bx, 0, none⟩)] W fun e' W' => (∃ v, e' = .returned v) ∧
      ((∃ ys, Dels ws ws.length 0 ys ∧ J ys W') ∨ (∃ pre, OkAll ws pre ∧ Jx pre W')) := by
  have hm1 : ws.length ≤ cap ∧ cap ≤ 9223372036854775807 := by
    obtain ⟨_, _, hv, _, hc1, hm1, _⟩ := id hl
    simp only [Value.slice.injEq] at hv
    rw [hv.2.2]; exact ⟨hc1, hm1⟩
  obtain ⟨hc1, hm1⟩ := hm1
  have HL := hid hl
  have HA := hid hao
  have HY := hid hY
  have HJ := hid hJ
  have HW := hid hw
  clear hl hao hY hJ hw
  refine callsIn_of_wp Tryd.func51 rfl trivial ?_ rfl
  simp only [Tryd.ntmps51, List.size_toArray, List.length_cons, List.length_nil, Nat.reduceAdd, Nat.reduceSub, Array.replicate_succ, Array.replicate_zero, List.push_toArray, List.append_toArray, List.nil_append, List.cons_append]
  gi_wp2
  gi_loopw [11] (fun i wr => ∃ k : Nat, k ≤ ws.length ∧ i = .int .i64 k ∧ Hid (∃ pre, J pre wr ∧ OkAll ws pre ∧ Dels ws k 0 pre) ∧ Hid (SlpK r W wr)) (fun i _ => ws.length - (intOf i).toNat)
  case atStart => exact ⟨0, Nat.zero_le _, rfl, hid ⟨[], h0, fun p hp => by simp at hp, fun a b c d e f => by omega⟩, hid ⟨Nat.le_refl _, fun _ _ h _ _ => h⟩⟩
  case round =>
    obtain ⟨i, hi, rfl, HP, HK⟩ := hrel
    by_cases hlt : i < ws.length
    · obtain ⟨x, hx⟩ := some_of_lt hlt
      obtain ⟨bb, oo, rfl, c0⟩ := HL.out.cell (sstr_get hx)
      have c1 := HK.out.cell c0 (HA.out bb oo (by omega) rfl)
      have hxl := HW.out x (List.mem_of_getElem? hx)
      have hsx : ((mkS x).size : Int) = (x.length : Int) := by rw [mkS_size]
      have HX := hid hx
      have hlt2 : (i : Int) < (ws.length : Int) := by omega
      clear hx c0
      gi_wp2
      gi_loopw [18] (fun v wk => ∃ k : Nat, k ≤ x.length ∧ v = .int .i64 k ∧ Hid (∃ pre, J pre wk ∧ OkAll ws pre ∧ Dels ws i k pre) ∧ Hid (SlpK r W wk)) (fun v _ => x.length - (intOf v).toNat)
      case atStart => exact ⟨0, Nat.zero_le _, rfl, HP, HK⟩
      case round =>
        obtain ⟨k, hk, rfl, HPk, HKk⟩ := hrel
        rename World => wk
        by_cases hkl : k < x.length
        · have hkl2 : (k : Int) < ((mkS x).size : Int) := by omega
          obtain ⟨K1, hK1⟩ : ∃ K1, k + 1 = K1 := ⟨_, rfl⟩
          have hw0 : IntKind.i64.wrap ((k : Int) + 1) = (k : Int) + 1 := IntWalk.i64_in _ (by omega)
          have hw1 : IntKind.i64.wrap ((k : Int) + 1) = (K1 : Int) := by rw [hw0]; omega
          have hK2 : (K1 : Int) ≤ (x.length : Int) := by omega
          have hcc : ¬ 9223372036854775807 < min k (mkS x).size + ((mkS x).size - K1) := by rw [mkS_size]; omega
          obtain ⟨pre, hp1, hp2, hp3⟩ := HPk.out
          have hp4 := hp2.more (p := (i, -1, delW x k)) ⟨lt_of_some HX.out, .inl rfl, by simp only [delW, List.length_append, List.length_take, List.length_drop]; omega⟩
          have hdr : Below wk.heap.size wk wk.drew := below_drewN (Below.refl _ _) 1
          have HYk := hid (HY.out pre (i, -1, delW x k) wk.drew (HJ.out _ _ _ none hp1 (mk_grown hdr) (fun r e => by cases e)) hp4)
          obtain ⟨fn, tmps, assign, body, hy, hR⟩ := HYk.out
          have HRr := hid (hR.mono (R' := slpPost (J (pre ++ [(i, -1, delW x k)])) (Jx (pre ++ [(i, -1, delW x k)])) r wk.drew) slp_post)
          clear hR HYk
          simp only [encSlp, delW] at hy
          rw [← mkS_append, ← mkS_take, ← mkS_drop, hK1] at hy
          have HKd := hid (HKk.out.trans (SlpK.below hdr))
          have HP3 := hid (hp3.next HX.out)
          have HP4 := hid hp4
          have HKL := hid hkl
          have HK1 := hid hK1
          clear hw0 hp1 hp2 hp3 hp4 hdr hK1
          gi_wp2
          gi_region_with (refine HRr.out.mono ?_; rintro e W3 ⟨bb, rfl, HQ⟩)
          obtain ⟨(⟨rfl, hJ3⟩ | ⟨rfl, hJx3⟩), hK3⟩ := HQ.out
          · have HJ3 := hid hJ3
            have HK3 := hid (HKd.out.trans hK3)
            clear hJ3 hK3 hy
            gi_wp2
            go_roundw
            case rel => exact ⟨k + 1, HKL.out, by rw [← HK1.out], hid ⟨_, HJ3.out, HP4.out, HP3.out⟩, HK3⟩
            case measure => have := HKL.out; have := HK1.out; simp [intOf]; omega
          · gi_wp2
            refine bodyPost_ret (results_none rfl _ _ _) rfl ?_
            exact ⟨⟨_, rfl⟩, .inr ⟨_, HP4.out, hJx3⟩⟩
        · obtain rfl : k = x.length := by omega
          gi_wp2
          gi_loopw [38] (fun v wj => ∃ k : Nat, k ≤ x.length + 1 ∧ v = .int .i64 k ∧ Hid (∃ pre, J pre wj ∧ OkAll ws pre ∧ Dels ws i x.length pre) ∧ Hid (SlpK r W wj)) (fun v _ => x.length + 1 - (intOf v).toNat)
          case atStart => exact ⟨0, Nat.zero_le _, rfl, HPk, HKk⟩
          case round =>
            obtain ⟨k, hk, rfl, HPj, HKj⟩ := hrel
            rename World => wj
            by_cases hkl : k < x.length + 1
            · have hkl2 : (k : Int) < (x.length : Int) + 1 := by omega
              have HKL := hid hkl
              gi_wp2
              obtain ⟨R, hR⟩ : ∃ R, wj.heap.size = R := ⟨_, rfl⟩
              rw [hR]
              have hbl := bel_alloc wj (.cells #[.string ⟨#[48]⟩, .string ⟨#[49]⟩] 9)
              have hr0 : (wj.alloc (.cells #[.string ⟨#[48]⟩, .string ⟨#[49]⟩] 9)).cell? ⟨R, 0, none⟩ = some (.string ⟨#[48]⟩) := by rw [← hR]; simp [go_sem]
              have hr1 : (wj.alloc (.cells #[.string ⟨#[48]⟩, .string ⟨#[49]⟩] 9)).cell? ⟨R, 1, none⟩ = some (.string ⟨#[49]⟩) := by rw [← hR]; simp [go_sem]
              have hRr : R ≠ r := by have := HKj.out.1; omega
              have HPa := hid (show ∃ pre, J pre (wj.alloc (.cells #[.string ⟨#[48]⟩, .string ⟨#[49]⟩] 9)) ∧ OkAll ws pre ∧ Dels ws i x.length pre by
                obtain ⟨pre, h1, h2⟩ := HPj.out
                exact ⟨pre, HJ.out _ _ _ none h1 (mk_grown hbl) (fun r e => by cases e), h2⟩)
              have HKa := hid (HKj.out.trans (SlpK.below hbl))
              generalize wj.alloc (.cells #[.string ⟨#[48]⟩, .string ⟨#[49]⟩] 9) = wa at *
              have HR0 := hid hr0
              have HR1 := hid hr1
              clear hr0 hr1 hbl
              gi_loopw [43] (fun v wq => ∃ c : Nat, c ≤ 2 ∧ v = .int .i64 c ∧ Hid (∃ pre, J pre wq ∧ OkAll ws pre ∧ Dels ws i x.length pre) ∧ Hid (SlpK r wa wq)) (fun v _ => 2 - (intOf v).toNat)
              case atStart => exact ⟨0, by omega, rfl, HPa, hid ⟨Nat.le_refl _, fun _ _ h _ _ => h⟩⟩
              case round =>
                obtain ⟨c, hc, rfl, HPq, HKq⟩ := hrel
                rename World => wq
                have q0 := HKq.out.cell HR0.out hRr
                have q1 := HKq.out.cell HR1.out hRr
                obtain ⟨pre, hp1, hp2, hp3⟩ := HPq.out
                have HP3 := hid hp3
                rcases (show c = 0 ∨ c = 1 ∨ c = 2 by omega) with rfl | rfl | rfl
                · have hkle : k ≤ x.length := by omega
                  have hcc1 : ¬ 9223372036854775807 < min k (mkS x).size + 1 := by rw [mkS_size]; omega
                  have hcc2 : ¬ 9223372036854775807 < min k (mkS x).size + 1 + ((mkS x).size - k) := by rw [mkS_size]; omega
                  have hp4 := hp2.more (p := (i, 1, x.take k ++ [48] ++ x.drop k)) ⟨lt_of_some HX.out, .inr rfl, by simp only [List.length_append, List.length_take, List.length_drop, List.length_cons, List.length_nil]; omega⟩
                  have hdr : Below wq.heap.size wq wq.drew := below_drewN (Below.refl _ _) 1
                  have HYk := hid (HY.out pre (i, 1, x.take k ++ [48] ++ x.drop k) wq.drew (HJ.out _ _ _ none hp1 (mk_grown hdr) (fun r e => by cases e)) hp4)
                  obtain ⟨fn, tmps, assign, body, hy, hR⟩ := HYk.out
                  have HRr := hid (hR.mono (R' := slpPost (J (pre ++ [(i, 1, x.take k ++ [48] ++ x.drop k)])) (Jx (pre ++ [(i, 1, x.take k ++ [48] ++ x.drop k)])) r wq.drew) slp_post)
                  clear hR HYk
                  simp only [encSlp] at hy
                  rw [← mkS_append, ← mkS_append, ← mkS_take, ← mkS_drop, show mkS [48] = ⟨#[48]⟩ from rfl] at hy
                  have HKd := hid (HKq.out.trans (SlpK.below hdr))
                  have HP4 := hid hp4
                  clear hp1 hp2 hp3 hp4 hdr
                  gi_wp2
                  gi_region_with (refine HRr.out.mono ?_; rintro e W3 ⟨bb, rfl, HQ⟩)
                  obtain ⟨(⟨rfl, hJ3⟩ | ⟨rfl, hJx3⟩), hK3⟩ := HQ.out
                  · have HJ3 := hid hJ3
                    have HK3 := hid (HKd.out.trans hK3)
                    clear hJ3 hK3 hy
                    gi_wp2
                    go_roundw
                    case rel => exact ⟨1, by omega, by go_num, hid ⟨_, HJ3.out, HP4.out, HP3.out.more _⟩, HK3⟩
                    case measure => simp [intOf]
                  · gi_wp2
                    refine bodyPost_ret (results_none rfl _ _ _) rfl ?_
                    exact ⟨⟨_, rfl⟩, .inr ⟨_, HP4.out, hJx3⟩⟩
                · have hkle : k ≤ x.length := by omega
                  have hcc1 : ¬ 9223372036854775807 < min k (mkS x).size + 1 := by rw [mkS_size]; omega
                  have hcc2 : ¬ 9223372036854775807 < min k (mkS x).size + 1 + ((mkS x).size - k) := by rw [mkS_size]; omega
                  have hp4 := hp2.more (p := (i, 1, x.take k ++ [49] ++ x.drop k)) ⟨lt_of_some HX.out, .inr rfl, by simp only [List.length_append, List.length_take, List.length_drop, List.length_cons, List.length_nil]; omega⟩
                  have hdr : Below wq.heap.size wq wq.drew := below_drewN (Below.refl _ _) 1
                  have HYk := hid (HY.out pre (i, 1, x.take k ++ [49] ++ x.drop k) wq.drew (HJ.out _ _ _ none hp1 (mk_grown hdr) (fun r e => by cases e)) hp4)
                  obtain ⟨fn, tmps, assign, body, hy, hR⟩ := HYk.out
                  have HRr := hid (hR.mono (R' := slpPost (J (pre ++ [(i, 1, x.take k ++ [49] ++ x.drop k)])) (Jx (pre ++ [(i, 1, x.take k ++ [49] ++ x.drop k)])) r wq.drew) slp_post)
                  clear hR HYk
                  simp only [encSlp] at hy
                  rw [← mkS_append, ← mkS_append, ← mkS_take, ← mkS_drop, show mkS [49] = ⟨#[49]⟩ from rfl] at hy
                  have HKd := hid (HKq.out.trans (SlpK.below hdr))
                  have HP4 := hid hp4
                  clear hp1 hp2 hp3 hp4 hdr
                  gi_wp2
                  gi_region_with (refine HRr.out.mono ?_; rintro e W3 ⟨bb, rfl, HQ⟩)
                  obtain ⟨(⟨rfl, hJ3⟩ | ⟨rfl, hJx3⟩), hK3⟩ := HQ.out
                  · have HJ3 := hid hJ3
                    have HK3 := hid (HKd.out.trans hK3)
                    clear hJ3 hK3 hy
                    gi_wp2
                    go_roundw
                    case rel => exact ⟨2, by omega, by go_num, hid ⟨_, HJ3.out, HP4.out, HP3.out.more _⟩, HK3⟩
                    case measure => simp [intOf]
                  · gi_wp2
                    refine bodyPost_ret (results_none rfl _ _ _) rfl ?_
                    exact ⟨⟨_, rfl⟩, .inr ⟨_, HP4.out, hJx3⟩⟩
                · gi_wp2
                  go_roundw
                  case rel => exact ⟨k + 1, HKL.out, by go_num, HPq, hid (HKa.out.trans HKq.out)⟩
                  case measure => have := HKL.out; simp [intOf]; omega
            · obtain rfl : k = x.length + 1 := by omega
              gi_wp2
              go_roundw
              case rel => exact ⟨i + 1, by omega, by go_num, hid (by obtain ⟨pre, h1, h2, h3⟩ := HPj.out; exact ⟨pre, h1, h2, h3.up HX.out⟩), HKj⟩
              case measure => simp [intOf]; omega
    · obtain rfl : i = ws.length := by omega
      gi_wp2
      go_end0
      obtain ⟨pre, h1, h2, h3⟩ := HP.out
      exact ⟨⟨_, rfl⟩, .inl ⟨pre, h3, h1⟩⟩
end Go.Proofs.YtobbinppkjmhhaaDoor
