/-
  integer: add, compare, subtract on naturals; Add, Neg, Sub, Compare on integers.
  No condition beyond bounds on the lengths.
-/
import Derived.Test.YtppflnkadjddiaaIntOf
namespace Go.Proofs.Ytppflnkadjddiaa
open Go.RowKit
set_option linter.unusedVariables false

/-- The k-th digit, or 0. -/
def dg (l : List Int) (k : Nat) : Int := l[k]?.getD 0
theorem natv_take_succ {l : List Int} {k : Nat} {x : Int} (h : l[k]? = some x) : natv (l.take (k + 1)) = natv (l.take k) + 4294967296 ^ k * x.toNat := by
  rw [take_snoc h, natv_append, List.length_take]
  have := lt_of_some h
  rw [show min k l.length = k by omega]
  simp [natv]
theorem natv_take_any (l : List Int) (k : Nat) : natv (l.take (k + 1)) = natv (l.take k) + 4294967296 ^ k * (dg l k).toNat := by
  by_cases h : k < l.length
  · obtain ⟨x, hx⟩ := some_of_lt h
    rw [natv_take_succ hx, dg, hx]; rfl
  · rw [take_all (by omega), take_all (by omega), dg, List.getElem?_eq_none (by omega)]; simp

/-- Behind k digits of the sum: the first k digits of out and the carry. -/
def AddRel (w : World) (x y : List Int) (c i : Value) (wr : World) : Prop := ∃ (k : Nat) (cn : Nat) (o : List Int), k ≤ x.length ∧ i = .int .i64 k ∧ c = .int .u64 cn ∧ cn ≤ 1 ∧ o.length = x.length + 1 ∧ U32 o ∧ (∀ j, k ≤ j → j < o.length → o[j]? = some 0) ∧
  natv (o.take k) + 4294967296 ^ k * cn = natv (x.take k) + natv (y.take k) ∧
  wr.ownsRow w.heap.size 86 1 (.slice (some ⟨w.heap.size, 0, none⟩) (x.length + 1) (x.length + 1)) (x.length + 1) (u32s o) ∧ Below w.heap.size w wr

theorem natv_set_take {l : List Int} {k : Nat} (x : Int) (h : k < l.length) : natv ((l.set k x).take (k + 1)) = natv (l.take k) + 4294967296 ^ k * x.toNat := by
  have hx : (l.set k x)[k]? = some x := by simp [h]
  rw [natv_take_succ hx]
  congr 2
  apply List.ext_getElem?
  intro j
  rw [List.getElem?_take, List.getElem?_take]
  split
  · rw [List.getElem?_set_ne (by omega)]
  · rfl
theorem U32.set {l : List Int} {k : Nat} {x : Int} (h : U32 l) (hx : 0 ≤ x ∧ x < 4294967296) : U32 (l.set k x) := by
  intro z hz
  rcases List.mem_or_eq_of_mem_set hz with hz | rfl
  · exact h z hz
  · exact hx
theorem add_next {w wr : World} {x y : List Int} {k cn s : Nat} {o : List Int} (hk : k < x.length) (hol : o.length = x.length + 1) (hou : U32 o) (hoz : ∀ j, k ≤ j → j < o.length → o[j]? = some 0)
    (hsum : natv (o.take k) + 4294967296 ^ k * cn = natv (x.take k) + natv (y.take k))
    (hown : wr.ownsRow w.heap.size 86 1 (.slice (some ⟨w.heap.size, 0, none⟩) (x.length + 1) (x.length + 1)) (x.length + 1) (u32s o)) (hbel : Below w.heap.size w wr)
    (hs : s < 8589934592) (hs2 : natv (x.take (k + 1)) + natv (y.take (k + 1)) + 4294967296 ^ k * cn = natv (x.take k) + natv (y.take k) + 4294967296 ^ k * s) :
    AddRel w x y (.int .u64 ((s / 4294967296 : Nat) : Int)) (.int .i64 ((k : Int) + 1)) (wr.setCell ⟨w.heap.size, k, none⟩ (.int .u32 ((s % 4294967296 : Nat) : Int))) := by
  have e1 : (u32s o).set k (.int .u32 ((s % 4294967296 : Nat) : Int)) = u32s (o.set k ((s % 4294967296 : Nat) : Int)) := by simp [u32s, List.map_set]
  refine ⟨k + 1, s / 4294967296, o.set k ((s % 4294967296 : Nat) : Int), by omega, rfl, rfl, by omega, by simp [hol], hou.set (by omega), ?_, ?_, ?_, hbel.setCell (p := ⟨w.heap.size, k, none⟩) (Nat.le_refl _) _⟩
  · intro j hj hjl
    rw [List.getElem?_set_ne (by omega)]
    exact hoz j (by omega) (by simpa using hjl)
  · rw [natv_set_take _ (by omega)]
    have h1 : ((s % 4294967296 : Nat) : Int).toNat = s % 4294967296 := by omega
    have h2 : 4294967296 ^ (k + 1) * (s / 4294967296) = 4294967296 ^ k * (4294967296 * (s / 4294967296)) := by rw [Nat.pow_succ, Nat.mul_assoc]
    have h3 : 4294967296 ^ k * (s % 4294967296) + 4294967296 ^ k * (4294967296 * (s / 4294967296)) = 4294967296 ^ k * s := by rw [← Nat.mul_add, Nat.mod_add_div]
    rw [h1, h2]
    omega
  · rw [← e1]
    exact (hown.stored k _).1

set_option maxRecDepth 100000 in
set_option maxHeartbeats 4000000 in
/-- The longer one first. -/
theorem add_long (v1 v2 : Value) (a b : Nat) (w : World) (h1 : Nt w v1 a) (h2 : Nt w v2 b) (hlen : (digs b).length ≤ (digs a).length) (hsz : (digs a).length ≤ 1000000) :
    Calls Try.prog 68 #[v1, v2] w fun e w' => (∃ v', e = .returned v' ∧ Nt w' v' (a + b)) ∧ Below w.heap.size w w' := by
  unfold Nt at h1 h2
  have HVa := hid (natv_digs a)
  have HVb := hid (natv_digs b)
  have HUa := hid (digs_u32 a)
  have HUb := hid (digs_u32 b)
  generalize digs a = x at *
  generalize digs b = y at *
  have HS1 := hid h1
  have HS2 := hid h2
  obtain ⟨ao1, cap1, rfl, _, _, _, hs1⟩ := h1
  obtain ⟨ao2, cap2, rfl, _, _, _, hs2⟩ := h2
  clear hs1 hs2
  have hnl : ¬ (x.length : Int) < (y.length : Int) := by omega
  go_enter Try.func68, Try.ntmps68
  go_wp2_with (at_make; refine wpList_zeros _ rfl _ _ 89 rfl w.heap.size 86 (.int .u32 0) 4 Try.underlying89 Try.info86 rfl _ _ _ _ (x.length + 1) rfl rfl (by omega) (by omega) (by omega) (by unfold maxLen; omega) (by simp) ?_; intro w1 hown1 hb1)
  go_loopw [6, 22] (fun c i wr => AddRel w x y c i wr) (fun _ i _ => x.length - (intOf i).toNat)
  case atStart => exact ⟨0, 0, List.replicate (x.length + 1) 0, Nat.zero_le _, rfl, rfl, by omega, by simp, by intro z hz; rw [List.eq_of_mem_replicate hz]; omega, by intro j _ hj; rw [List.length_replicate] at hj; simp [hj], by simp [natv], by simpa [u32s] using hown1, hb1⟩
  case round =>
    obtain ⟨k, cn, o, hk, rfl, rfl, hc1, hol, hou, hoz, hsum, hown, hbel⟩ := hrel
    clear hown1 hb1
    by_cases hlt : k < x.length
    · obtain ⟨d, hd⟩ := some_of_lt hlt
      obtain ⟨b1, o1, rfl, c1⟩ := (HS1.out.below hbel).cell (u32s_get hd)
      have hd32 := HUa.out d (List.mem_of_getElem? hd)
      obtain ⟨dn, rfl⟩ := Int.eq_ofNat_of_zero_le hd32.1
      have hdn : dn < 4294967296 := by omega
      have f2 := hown.frozenAt k
      have c2 := hown.cellAt k (by omega)
      rw [u32s_get (hoz k (Nat.le_refl _) (by omega))] at c2
      have HD := hid hd
      have HO := hid hoz
      have HSum := hid hsum
      have HU := hid hou
      have HL := hid hol
      clear hd hd32 hoz hsum hou hol
      by_cases hly : k < y.length
      · obtain ⟨e, he⟩ := some_of_lt hly
        obtain ⟨b2, o2, rfl, c3⟩ := (HS2.out.below hbel).cell (u32s_get he)
        have he32 := HUb.out e (List.mem_of_getElem? he)
        obtain ⟨en, rfl⟩ := Int.eq_ofNat_of_zero_le he32.1
        have hen : en < 4294967296 := by omega
        have HE := hid he
        clear he he32
        go_wp2
        go_roundw
        case rel =>
          rw [show ((dn : Int) + cn + en) / 4294967296 = ((dn + cn + en) / 4294967296 : Nat) by omega, show ((dn : Int) + cn + en) % 4294967296 = ((dn + cn + en) % 4294967296 : Nat) by omega]
          exact add_next hlt HL.out HU.out HO.out HSum.out hown hbel (by omega) (by rw [natv_take_succ HD.out, natv_take_succ HE.out]; simp only [Int.toNat_natCast, Nat.mul_add]; omega)
        case measure => simp [intOf]; omega
      · have HY := hid (show y.take (k + 1) = y.take k by rw [take_all (by omega), take_all (by omega)])
        go_wp2
        go_roundw
        case rel =>
          rw [show ((dn : Int) + cn) / 4294967296 = ((dn + cn) / 4294967296 : Nat) by omega, show ((dn : Int) + cn) % 4294967296 = ((dn + cn) % 4294967296 : Nat) by omega]
          exact add_next hlt HL.out HU.out HO.out HSum.out hown hbel (by omega) (by rw [natv_take_succ HD.out, HY.out]; simp only [Int.toNat_natCast, Nat.mul_add]; omega)
        case measure => simp [intOf]; omega
    · have e : k = x.length := by omega
      subst e
      have f2 := hown.frozenAt x.length
      have c2 := hown.cellAt x.length (by omega)
      rw [u32s_get (hoz _ (Nat.le_refl _) (by omega))] at c2
      have s1 := (hown.stored x.length (.int .u32 (cn : Int))).1
      have e1 : (u32s o).set x.length (.int .u32 (cn : Int)) = u32s (o.set x.length (cn : Int)) := by simp [u32s, List.map_set]
      rw [e1] at s1
      have hl2 : (o.set x.length (cn : Int)).length = x.length + 1 := by simp [hol]
      rw [← hl2] at s1
      have hsl := Sl.of_owns s1
      have hu2 : U32 (o.set x.length (cn : Int)) := U32.set hou (by omega)
      have hv : natv (o.set x.length (cn : Int)) = a + b := by
        have := natv_set_take (l := o) (k := x.length) (cn : Int) (by omega)
        rw [take_all (by simp [hol])] at this
        rw [this, Int.toNat_natCast, hsum, take_all (Nat.le_refl _), HVa.out, take_all hlen, HVb.out]
      have ht := trim_any _ (o.set x.length (cn : Int)) _ hsl hu2
      rw [hl2, hv] at ht
      have HT := hid ht
      clear ht hv hu2 hsl s1 e1 hoz hsum hou
      go_wp2_with (go_at_call 77; refine HT.out.mono ?_; rintro e w2 ⟨⟨v', rfl, hN⟩, rfl⟩)
      go_ret
      exact ⟨⟨_, rfl, hN⟩, hbel.setCell (p := ⟨w.heap.size, x.length, none⟩) (Nat.le_refl _) _⟩
set_option maxRecDepth 100000 in
set_option maxHeartbeats 4000000 in
/-- The shorter one first. -/
theorem add_short (v1 v2 : Value) (a b : Nat) (w : World) (h1 : Nt w v1 a) (h2 : Nt w v2 b) (hlen' : (digs b).length < (digs a).length) (hsz : (digs a).length ≤ 1000000) :
    Calls Try.prog 68 #[v2, v1] w fun e w' => (∃ v', e = .returned v' ∧ Nt w' v' (a + b)) ∧ Below w.heap.size w w' := by
  unfold Nt at h1 h2
  have HVa := hid (natv_digs a)
  have HVb := hid (natv_digs b)
  have HUa := hid (digs_u32 a)
  have HUb := hid (digs_u32 b)
  generalize digs a = x at *
  generalize digs b = y at *
  have HS1 := hid h1
  have HS2 := hid h2
  obtain ⟨ao1, cap1, rfl, _, _, _, hs1⟩ := h1
  obtain ⟨ao2, cap2, rfl, _, _, _, hs2⟩ := h2
  clear hs1 hs2
  have hlen : y.length ≤ x.length := by omega
  have hnl : (y.length : Int) < (x.length : Int) := by omega
  go_enter Try.func68, Try.ntmps68
  go_wp2_with (at_make; refine wpList_zeros _ rfl _ _ 89 rfl w.heap.size 86 (.int .u32 0) 4 Try.underlying89 Try.info86 rfl _ _ _ _ (x.length + 1) rfl rfl (by omega) (by omega) (by omega) (by unfold maxLen; omega) (by simp) ?_; intro w1 hown1 hb1)
  go_loopw [6, 22] (fun c i wr => AddRel w x y c i wr) (fun _ i _ => x.length - (intOf i).toNat)
  case atStart => exact ⟨0, 0, List.replicate (x.length + 1) 0, Nat.zero_le _, rfl, rfl, by omega, by simp, by intro z hz; rw [List.eq_of_mem_replicate hz]; omega, by intro j _ hj; rw [List.length_replicate] at hj; simp [hj], by simp [natv], by simpa [u32s] using hown1, hb1⟩
  case round =>
    obtain ⟨k, cn, o, hk, rfl, rfl, hc1, hol, hou, hoz, hsum, hown, hbel⟩ := hrel
    clear hown1 hb1
    by_cases hlt : k < x.length
    · obtain ⟨d, hd⟩ := some_of_lt hlt
      obtain ⟨b1, o1, rfl, c1⟩ := (HS1.out.below hbel).cell (u32s_get hd)
      have hd32 := HUa.out d (List.mem_of_getElem? hd)
      obtain ⟨dn, rfl⟩ := Int.eq_ofNat_of_zero_le hd32.1
      have hdn : dn < 4294967296 := by omega
      have f2 := hown.frozenAt k
      have c2 := hown.cellAt k (by omega)
      rw [u32s_get (hoz k (Nat.le_refl _) (by omega))] at c2
      have HD := hid hd
      have HO := hid hoz
      have HSum := hid hsum
      have HU := hid hou
      have HL := hid hol
      clear hd hd32 hoz hsum hou hol
      by_cases hly : k < y.length
      · obtain ⟨e, he⟩ := some_of_lt hly
        obtain ⟨b2, o2, rfl, c3⟩ := (HS2.out.below hbel).cell (u32s_get he)
        have he32 := HUb.out e (List.mem_of_getElem? he)
        obtain ⟨en, rfl⟩ := Int.eq_ofNat_of_zero_le he32.1
        have hen : en < 4294967296 := by omega
        have HE := hid he
        clear he he32
        go_wp2
        go_roundw
        case rel =>
          rw [show ((dn : Int) + cn + en) / 4294967296 = ((dn + cn + en) / 4294967296 : Nat) by omega, show ((dn : Int) + cn + en) % 4294967296 = ((dn + cn + en) % 4294967296 : Nat) by omega]
          exact add_next hlt HL.out HU.out HO.out HSum.out hown hbel (by omega) (by rw [natv_take_succ HD.out, natv_take_succ HE.out]; simp only [Int.toNat_natCast, Nat.mul_add]; omega)
        case measure => simp [intOf]; omega
      · have HY := hid (show y.take (k + 1) = y.take k by rw [take_all (by omega), take_all (by omega)])
        go_wp2
        go_roundw
        case rel =>
          rw [show ((dn : Int) + cn) / 4294967296 = ((dn + cn) / 4294967296 : Nat) by omega, show ((dn : Int) + cn) % 4294967296 = ((dn + cn) % 4294967296 : Nat) by omega]
          exact add_next hlt HL.out HU.out HO.out HSum.out hown hbel (by omega) (by rw [natv_take_succ HD.out, HY.out]; simp only [Int.toNat_natCast, Nat.mul_add]; omega)
        case measure => simp [intOf]; omega
    · have e : k = x.length := by omega
      subst e
      have f2 := hown.frozenAt x.length
      have c2 := hown.cellAt x.length (by omega)
      rw [u32s_get (hoz _ (Nat.le_refl _) (by omega))] at c2
      have s1 := (hown.stored x.length (.int .u32 (cn : Int))).1
      have e1 : (u32s o).set x.length (.int .u32 (cn : Int)) = u32s (o.set x.length (cn : Int)) := by simp [u32s, List.map_set]
      rw [e1] at s1
      have hl2 : (o.set x.length (cn : Int)).length = x.length + 1 := by simp [hol]
      rw [← hl2] at s1
      have hsl := Sl.of_owns s1
      have hu2 : U32 (o.set x.length (cn : Int)) := U32.set hou (by omega)
      have hv : natv (o.set x.length (cn : Int)) = a + b := by
        have := natv_set_take (l := o) (k := x.length) (cn : Int) (by omega)
        rw [take_all (by simp [hol])] at this
        rw [this, Int.toNat_natCast, hsum, take_all (Nat.le_refl _), HVa.out, take_all hlen, HVb.out]
      have ht := trim_any _ (o.set x.length (cn : Int)) _ hsl hu2
      rw [hl2, hv] at ht
      have HT := hid ht
      clear ht hv hu2 hsl s1 e1 hoz hsum hou
      go_wp2_with (go_at_call 77; refine HT.out.mono ?_; rintro e w2 ⟨⟨v', rfl, hN⟩, rfl⟩)
      go_ret
      exact ⟨⟨_, rfl, hN⟩, hbel.setCell (p := ⟨w.heap.size, x.length, none⟩) (Nat.le_refl _) _⟩

theorem add_any (v1 v2 : Value) (a b : Nat) (w : World) (h1 : Nt w v1 a) (h2 : Nt w v2 b) (hs1 : (digs a).length ≤ 1000000) (hs2 : (digs b).length ≤ 1000000) :
    Calls Try.prog 68 #[v1, v2] w fun e w' => (∃ v', e = .returned v' ∧ Nt w' v' (a + b)) ∧ Below w.heap.size w w' := by
  by_cases h : (digs b).length ≤ (digs a).length
  · exact add_long v1 v2 a b w h1 h2 h hs1
  · rw [Nat.add_comm]
    exact add_short v2 v1 b a w h2 h1 (by omega) hs2
end Go.Proofs.Ytppflnkadjddiaa
