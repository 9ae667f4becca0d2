/-
  The reference's line: a line taken off a text, its first word and its numbers.
  The text is not longer than 100000 bytes.
-/
import Derived.Test.YtmabciajhmjmeaaGreatDoorInsRf
import Derived.Test.YtmabciajhmjmeaaGreatDoorRfNum
namespace Go.Proofs.YtmabciajhmjmeaaGreatDoor
open Go.RowKit
set_option linter.unusedVariables false

/-- What line answers. -/
def LinePost (S : List UInt8) (w : World) (e : Ending) (w' : World) : Prop := Below w.heap.size w w' ∧
  ((((10 : UInt8) ∉ S ∨ ∃ p r, S = p ++ 10 :: r ∧ (10 : UInt8) ∉ p ∧ readT p = none) ∧ ∃ f t : ByteArray, e = .returned (.tuple #[.string f, .slice none 0 0, .string t, .bool false])) ∨
   (∃ (p r wd : List UInt8) (l : List Nat) (u : Value), S = p ++ 10 :: r ∧ (10 : UInt8) ∉ p ∧ readT p = some (wd, l) ∧ e = .returned (.tuple #[.string ⟨wd.toArray⟩, u, .string ⟨r.toArray⟩, .bool true]) ∧ w'.ownsRow w.heap.size 3 1 u l.length (ints (natI l))))
theorem ext_of {s : ByteArray} {a b c : List UInt8} (h : s.data.toList = a ++ b ++ c) : s.extract a.length (a.length + b.length) = ⟨b.toArray⟩ := by
  apply ByteArray.ext
  rw [ByteArray.data_extract]
  apply Array.toList_inj.1
  rw [Array.toList_extract, List.extract_eq_take_drop, h]
  simp
theorem results_tmp4 {fn : Func} {t u v x : Tmp} (h : fn.results = #[.tmp t, .tmp u, .tmp v, .tmp x]) (tmps : Array Value) (P : Program) (w : World) :
    (results fn tmps).run P w = .ok (.tuple #[tmps.getD t undef, tmps.getD u undef, tmps.getD v undef, tmps.getD x undef]) w := by
  simp [results, h]
set_option maxRecDepth 100000 in
set_option maxHeartbeats 1000000 in
theorem rline_no (s : ByteArray) (w : World) (hs : s.size ≤ 100000) (hn : (10 : UInt8) ∉ s.data.toList) :
    Calls Tryz.prog 30 #[.string s] w fun e w' => e = .returned (.tuple #[.string ⟨#[]⟩, .slice none 0 0, .string ⟨#[]⟩, .bool false]) ∧ w' = w := by
  have hsl : s.data.toList.length = s.size := by simp
  have HG := hid (fun (k : Nat) (h : k < s.size) => (show (((s[k]).toNat : Int) != 10) = true by
    obtain ⟨c, hc⟩ := some_of_lt (show k < s.data.toList.length by omega)
    rw [byte_of hc h, bne_iff_ne]
    intro e
    have : c = 10 := UInt8.toNat_inj.1 (by have e2 : (10 : UInt8).toNat = 10 := rfl; omega)
    exact hn (this ▸ List.mem_of_getElem? hc)))
  clear hn hsl
  go_enter Tryz.func30, Tryz.ntmps30
  go_wp2_with fail
  go_loopw [6] (fun a wr => ∃ k : Nat, k ≤ s.size ∧ a = .int .i64 (k : Int) ∧ w = wr) (fun a _ => s.size + 1 - (intOf a).toNat)
  case atStart => exact ⟨0, Nat.zero_le _, rfl, rfl⟩
  case round =>
    rename World => wk
    obtain ⟨k, hk, rfl, hw⟩ := hrel
    subst hw
    by_cases hlt : k < s.size
    · have hg := HG.out k hlt
      have hI : (k : Int) < (s.size : Int) := by omega
      go_wp2
      go_roundw
      case rel => exact ⟨k + 1, by omega, by go_num, trivial⟩
      case measure => simp [intOf]; omega
    · obtain rfl : k = s.size := by omega
      have hI : ¬ (s.size : Int) < (s.size : Int) := by omega
      go_wp2
      refine bodyPost_ret (v := .tuple #[.string ⟨#[]⟩, .slice none 0 0, .string ⟨#[]⟩, .bool false]) ?_ rfl ⟨rfl, rfl⟩
      simp [results, Tryz.results30, go_sem]
set_option maxRecDepth 100000 in
set_option maxHeartbeats 1000000 in
theorem rline_yes (s : ByteArray) (w : World) (hs : s.size ≤ 100000) (wd q r : List UInt8) (he : s.data.toList = wd ++ q ++ 10 :: r) (h10 : (10 : UInt8) ∉ wd ++ q) (h32 : (32 : UInt8) ∉ wd) (hq : q = [] ∨ q.head? = some 32) :
    Calls Tryz.prog 30 #[.string s] w fun e w' => Below w.heap.size w w' ∧
      ((numsR q = none ∧ e = .returned (.tuple #[.string ⟨wd.toArray⟩, .slice none 0 0, .string ⟨r.toArray⟩, .bool false])) ∨
       (∃ (l : List Nat) (u : Value), numsR q = some l ∧ e = .returned (.tuple #[.string ⟨wd.toArray⟩, u, .string ⟨r.toArray⟩, .bool true]) ∧ w'.ownsRow w.heap.size 3 1 u l.length (ints (natI l)))) := by
  have hsl : s.data.toList.length = s.size := by simp
  have hsz : s.size = wd.length + q.length + (r.length + 1) := by rw [← hsl, he]; simp; omega
  have HAt := hid (fun (j : Nat) (x : UInt8) (hx : (wd ++ q)[j]? = some x) (h : j < s.size) => byte_of (s := s) (k := j) (c := x) (by rw [he, List.getElem?_append_left (lt_of_some hx)]; exact hx) h)
  have HEnd := hid (fun (h : wd.length + q.length < s.size) => byte_of (s := s) (k := wd.length + q.length) (c := 10) (by rw [he, List.getElem?_append_right (by simp)]; simp) h)
  have HN10 := hid (fun (x : UInt8) (hx : x ∈ wd ++ q) => (show ((x.toNat : Int) != 10) = true by
    rw [bne_iff_ne]; intro e
    have : x = 10 := UInt8.toNat_inj.1 (by have e2 : (10 : UInt8).toNat = 10 := rfl; omega)
    exact h10 (this ▸ hx)))
  have HN32 := hid (fun (x : UInt8) (hx : x ∈ wd) => (show ((x.toNat : Int) != 32) = true by
    rw [bne_iff_ne]; intro e
    have : x = 32 := UInt8.toNat_inj.1 (by have e2 : (32 : UInt8).toNat = 32 := rfl; omega)
    exact h32 (this ▸ hx)))
  have HE1 := hid (show s.extract 0 wd.length = ⟨wd.toArray⟩ by
    have := ext_of (s := s) (a := []) (b := wd) (c := q ++ 10 :: r) (by rw [he]; simp)
    simpa using this)
  have HE2 := hid (show s.extract wd.length (wd.length + q.length) = ⟨q.toArray⟩ from ext_of (s := s) (a := wd) (b := q) (c := 10 :: r) he)
  have HE3 := hid (show s.extract (wd.length + q.length + 1) s.size = ⟨r.toArray⟩ by
    have := ext_of (s := s) (a := wd ++ q ++ [10]) (b := r) (c := []) (by rw [he]; simp)
    rw [← this]
    congr 1
    · simp; omega
    · rw [hsz]; simp; omega)
  have HNum := hid (fun X : World => numbers_any ⟨q.toArray⟩ X (by show q.toArray.size ≤ 100000; simp; omega))
  have HQ0 := hid (show q.length ≠ 0 → ∀ h : wd.length < s.size, s[wd.length] = 32 from fun h0 h => byte_of (s := s) (k := wd.length) (c := 32) (by
    rcases hq with rfl | hq
    · exact absurd rfl h0
    · rw [he, List.append_assoc, List.getElem?_append_right (Nat.le_refl _), Nat.sub_self]
      cases q with
      | nil => simp at hq
      | cons a q => simpa using hq) h)
  generalize hRR : numsR q = RR at *
  have HRR := hid hRR
  have HMem := hid (fun (j : Nat) (h : j < wd.length + q.length) => (show ∃ x, (wd ++ q)[j]? = some x from some_of_lt (by simpa using h)))
  have HMw := hid (fun (j : Nat) (h : j < wd.length) => (show ∃ x, x ∈ wd ∧ (wd ++ q)[j]? = some x by
    obtain ⟨x, hx⟩ := some_of_lt h
    exact ⟨x, List.mem_of_getElem? hx, by rw [List.getElem?_append_left h]; exact hx⟩))
  clear he h10 h32 hq hsl hRR
  generalize hA : wd.length = A at *
  generalize hB : q.length = B at *
  clear hA hB
  have hAB : A + B < s.size := by omega
  clear hsz
  go_enter Tryz.func30, Tryz.ntmps30
  go_wp2_with fail
  go_loopw [6] (fun a wr => ∃ k : Nat, k ≤ A + B ∧ a = .int .i64 (k : Int) ∧ w = wr) (fun a _ => s.size + 1 - (intOf a).toNat)
  case atStart => exact ⟨0, Nat.zero_le _, rfl, rfl⟩
  case round =>
    rename World => wk
    obtain ⟨k, hk, rfl, hw⟩ := hrel
    subst hw
    by_cases hlt : k < A + B
    · obtain ⟨x, hx⟩ := HMem.out k hlt
      have hks : k < s.size := by omega
      have hg := HAt.out k x hx hks
      have hx10 := HN10.out x (List.mem_of_getElem? hx)
      have hI : (k : Int) < (s.size : Int) := by omega
      clear hx
      go_wp2
      go_roundw
      case rel => exact ⟨k + 1, by omega, by go_num, trivial⟩
      case measure => simp [intOf]; omega
    · obtain rfl : k = A + B := by omega
      have hg := HEnd.out hAB
      clear hlt hk
      have hm : (((A + B : Nat) : Int) == (s.size : Int)) = false := by rw [beq_eq_false_iff_ne]; omega
      generalize hK : A + B = K at *
      have HK := hid hK
      clear hK
      have hI : (K : Int) < (s.size : Int) := by omega
      have h10 : (((10 : UInt8).toNat : Int) != 10) = false := rfl
      go_wp2_with fail
      go_loopw [7] (fun a wr => ∃ n : Nat, n ≤ A ∧ a = .int .i64 (n : Int) ∧ w = wr) (fun a _ => s.size + 1 - (intOf a).toNat)
      case atStart => exact ⟨0, Nat.zero_le _, rfl, rfl⟩
      case round =>
        rename World => wk
        obtain ⟨n, hn, rfl, hw⟩ := hrel
        subst hw
        have hKA := HK.out
        by_cases hlt : n < A
        · obtain ⟨x, hxw, hx⟩ := HMw.out n hlt
          have hks : n < s.size := by omega
          have hg2 := HAt.out n x hx hks
          have hx32 := HN32.out x hxw
          have hI2 : (n : Int) < (K : Int) := by omega
          clear hx hxw hKA
          go_wp2
          go_roundw
          case rel => exact ⟨n + 1, by omega, by go_num, trivial⟩
          case measure => simp [intOf]; omega
        · obtain rfl : n = A := by omega
          clear hlt hn
          have e1 := HE1.out
          have e2 := HE2.out
          have e3 := HE3.out
          have hAs : n < s.size := by omega
          have hAK : (n : Int) ≤ (K : Int) := by omega
          have hAS : (n : Int) ≤ (s.size : Int) := by omega
          have hKS : (K : Int) ≤ (s.size : Int) := by omega
          have hKS1 : (K : Int) + 1 ≤ (s.size : Int) := by omega
          by_cases hB : B = 0
          · have hI2 : ¬ (n : Int) < (K : Int) := by omega
            clear hKA hB
            go_upto_region 10 with (go_at_call 49; (try rw [e2]); refine (HNum.out _).mono ?_; rintro e w' ⟨hb, ⟨h1, rfl⟩ | ⟨l, u, h1, rfl, ho⟩⟩)
            · have HBd := hid (hb.trans (below_drewN (Below.refl _ w') 1))
              go_region
              all_goals ((try go_wp2); (try simp only [Exit.inBlock, Exit.then]); refine bodyPost_ret (results_tmp4 rfl _ _ _) rfl ?_; exact ⟨HBd.out, .inl ⟨HRR.out.symm.trans h1, rfl⟩⟩)
            · have HBd := hid (hb.trans (below_drewN (Below.refl _ w') 1))
              have HOd := hid (own_below ho (below_drewN (Below.refl _ w') 1))
              go_region
              all_goals ((try go_wp2); (try simp only [Exit.inBlock, Exit.then]); refine bodyPost_ret (results_tmp4 rfl _ _ _) rfl ?_; exact ⟨HBd.out, .inr ⟨l, u, HRR.out.symm.trans h1, rfl, HOd.out⟩⟩)
          · have hg3 := HQ0.out hB hAs
            have hI2 : (n : Int) < (K : Int) := by omega
            have h32 : (((32 : UInt8).toNat : Int) != 32) = false := rfl
            clear hKA hB
            go_upto_region 10 with (go_at_call 49; (try rw [e2]); refine (HNum.out _).mono ?_; rintro e w' ⟨hb, ⟨h1, rfl⟩ | ⟨l, u, h1, rfl, ho⟩⟩)
            · have HBd := hid (hb.trans (below_drewN (Below.refl _ w') 1))
              go_region
              all_goals ((try go_wp2); (try simp only [Exit.inBlock, Exit.then]); refine bodyPost_ret (results_tmp4 rfl _ _ _) rfl ?_; exact ⟨HBd.out, .inl ⟨HRR.out.symm.trans h1, rfl⟩⟩)
            · have HBd := hid (hb.trans (below_drewN (Below.refl _ w') 1))
              have HOd := hid (own_below ho (below_drewN (Below.refl _ w') 1))
              go_region
              all_goals ((try go_wp2); (try simp only [Exit.inBlock, Exit.then]); refine bodyPost_ret (results_tmp4 rfl _ _ _) rfl ?_; exact ⟨HBd.out, .inr ⟨l, u, HRR.out.symm.trans h1, rfl, HOd.out⟩⟩)
theorem rline_any (s : ByteArray) (w : World) (hs : s.size ≤ 100000) : Calls Tryz.prog 30 #[.string s] w fun e w' => LinePost s.data.toList w e w' := by
  unfold LinePost
  rcases line_form s.data.toList with ⟨h1, _⟩ | ⟨p, r, h1, h2, _⟩
  · refine (rline_no s w hs h1).mono ?_
    rintro e w' ⟨rfl, rfl⟩
    exact ⟨Below.refl _ _, .inl ⟨.inl h1, _, _, rfl⟩⟩
  · obtain ⟨wd, q, e1, e2, e3, e4⟩ := readT_parts (p := p)
    refine (rline_yes s w hs wd q r (by rw [h1, e1]) (by rw [← e1]; exact h2) e2 e3).mono ?_
    rintro e w' ⟨hb, ⟨h3, rfl⟩ | ⟨l, u, h3, rfl, ho⟩⟩
    · exact ⟨hb, .inl ⟨.inr ⟨p, r, h1, h2, by rw [e4, h3]; rfl⟩, _, _, rfl⟩⟩
    · exact ⟨hb, .inr ⟨p, r, wd, l, u, h1, h2, by rw [e4, h3]; rfl, rfl, ho⟩⟩
end Go.Proofs.YtmabciajhmjmeaaGreatDoor
