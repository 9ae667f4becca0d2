/-
  code.Make at different words: they are put in order.
  The words are different, and few.
-/
import Derived.Test.YtalklhjmnoodeaaSortWs
import Derived.Test.YtalklhjmnoodeaaShelfB
import Derived.Test.YtalklhjmnoodeaaPAuto
import Derived.Deep.QuietTactic
namespace Go.Proofs.Ytalklhjmnoodeaa
open Go.RowKit Go.Sort Go.Deep
set_option linter.unusedVariables false

set_option maxHeartbeats 1000000 in
theorem before_gr (a b : ByteArray) (w : World) :
    Calls Try.prog 84 #[.string a, .string b] w fun e w' => e = .returned (.int .i64 (cmpW a b)) ∧ Gr w w' := by
  have HE := hid (cmpW_or a b)
  have HG := hid (Gr.refl w)
  go_enter Try.func84, Try.ntmps84
  go_wp2_with (first
    | (go_at_call 89; refine (Try.cmp_Compare_int _ _ _).mono ?_; rintro e w' ⟨rfl, rfl⟩)
    | (go_at_call 104; refine (Try.strings_Compare _ _ _).mono ?_; rintro e w' ⟨rfl, rfl⟩)
    | (go_at_call 88; refine (or2 (Lib.compareInt a.size b.size) (Lib.compareBytes a.data.toList b.data.toList) _ _ ?_ ?_).mono ?_; (simp [go_sem]); (simp [go_sem]); rintro e w3 ⟨rfl, rfl⟩))
  go_ret
  exact ⟨ret_int HE.out, HG.out.alloc _⟩

theorem sortBefore_any (base : Nat) (v : Value) (S : List ByteArray) (w : World) (ho : w.ownsRow base 9 1 v S.length (strs S)) (hn : S.length ≤ 1000000) (hd : S.Nodup) :
    Calls Try.prog 86 #[v, .func (.func 84) #[] #[]] w fun e w' => e = .returned (.tuple #[]) ∧ w'.ownsRow base 9 1 v S.length (strs (sortW S)) ∧ w.grownBy w' v.ownBlock := by
  rcases ho.2 with ⟨rfl, h0⟩ | ⟨g, cap, cur, rfl, hg, hh, h1, h2, h3, h4⟩
  · refine (AnyF.slices_SortFunc_none Try.sort0 none 0 _ _).mono ?_
    rintro e w' ⟨rfl, rfl⟩
    have e : S = [] := List.length_eq_zero_iff.1 h0
    subst e
    exact ⟨rfl, ho, ⟨rfl, rfl, rfl, Nat.le_refl _, fun _ _ _ => rfl⟩⟩
  · have hbl : (bl S).length = S.length := by simp [bl]
    have h4' : cur.toList.take (bl S).length = (bl S).map encStr := by rw [enc_bl, hbl]; simpa using h4
    have hH := holds_of_block hh h4'
    have eg : ∀ args w, (callFunc 84 args).run Try.prog w = .ok (.enter 84 args) w := enters_of Try.func84 (by kernel_rfl) rfl
    have hcmp : CmpLays1 Try.prog 84 #[] encStr cfL g 0 (bl S).toArray.size w := by
      intro m os dk _ x y
      refine (before_gr ⟨x.toArray⟩ ⟨y.toArray⟩ _).mono ?_
      rintro e w' ⟨rfl, q, os', rfl⟩
      exact ⟨rfl, q, os', rfl⟩
    have hlen : S.length = (bl S).toArray.size := by simp [bl]
    have hcall := Any.slices_SortFunc_total Try.sort encStr (fun _ => rfl) cfL swoL 84 #[] g 0 cap (bl S).toArray w eg hcmp hH (Array.getElem?_eq_some_iff.1 hh).1 (by rw [← hlen]; omega) totL
    rw [← hlen] at hcall
    refine hcall.mono ?_
    rintro e w' ⟨rfl, n, os, rfl⟩
    refine ⟨rfl, ?_, grownBy_sorted _⟩
    have hml : (((bl S).toArray.toList).mergeSort fun x y => !(ltOf cfL) y x).length = (bl S).length := by simp
    have := ownsRow_sorted (n := n) (os := os) hml hg hh (by rw [hbl]; exact h1) h2 h3
    rw [hbl] at this
    rw [← merge_sortW hd]
    exact this
theorem cloneS_any (base : Nat) (v : Value) (S : List ByteArray) (w : World) (ho : w.ownsRow base 9 1 v S.length (strs S)) (hn : S.length ≤ 100000) :
    Calls Try.prog 127 #[v] w fun e w' => ∃ v', e = .returned v' ∧ w'.ownsRow w.heap.size 9 1 v' S.length (strs S) ∧ Below w.heap.size w w' := by
  rcases ho.2 with ⟨rfl, h0⟩ | ⟨g, cap, cur, rfl, hg, hh, _⟩
  · refine (Try.slices_Clone_string_nil 0 0 w).mono ?_
    rintro e w' ⟨rfl, rfl⟩
    have hs : S = [] := List.length_eq_zero_iff.1 h0
    subst hs
    exact ⟨_, rfl, World.ownsRow_nil _ _ _ _, Below.refl _ _⟩
  · refine (Try.slices_Clone_string g 0 S.length cap S w (Nat.le_refl _) (by omega) fun j hj => ?_).mono ?_
    · obtain ⟨x, hx⟩ := some_of_lt hj
      obtain ⟨b', o', e, hc'⟩ := (Sl.of_owns ho).cell (strs_get hx)
      simp only [Option.some.injEq, Addr.mk.injEq, and_true] at e
      obtain ⟨rfl, rfl⟩ := e
      rw [hc', List.getD_eq_getElem?_getD, hx]; rfl
    · rintro e w' ⟨v', rfl, h1, _, h2⟩
      rw [List.take_length] at h1
      exact ⟨v', rfl, h1, h2⟩
set_option maxHeartbeats 1000000 in
theorem compactS_any (v : Value) (S : List ByteArray) (w : World) (hl : Sl 1 w v S.length (strs S)) (ha : Asc S) :
    Calls Try.prog 128 #[v] w fun e w' => e = .returned v ∧ Dr w w' := by
  obtain ⟨ao, cap, rfl, _, hc1, hm1, _⟩ := id hl
  have HL := hid hl
  have HA := hid ha
  clear hl ha
  by_cases h2 : S.length < 2
  · go_enter Try.func128, Try.ntmps128
    go_wp2
    go_ret
    exact ⟨rfl, Dr.refl _⟩
  · go_enter Try.func128, Try.ntmps128
    go_wp2
    go_loopw [3] (fun i wr => ∃ k : Nat, 1 ≤ k ∧ k ≤ S.length ∧ i = .int .i64 k ∧ Dr w wr) (fun i _ => S.length - (intOf i).toNat)
    case atStart => exact ⟨1, Nat.le_refl _, by omega, rfl, Dr.refl _⟩
    case round =>
      obtain ⟨k, hk0, hk, rfl, ⟨n, rfl⟩⟩ := hrel
      have HD := hid (Dr.drewN (Dr.refl w) n)
      by_cases hlt : k < S.length
      · obtain ⟨x, hx⟩ := some_of_lt hlt
        obtain ⟨y, hy⟩ := some_of_lt (l := S) (k := k - 1) (by omega)
        obtain ⟨b, o, rfl, e0⟩ := (HL.out.dr HD.out).cell (strs_get hx)
        obtain ⟨b', o', hbo, g0⟩ := (HL.out.dr HD.out).cell (strs_get hy)
        simp only [Option.some.injEq, Addr.mk.injEq, and_true] at hbo
        obtain ⟨rfl, rfl⟩ := hbo
        have hne : ¬ x = y := by
          intro e
          subst e
          have h3 := List.pairwise_iff_getElem.1 HA.out (k - 1) k (by omega) hlt (by omega)
          rw [List.getElem?_eq_getElem hlt, Option.some.injEq] at hx
          rw [List.getElem?_eq_getElem (by omega), Option.some.injEq] at hy
          rw [hx, hy, lessW_irrefl] at h3
          cases h3
        have hb : (x.toList == y.toList) = false := by
          rw [beq_eq_false_iff_ne, Lib.toList_data, Lib.toList_data]
          exact fun h => hne (ba_ext h)
        generalize w.drewN n = wq at *
        have hpos : 0 < k := by omega
        have hkm : IntKind.i64.wrap ((k : Int) - 1) = (k : Int) - 1 := IntWalk.i64_in _ (by omega)
        have hk3 : (0 : Int) ≤ (k : Int) - 1 := by omega
        have hk4 : (k : Int) - 1 < (S.length : Int) := by omega
        have hk5 : ((k : Int) - 1).toNat = k - 1 := by omega
        have hk6 : (1 : Int) ≤ (k : Int) := by omega
        have hk7 : (k : Int) < (S.length : Int) := by omega
        clear hx hy hne
        go_wp2
        go_quiet (fail)
        clear hkm hk5
        go_wp2
        go_roundw
        case rel => exact ⟨k + 1, by omega, by omega, by go_num, (by first | exact ⟨_, rfl⟩ | exact HD.out.drewN _)⟩
        case measure => simp [intOf]; omega
      · go_wp2
        go_ret
        exact ⟨rfl, HD.out⟩
set_option maxHeartbeats 1000000 in
theorem sortedS_any (base : Nat) (v : Value) (S : List ByteArray) (w : World) (ho : w.ownsRow base 9 1 v S.length (strs S)) (hn : S.length ≤ 100000) (hd : S.Nodup) :
    Calls Try.prog 110 #[v, .func (.func 84) #[] #[]] w fun e w' => ∃ u, e = .returned u ∧ w'.ownsRow w.heap.size 9 1 u (sortW S).length (strs (sortW S)) ∧ Below w.heap.size w w' := by
  have HC := hid (cloneS_any base v S w ho hn)
  have HSo := hid (fun b u X h => sortBefore_any b u S X h (by omega) hd)
  have HCo := hid (fun u X h => compactS_any u (sortW S) X h (asc_sortW S))
  obtain ⟨ao, cap, rfl⟩ := own_slice ho
  clear ho
  go_enter Try.func110, Try.ntmps110
  go_upto_region 2 with (go_at_call 127; refine HC.out.mono ?_; rintro e w1 ⟨v1, rfl, ho1, hb1⟩; obtain ⟨a1, c1, rfl⟩ := own_slice ho1)
  go_upto_region 3 with (go_at_call 86; refine (HSo.out _ _ _ ho1).mono ?_; rintro e w2 ⟨rfl, ho2, hg2⟩)
  have hl : (sortW S).length = S.length := by have := ho2.1; rw [strs_len] at this; omega
  have HB2 := hid (hb1.grown hg2 hb1.size fun k hk => (own_block ho1 hk).1)
  have HO2 := hid ho2
  rw [← hl] at HO2 ⊢
  clear ho1 hb1 hg2 ho2 HC HSo hl
  go_wp2_with (go_at_call 128; refine (HCo.out _ _ (Sl.of_owns HO2.out)).mono ?_; rintro e w3 ⟨rfl, hD⟩)
  go_ret
  exact ⟨_, rfl, own_below HO2.out (hD.below _), bel_step HB2.out (hD.below _)⟩
theorem zero2 {w w0 : World} (h : w.alloc (.cells #[.int .i64 0, .slice none 0 0] 24) = w0) :
    Below w.heap.size w w0 ∧ w.heap.size < w0.heap.size ∧ w0.cell? ⟨w.heap.size, 0, none⟩ = some (.int .i64 0) ∧ w0.cell? ⟨w.heap.size, 1, none⟩ = some (.slice none 0 0) ∧ ∀ j, w0.frozen? ⟨w.heap.size, j, none⟩ = false := by
  subst h
  exact ⟨bel_alloc _ _, by simp, by simp, by simp, fun j => frozen_laid (Below.refl _ _) j⟩
set_option maxRecDepth 100000 in
set_option maxHeartbeats 1000000 in
theorem cmake_any (base : Nat) (q : Int) (v : Value) (S ws : List ByteArray) (w : World) (ho : w.ownsRow base 9 1 v S.length (strs S)) (hn : S.length ≤ 100000) (hd : S.Nodup) (hs : sortW S = ws) (hE : codeErr q ws = 0) :
    Calls Try.prog 93 #[.int .i64 q, v] w fun e w' => ∃ u, e = .returned (.tuple #[.agg #[.int .i64 q, u], .int .i64 0]) ∧ w'.ownsRow w.heap.size 9 1 u ws.length (strs ws) ∧ Below w.heap.size w w' := by
  have HSo := hid (fun b X h => sortedS_any b v S X h hn hd)
  rw [hs] at HSo
  have HO := hid (fun o => ho.alloc o)
  have HCk := hid (fun u X h => ccheck_any q u ws X h)
  rw [hE] at HCk
  clear ho hs hE
  go_enter Try.func93, Try.ntmps93
  go_upto_region 1 with fail
  obtain ⟨w0, hw0⟩ : ∃ w0, w.alloc (.cells #[.int .i64 0, .slice none 0 0] 24) = w0 := ⟨_, rfl⟩
  obtain ⟨hb0, hlt, r0, r1, rf⟩ := zero2 hw0
  have HO0 := hid (HO.out (.cells #[.int .i64 0, .slice none 0 0] 24))
  rw [hw0] at HO0 ⊢
  have HR := hid (And.intro r0 (And.intro r1 rf))
  have HB0 := hid hb0
  clear hw0 hb0 r0 r1 rf HO
  go_upto_region 2 with (go_at_call 110; refine (HSo.out _ _ HO0.out).mono ?_; rintro e w1 ⟨u, rfl, ho1, hb1⟩; obtain ⟨a1, c1, rfl⟩ := own_slice ho1)
  obtain ⟨w2, hw2⟩ : ∃ w2, w1.alloc (.cells #[.int .i64 q, .slice a1 ws.length c1] 24) = w2 := ⟨_, rfl⟩
  obtain ⟨hb2, k0, k1⟩ := boxed hw2
  have HO2 := hid (own_below ho1 hb2)
  have HBr := hid (bel_step (bel_step (Below.refl w0.heap.size w0) hb1) hb2)
  have HB2 := hid (bel_step (bel_step HB0.out hb1) hb2)
  rw [hw2]
  clear hw2 hb2 hb1 ho1 HSo HO0
  go_wp2_with (go_at_call 64; refine (HCk.out _ _ (Sl.of_owns HO2.out)).mono ?_; rintro e w3 ⟨rfl, hb3⟩; have k0 := keeps hb3 k0; have k1 := keeps hb3 k1; have hbr := bel_step HBr.out hb3; have r0 := keeps hbr HR.out.1; have r1 := keeps hbr HR.out.2.1; have f0 := keeps_frozen hbr HR.out.1 (HR.out.2.2 0); have f1 := keeps_frozen hbr HR.out.2.1 (HR.out.2.2 1))
  have HO3 := own_below HO2.out hb3
  have HB3 := bel_step HB2.out hb3
  refine bodyPost_ret (v := .tuple #[.agg #[.int .i64 q, .slice a1 ws.length c1], .int .i64 0]) ?_ rfl ⟨.slice a1 ws.length c1, rfl, own_base (ownsRow_setCell_below (ownsRow_setCell_below HO3 (by exact hlt) _) (by exact hlt) _) (Nat.le_of_lt hlt), ?_⟩
  · simp only [results, Try.results93]
    simp [go_sem, r0, r1]
  · exact set2_below HB3 (Nat.le_refl _) _ _
end Go.Proofs.Ytalklhjmnoodeaa
