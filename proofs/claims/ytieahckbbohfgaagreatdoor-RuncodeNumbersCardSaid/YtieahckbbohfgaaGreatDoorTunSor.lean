/-
  slices.SortFunc at a list of different words, by runcode.order: the words in order.
  The words are different, and there is one.
-/
import Derived.Test.YtieahckbbohfgaaGreatDoorTunFir
import Derived.Test.YtieahckbbohfgaaGreatDoorShelfS
import Derived.Sort.Grow
import Derived.Sort.OwnSorted
namespace Go.Proofs.YtieahckbbohfgaaGreatDoor
open Go.RowKit Go.Deep Go.Sort
set_option linter.unusedVariables false

/-- The world has grown behind, and drawn. -/
def Gr (w w' : World) : Prop := ∃ q os, w' = grow (w.drewN q) os
theorem Gr.refl (w : World) : Gr w w := ⟨0, #[], by rw [grow_empty]; rfl⟩
theorem Gr.trans {a b c : World} (h : Gr a b) (k : Gr b c) : Gr a c := by
  obtain ⟨q, os, rfl⟩ := h
  obtain ⟨q', os', rfl⟩ := k
  exact ⟨q + q', os ++ os', by show grow (grow ((a.drewN q).drewN q') os) os' = _; rw [grow_grow, drewN_drewN]⟩
theorem Gr.drewN {a b : World} (h : Gr a b) (n : Nat) : Gr a (b.drewN n) := h.trans ⟨n, #[], by rw [grow_empty]⟩
theorem Gr.drew {a b : World} (h : Gr a b) : Gr a b.drew := h.trans ⟨1, #[], by rw [grow_empty]; rfl⟩
theorem Gr.alloc {a b : World} (h : Gr a b) (o : Obj) : Gr a (b.alloc o) := h.trans ⟨0, #[o], by rw [alloc_eq_grow]; rfl⟩
theorem Gr.below {a b : World} (h : Gr a b) : Below a.heap.size a b := by
  obtain ⟨q, os, rfl⟩ := h
  refine ⟨rfl, rfl, rfl, ?_, fun k hk => ?_⟩
  · rw [size_grow]; exact Nat.le_add_right _ _
  · rw [heap_grow_old _ _ (by exact hk)]; rfl


set_option maxRecDepth 100000 in
set_option maxHeartbeats 2000000 in
theorem pless_any (a b : ByteArray) (w : World) :
    Calls Tryz.prog 59 #[.string a, .string b] w fun e w' => e = .returned (.int .i64 (cmpW a b)) ∧ Gr w w' := by
  have HE := hid (cmpW_or a b)
  have HG := hid (Gr.refl w)
  go_enter Tryz.func59, Tryz.ntmps59
  go_wp2_with (first
    | (go_at_call 89; refine (Tryz.cmp_Compare_int _ _ _).mono ?_; rintro e w' ⟨rfl, rfl⟩)
    | (go_at_call 90; refine (Tryz.strings_Compare _ _ _).mono ?_; rintro e w' ⟨rfl, rfl⟩)
    | (go_at_call 57; refine (or2 (Lib.compareInt a.size b.size) (Lib.compareBytes a.data.toList b.data.toList) _ _ ?_ ?_).mono ?_; (simp [go_sem]); (simp [go_sem]); rintro e w3 ⟨rfl, rfl⟩))
  go_ret
  exact ⟨ret_int HE.out, HG.out.alloc _⟩
def cfL (a b : List UInt8) : Int := cmpW ⟨a.toArray⟩ ⟨b.toArray⟩
theorem ltL (a b : List UInt8) : ltOf cfL a b = lessW ⟨a.toArray⟩ ⟨b.toArray⟩ := rfl
theorem swoL : SWO (ltOf cfL) := by
  refine ⟨fun x => ?_, fun x y z h1 h2 => ?_, fun x y z h1 h2 => ?_⟩
  · rw [ltL, lessW_irrefl]
  · rw [ltL] at *; exact lessW_trans h1 h2
  · rw [ltL] at *
    cases h : lessW (⟨x.toArray⟩ : ByteArray) ⟨z.toArray⟩ with
    | false => rfl
    | true =>
      by_cases e : (⟨x.toArray⟩ : ByteArray) = ⟨y.toArray⟩
      · rw [e] at h; rw [h] at h2; cases h2
      · have h3 := lessW_tri h1 e
        have h4 := lessW_trans h3 h
        rw [h4] at h2; cases h2
theorem totL : ∀ x y : List UInt8, ltOf cfL x y = false → ltOf cfL y x = false → x = y := by
  intro x y h1 h2
  rw [ltL] at h1 h2
  by_cases e : (⟨x.toArray⟩ : ByteArray) = ⟨y.toArray⟩
  · simpa using e
  · have := lessW_tri h1 e
    rw [this] at h2; cases h2
def bl (S : List ByteArray) : List (List UInt8) := S.map (·.data.toList)
theorem enc_bl (S : List ByteArray) : (bl S).map encStr = strs S := by
  simp [bl, strs, encStr]
theorem merge_sortW {S : List ByteArray} (hn : S.Nodup) : ((bl S).mergeSort fun x y => !(ltOf cfL) y x).map encStr = strs (sortW S) := by
  obtain ⟨T, hT⟩ : ∃ T : List ByteArray, bl T = ((bl S).mergeSort fun x y => !(ltOf cfL) y x) := ⟨((bl S).mergeSort fun x y => !(ltOf cfL) y x).map (fun l => ⟨l.toArray⟩), by simp only [bl, List.map_map]; exact (List.map_congr_left (g := id) (fun l _ => by simp)).trans (List.map_id _)⟩
  have hperm : (bl T).Perm (bl S) := by rw [hT]; exact List.mergeSort_perm _ _
  have hmem : ∀ x, x ∈ T ↔ x ∈ sortW S := by
    intro x
    rw [mem_sortW]
    have h := hperm.mem_iff (a := x.data.toList)
    simp only [bl, List.mem_map] at h
    constructor
    · intro hx
      obtain ⟨y, hy, e⟩ := h.1 ⟨x, hx, rfl⟩
      rwa [← ba_ext e]
    · intro hx
      obtain ⟨y, hy, e⟩ := h.2 ⟨x, hx, rfl⟩
      rwa [← ba_ext e]
  have hnd : T.Nodup := by
    have h1 : (bl S).Nodup := by
      rw [bl, List.Nodup, List.pairwise_map]
      exact hn.imp fun {a b} hab e => hab (ba_ext e)
    have h2 : (bl T).Nodup := hperm.nodup_iff.2 h1
    rw [bl, List.Nodup, List.pairwise_map] at h2
    exact h2.imp fun {a b} hab e => hab (by rw [e])
  have hs : (bl T).Pairwise fun x y => (!(ltOf cfL) y x) = true := by
    rw [hT]
    refine List.pairwise_mergeSort ?_ ?_ _
    · intro a b c h1 h2
      simp only [Bool.not_eq_true'] at h1 h2 ⊢
      cases h : ltOf cfL c a with
      | false => rfl
      | true =>
        by_cases e : ltOf cfL b c = true
        · have := swoL.trans _ _ _ e h
          rw [this] at h1; cases h1
        · have e2 := totL _ _ (by simpa using e) h2
          subst e2
          rw [h] at h1; cases h1
    · intro a b
      cases h : ltOf cfL b a with
      | false => simp
      | true =>
        have : ltOf cfL a b = false := by
          cases h2 : ltOf cfL a b with
          | false => rfl
          | true =>
            have := swoL.trans _ _ _ h h2
            rw [swoL.irrefl] at this; cases this
        simp [this]
  have hasc : Asc T := by
    rw [bl, List.pairwise_map] at hs
    rw [Asc]
    refine (hs.and hnd).imp ?_
    intro a b hab
    obtain ⟨h1, h2⟩ := hab
    simp only [Bool.not_eq_true'] at h1
    exact lessW_tri h1 (Ne.symm h2)
  rw [← hT, enc_bl, asc_unique hasc (asc_sortW S) hmem]

theorem sortStrs_any (base : Nat) (v : Value) (S : List ByteArray) (w : World) (ho : w.ownsRow base 9 1 v S.length (strs S)) (hn : S.length ≤ 1000000) (hd : S.Nodup) (h0 : 0 < S.length) :
    Calls Tryz.prog 61 #[v, .func (.func 59) #[] #[]] w fun e w' => e = .returned (.tuple #[]) ∧ w'.ownsRow base 9 1 v S.length (strs (sortW S)) ∧ w.grownBy w' v.ownBlock := by
  rcases ho.2 with ⟨rfl, h0'⟩ | ⟨g, cap, cur, rfl, hg, hh, h1, h2, h3, h4⟩
  · omega
  · have hbl : (bl S).length = S.length := by simp [bl]
    have h4' : cur.toList.take (bl S).length = (bl S).map encStr := by rw [enc_bl, hbl]; simpa using h4
    have hH := holds_of_block hh h4'
    have eg : ∀ args w, (callFunc 59 args).run Tryz.prog w = .ok (.enter 59 args) w := enters_of Tryz.func59 (by kernel_rfl) rfl
    have hcmp : CmpLays1 Tryz.prog 59 #[] encStr cfL g 0 (bl S).toArray.size w := by
      intro m os dk _ x y
      refine (pless_any ⟨x.toArray⟩ ⟨y.toArray⟩ _).mono ?_
      rintro e w' ⟨rfl, q, os', rfl⟩
      exact ⟨rfl, q, os', rfl⟩
    have hlen : S.length = (bl S).toArray.size := by simp [bl]
    have hcall := Any.slices_SortFunc_total Tryz.laysSlF6_f61 encStr (fun _ => rfl) cfL swoL 59 #[] g 0 cap (bl S).toArray w eg hcmp hH (Array.getElem?_eq_some_iff.1 hh).1 (by rw [← hlen]; omega) totL
    rw [← hlen] at hcall
    refine hcall.mono ?_
    rintro e w' ⟨rfl, n, os, rfl⟩
    refine ⟨rfl, ?_, grownBy_sorted _⟩
    have hml : (((bl S).toArray.toList).mergeSort fun x y => !(ltOf cfL) y x).length = (bl S).length := by simp
    have := ownsRow_sorted (n := n) (os := os) hml hg hh (by rw [hbl]; exact h1) h2 h3
    rw [hbl] at this
    rw [← merge_sortW hd]
    exact this
end Go.Proofs.YtieahckbbohfgaaGreatDoor
