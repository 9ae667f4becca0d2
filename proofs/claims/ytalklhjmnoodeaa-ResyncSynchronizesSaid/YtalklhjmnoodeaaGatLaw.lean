/-
  The words that end where a built parser emits something are the words of its code, each once.
  No condition: plain laws.
-/
import Derived.Test.YtalklhjmnoodeaaRunLaw
import Derived.Test.YtalklhjmnoodeaaPBuildL
namespace Go.Proofs.Ytalklhjmnoodeaa
open Go.RowKit

def rowG (ws : List ByteArray) (s : Nat) : Nat → List ByteArray
  | 0 => []
  | a + 1 => if 0 ≤ emI ws s a then rowG ws s a ++ [(stW ws).getD s default ++ letW a] else rowG ws s a
def gatG (ws : List ByteArray) (q : Nat) : Nat → List ByteArray
  | 0 => []
  | s + 1 => gatG ws q s ++ rowG ws s q
theorem rowG_yes {ws : List ByteArray} {s a : Nat} (h : 0 ≤ emI ws s a) : rowG ws s (a + 1) = rowG ws s a ++ [(stW ws).getD s default ++ letW a] := by rw [rowG, if_pos h]
theorem rowG_no {ws : List ByteArray} {s a : Nat} (h : ¬ 0 ≤ emI ws s a) : rowG ws s (a + 1) = rowG ws s a := by rw [rowG, if_neg h]
theorem mem_rowG {ws : List ByteArray} {s k : Nat} {x : ByteArray} : x ∈ rowG ws s k ↔ ∃ a < k, 0 ≤ emI ws s a ∧ (stW ws).getD s default ++ letW a = x := by
  induction k with
  | zero => simp [rowG]
  | succ k ih =>
    by_cases h : 0 ≤ emI ws s k
    · rw [rowG_yes h, List.mem_append, ih, List.mem_singleton]
      constructor
      · rintro (⟨a, ha, h1, h2⟩ | e)
        · exact ⟨a, by omega, h1, h2⟩
        · exact ⟨k, by omega, h, e.symm⟩
      · rintro ⟨a, ha, h1, h2⟩
        by_cases e : a = k
        · subst e; exact .inr h2.symm
        · exact .inl ⟨a, by omega, h1, h2⟩
    · rw [rowG_no h, ih]
      constructor
      · rintro ⟨a, ha, h1, h2⟩; exact ⟨a, by omega, h1, h2⟩
      · rintro ⟨a, ha, h1, h2⟩
        by_cases e : a = k
        · subst e; exact absurd h1 h
        · exact ⟨a, by omega, h1, h2⟩
theorem mem_gatG {ws : List ByteArray} {q n : Nat} {x : ByteArray} : x ∈ gatG ws q n ↔ ∃ s < n, x ∈ rowG ws s q := by
  induction n with
  | zero => simp [gatG]
  | succ n ih =>
    rw [gatG, List.mem_append, ih]
    constructor
    · rintro (⟨s, hs, h⟩ | h)
      · exact ⟨s, by omega, h⟩
      · exact ⟨n, by omega, h⟩
    · rintro ⟨s, hs, h⟩
      by_cases e : s = n
      · subst e; exact .inr h
      · exact .inl ⟨s, by omega, h⟩
theorem app_list (a b : ByteArray) : (a ++ b).data.toList = a.data.toList ++ b.data.toList := by simp
theorem snoc_inj {x y : ByteArray} {a b : Nat} (ha : a < 16) (hb : b < 16) (h : x ++ letW a = y ++ letW b) : x = y ∧ a = b := by
  have h1 : (x ++ letW a).data.toList = (y ++ letW b).data.toList := by rw [h]
  rw [app_list, app_list] at h1
  have h2 := List.append_inj' h1 rfl
  refine ⟨ba_ext h2.1, ?_⟩
  have h3 : lettersL.getD a 0 = lettersL.getD b 0 := by simpa [letW] using h2.2
  have key : (List.range 16).all (fun a => (List.range 16).all fun b => !(lettersL.getD a 0 == lettersL.getD b 0) || a == b) = true := by decide
  have := List.all_eq_true.1 (List.all_eq_true.1 key a (List.mem_range.2 ha)) b (List.mem_range.2 hb)
  rw [h3] at this
  simpa using this
theorem nodup_rowG (ws : List ByteArray) (s : Nat) {k : Nat} (hk : k ≤ 16) : (rowG ws s k).Nodup := by
  induction k with
  | zero => simp [rowG]
  | succ k ih =>
    by_cases h : 0 ≤ emI ws s k
    · rw [rowG_yes h, List.nodup_append]
      refine ⟨ih (by omega), by simp, fun x hx y hy e => ?_⟩
      simp only [List.mem_singleton] at hy
      subst hy
      obtain ⟨a, ha, _, h2⟩ := mem_rowG.1 hx
      have := (snoc_inj (by omega) (by omega) (h2.trans e)).2
      omega
    · rw [rowG_no h]; exact ih (by omega)
theorem nodup_gatG (ws : List ByteArray) {q n : Nat} (hq : q ≤ 16) (hn : n ≤ sizeW ws) : (gatG ws q n).Nodup := by
  induction n with
  | zero => simp [gatG]
  | succ n ih =>
    rw [gatG, List.nodup_append]
    refine ⟨ih (by omega), nodup_rowG ws n hq, fun x hx y hy e => ?_⟩
    subst e
    obtain ⟨s, hs, h1⟩ := mem_gatG.1 hx
    obtain ⟨a, ha, _, e1⟩ := mem_rowG.1 h1
    obtain ⟨b, hb, _, e2⟩ := mem_rowG.1 hy
    have h3 := (snoc_inj (by omega) (by omega) (e1.trans e2.symm)).1
    have hnd := asc_nodup (asc_sortW (preL ws))
    have g1 : (stW ws)[s]? = some ((stW ws).getD s default) := by
      rw [List.getD_eq_getElem?_getD, List.getElem?_eq_getElem (show s < (stW ws).length by unfold sizeW at hn; omega)]; rfl
    have g2 : (stW ws)[n]? = some ((stW ws).getD s default) := by
      rw [h3, List.getD_eq_getElem?_getD, List.getElem?_eq_getElem (show n < (stW ws).length by unfold sizeW at hn; omega)]; rfl
    have i1 := idxW_at (l := stW ws) hnd g1
    have i2 := idxW_at (l := stW ws) hnd g2
    omega
/-- A word without its last letter, and this letter. -/
theorem word_split {q : Nat} {x : ByteArray} (h0 : 0 < x.size) (hx : okWord q x = true) : ∃ a < q, x = x.extract 0 (x.size - 1) ++ letW a := by
  have hl : 0 < x.data.toList.length := by rw [ba_len]; exact h0
  obtain ⟨c, hc⟩ : ∃ c, x.data.toList[x.size - 1]? = some c := ⟨_, List.getElem?_eq_getElem (by rw [ba_len]; omega)⟩
  obtain ⟨h1, h2, h3⟩ := dig_lt hx hc
  refine ⟨dig c, by simpa using h1, ba_ext ?_⟩
  rw [app_list, Lib.extract_data, List.drop_zero, Nat.sub_zero]
  have hcl : (letW (dig c)).data.toList = [c] := by
    have h4 : lettersL.getD (dig c) 0 = c := by
      have key : ∀ (l : List UInt8) (c : UInt8), 0 ≤ Lib.indexByte l c → l.getD (Lib.indexByte l c).toNat 0 = c := by
        intro l
        induction l with
        | nil => intro c h; simp [Lib.indexByte] at h
        | cons b l ih =>
          intro c h
          rw [Lib.indexByte] at h ⊢
          by_cases hb : (b == c) = true
          · rw [if_pos hb]; simpa using hb
          · rw [if_neg hb] at h ⊢
            by_cases hi : (Lib.indexByte l c == -1) = true
            · rw [if_pos hi] at h; omega
            · rw [if_neg hi] at h ⊢
              have hlow := (ib_low l c).1
              have hne : Lib.indexByte l c ≠ -1 := by simpa using hi
              have := ih c (by omega)
              rw [show (Lib.indexByte l c + 1).toNat = (Lib.indexByte l c).toNat + 1 by omega]
              simpa using this
      exact key lettersL c (by show 0 ≤ digit c; omega)
    show [lettersL.getD (dig c) 0] = [c]
    rw [h4]
  rw [hcl]
  have := take_snoc hc
  rw [← this]
  rw [take_all (by rw [ba_len]; omega)]
theorem mem_gat_all {q : Nat} {ws : List ByteArray} (hv : Valid45 q ws) (x : ByteArray) : x ∈ gatG ws q (sizeW ws) ↔ x ∈ ws := by
  constructor
  · intro h
    obtain ⟨s, _, h1⟩ := mem_gatG.1 h
    obtain ⟨a, _, h2, rfl⟩ := mem_rowG.1 h1
    exact (idxW_mem _ _).1 h2
  · intro h
    obtain ⟨g1, _, g3⟩ := hv.words x h
    obtain ⟨_, _, _, g4⟩ := wordErr_zero.1 g3
    obtain ⟨a, ha, e⟩ := word_split g1 g4
    have hst : x.extract 0 (x.size - 1) ∈ stW ws := mem_stW.2 ⟨x, h, x.size - 1, by omega, rfl⟩
    obtain ⟨s, hs⟩ := List.getElem?_of_mem hst
    have hsl := lt_of_some hs
    have hgd : (stW ws).getD s default = x.extract 0 (x.size - 1) := by rw [List.getD_eq_getElem?_getD, hs]; rfl
    refine mem_gatG.2 ⟨s, hsl, mem_rowG.2 ⟨a, ha, ?_, ?_⟩⟩
    · unfold emI; rw [hgd, ← e]; exact (idxW_mem _ _).2 h
    · rw [hgd, ← e]
theorem gat_len {q : Nat} {ws : List ByteArray} (hv : Valid45 q ws) {n k : Nat} (hn : n < sizeW ws) (hk : k ≤ q) : (gatG ws q n ++ rowG ws n k).length ≤ 64 := by
  have hq : q ≤ 16 := by have := hv.q16; omega
  have h1 := nodup_sub (nodup_gatG ws hq (Nat.le_refl _)) (fun x hx => (mem_gat_all hv x).1 hx)
  have h2 : ∀ m, m ≤ sizeW ws → (gatG ws q m).length ≤ (gatG ws q (sizeW ws)).length := by
    intro m hm
    exact nodup_sub (nodup_gatG ws hq hm) (fun x hx => by
      obtain ⟨s, hs, h⟩ := mem_gatG.1 hx
      exact mem_gatG.2 ⟨s, by omega, h⟩)
  have h3 := h2 (n + 1) hn
  have h4 : (rowG ws n k).length ≤ (rowG ws n q).length := nodup_sub (nodup_rowG ws n (by omega)) (fun x hx => by
    obtain ⟨a, ha, h⟩ := mem_rowG.1 hx
    exact mem_rowG.2 ⟨a, by omega, h⟩)
  rw [gatG, List.length_append] at h3
  rw [List.length_append]
  have := hv.n64
  omega
theorem gat_len0 {q : Nat} {ws : List ByteArray} (hv : Valid45 q ws) {n : Nat} (hn : n ≤ sizeW ws) : (gatG ws q n).length ≤ 64 := by
  have hq : q ≤ 16 := by have := hv.q16; omega
  have h1 := nodup_sub (nodup_gatG ws hq hn) (fun x hx => (mem_gat_all hv x).1 (by
      obtain ⟨s, hs, h⟩ := mem_gatG.1 hx
      exact mem_gatG.2 ⟨s, by omega, h⟩))
  have := hv.n64
  omega
theorem gat_sort {q : Nat} {ws : List ByteArray} (hv : Valid45 q ws) : sortW (gatG ws q (sizeW ws)) = ws :=
  asc_unique (asc_sortW _) hv.asc fun x => by rw [mem_sortW, mem_gat_all hv]
theorem stW_small {q : Int} {ws : List ByteArray} (hv : Valid45 q ws) {x : ByteArray} (hx : x ∈ stW ws) : x.size < 32 := by
  obtain ⟨w, hw, n, hn, rfl⟩ := mem_stW.1 hx
  have := (hv.words w hw).2.1
  have h : (w.extract 0 n).data.toList.length ≤ n := by rw [Lib.extract_data]; simp; omega
  rw [ba_len] at h
  omega
end Go.Proofs.Ytalklhjmnoodeaa
