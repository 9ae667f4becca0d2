/-
  integer: Add, Neg, Sub, Compare.
  No condition beyond bounds on the lengths.
-/
import Derived.Test.YtppflnkadjddiaaIntCmp
import Derived.Deep.RegionWith
import Derived.Deep.RegionHeld3
namespace Go.Proofs.Ytppflnkadjddiaa
open Go.RowKit
set_option linter.unusedVariables false

theorem img_val (n : Int) : valBE (img n).data.toList = n.natAbs := by simp [img, nmg, valBE_bytes]
/-- An integer of at most a million bytes. -/
def Fits (n : Int) : Prop := (bytesBE n.natAbs).length ≤ 200000
theorem Fits.size {n : Int} (h : Fits n) : (img n).size ≤ 200000 := by
  have h' : (bytesBE n.natAbs).length ≤ 200000 := h
  simpa [img, nmg, ByteArray.size] using h'
theorem bytes_digs (n : Nat) : (digs n).length ≤ (bytesBE n).length := by
  rcases Nat.lt_or_ge (bytesBE n).length (digs n).length with h | h
  · exfalso
    have h1 := lt_pow_len n
    have hne : digs n ≠ [] := by intro e; rw [e] at h; simp at h
    have h2 := natv_ge (digs_u32 n) (canon_digs n) hne
    rw [natv_digs] at h2
    have h3 : 256 ^ (bytesBE n).length ≤ 4294967296 ^ ((digs n).length - 1) :=
      Nat.le_trans (Nat.pow_le_pow_right (by decide) (by omega)) (Nat.pow_le_pow_left (by decide) _)
    omega
  · exact h
theorem Fits.digs {n : Int} (h : Fits n) : (digs n.natAbs).length ≤ 200000 := Nat.le_trans (bytes_digs _) h
theorem digitsI_any (n : Int) (w : World) (h : (img n).size ≤ 200000) :
    Calls Try.prog 67 #[.agg #[.bool (isg n), .string (img n)]] w fun e w' => (∃ v', e = .returned v' ∧ Nt w' v' n.natAbs) ∧ Below w.heap.size w w' := by
  have := digits_any (isg n) (img n) w (by omega)
  rwa [img_val] at this

theorem digs_len_of_lt {n k : Nat} (h : n < 4294967296 ^ k) : (digs n).length ≤ k := by
  rcases Nat.lt_or_ge k (digs n).length with hk | hk
  · exfalso
    have hne : digs n ≠ [] := by intro e; rw [e] at hk; simp at hk
    have h2 := natv_ge (digs_u32 n) (canon_digs n) hne
    rw [natv_digs] at h2
    have h3 : 4294967296 ^ k ≤ 4294967296 ^ ((digs n).length - 1) := Nat.pow_le_pow_right (by decide) (by omega)
    omega
  · exact hk
theorem lt_digs_pow (n : Nat) : n < 4294967296 ^ (digs n).length := by
  have := natv_lt (digs n) (digs_u32 n)
  rwa [natv_digs] at this
theorem digs_add_len (a b : Nat) : (digs (a + b)).length ≤ (digs a).length + (digs b).length + 1 := by
  apply digs_len_of_lt
  have h1 := lt_digs_pow a
  have h2 := lt_digs_pow b
  have h3 : 4294967296 ^ (digs a).length ≤ 4294967296 ^ ((digs a).length + (digs b).length) := Nat.pow_le_pow_right (by decide) (by omega)
  have h4 : 4294967296 ^ (digs b).length ≤ 4294967296 ^ ((digs a).length + (digs b).length) := Nat.pow_le_pow_right (by decide) (by omega)
  rw [Nat.pow_succ]
  omega
theorem digs_sub_len (a b : Nat) : (digs (a - b)).length ≤ (digs a).length := digs_len_of_lt (by have := lt_digs_pow a; omega)
theorem nsg_img {g : Bool} {m : Nat} {n : Int} (h : (if g then -(m : Int) else m) = n) : nsg g m = isg n ∧ nmg m = img n := by
  subst h
  exact ⟨isg_of g m, img_of g m⟩
theorem isg_true {n : Int} (h : isg n = true) : n < 0 := by simpa [isg] using h
theorem isg_false {n : Int} (h : isg n = false) : 0 ≤ n := by simpa [isg] using h
theorem add_same {a b : Int} (h : isg a = isg b) : nsg (isg b) (a.natAbs + b.natAbs) = isg (a + b) ∧ nmg (a.natAbs + b.natAbs) = img (a + b) := by
  apply nsg_img
  cases hb : isg b
  · have h1 := isg_false (h.trans hb); have h2 := isg_false hb; simp; omega
  · have h1 := isg_true (h.trans hb); have h2 := isg_true hb; simp; omega
theorem add_less {a b : Int} (h : ¬ isg a = isg b) (hl : a.natAbs < b.natAbs) : nsg (isg b) (b.natAbs - a.natAbs) = isg (a + b) ∧ nmg (b.natAbs - a.natAbs) = img (a + b) := by
  apply nsg_img
  cases hb : isg b
  · have h1 := isg_true (n := a) (by rw [hb] at h; simpa using h); have h2 := isg_false hb; simp; omega
  · have h1 := isg_false (n := a) (by rw [hb] at h; simpa using h); have h2 := isg_true hb; simp; omega
theorem add_more {a b : Int} (h : ¬ isg a = isg b) (hl : ¬ a.natAbs < b.natAbs) : nsg (isg a) (a.natAbs - b.natAbs) = isg (a + b) ∧ nmg (a.natAbs - b.natAbs) = img (a + b) := by
  apply nsg_img
  cases ha : isg a
  · have h1 := isg_true (n := b) (by rw [ha] at h; cases hb : isg b; · exact absurd hb.symm h
                                     · rfl); have h2 := isg_false ha; simp; omega
  · have h1 := isg_false (n := b) (by rw [ha] at h; cases hb : isg b; · rfl
                                      · exact absurd hb.symm h); have h2 := isg_true ha; simp; omega
/-- One call more. -/
theorem bel_step {w wc wd w' : World} (h : Below w.heap.size w wc) (hb : Below wd.heap.size wd w') (hd : wd.os = wc.os ∧ wd.tape = wc.tape ∧ wd.output = wc.output ∧ wd.heap = wc.heap := by exact ⟨rfl, rfl, rfl, rfl⟩) : Below w.heap.size w w' := by
  obtain ⟨d1, d2, d3, d4⟩ := hd
  refine h.trans ⟨hb.os.trans d1, hb.tape.trans d2, hb.output.trans d3, by rw [← d4]; exact hb.size, fun k hk => ?_⟩
  rw [hb.block k (by rw [d4]; have := h.size; omega), d4]
/-- Between the digits and the sum. -/
def AddCut (w : World) (a b : Int) (u v : Value) (wx : World) : Prop :=
  Nt wx u a.natAbs ∧ Nt wx v b.natAbs ∧ Below w.heap.size w wx ∧ w.heap.size + 3 ≤ wx.heap.size ∧
  wx.cell? ⟨w.heap.size, 0, none⟩ = some (.bool (isg a)) ∧ wx.cell? ⟨w.heap.size + 1, 0, none⟩ = some (.bool (isg b)) ∧
  wx.heap[w.heap.size + 2]? = some (.cells #[.bool false, .string ⟨#[]⟩] 41 (0, 0))

set_option maxRecDepth 100000 in
set_option maxHeartbeats 4000000 in
theorem addI_any (a b : Int) (w : World) (ha : Fits a) (hb : Fits b) :
    Calls Try.prog 47 #[.agg #[.bool (isg a), .string (img a)], .agg #[.bool (isg b), .string (img b)]] w fun e w' => e = .returned (.agg #[.bool (isg (a + b)), .string (img (a + b))]) ∧ Below w.heap.size w w' := by
  have ha1 := ha.size
  have hb1 := hb.size
  have HA := hid ha
  have HB := hid hb
  clear ha hb
  go_enter Try.func47, Try.ntmps47
  go_upto_region 1 with fail
  go_cut [5, 6] (fun u v wx => AddCut w a b u v wx)
  case first =>
    obtain ⟨W, hW⟩ : ∃ W, ((w.alloc (.cells #[.bool (isg a), .string (img a)] 41)).alloc (.cells #[.bool (isg b), .string (img b)] 41)).alloc (.cells #[.bool false, .string ⟨#[]⟩] 41) = W := ⟨_, rfl⟩
    have e1 : W.cell? ⟨w.heap.size, 0, none⟩ = some (.bool (isg a)) := by rw [← hW]; simp [go_sem]
    have e2 : W.cell? ⟨w.heap.size, 1, none⟩ = some (.string (img a)) := by rw [← hW]; simp [go_sem]
    have e3 : W.cell? ⟨w.heap.size + 1, 0, none⟩ = some (.bool (isg b)) := by rw [← hW]; simp [go_sem]
    have e4 : W.cell? ⟨w.heap.size + 1, 1, none⟩ = some (.string (img b)) := by rw [← hW]; simp [go_sem]
    have hW0 : Below w.heap.size w W := by
      rw [← hW]
      exact (((Below.refl _ _).alloc (Nat.le_refl _) _).alloc (by simp) _).alloc (by simp; omega) _
    have hWs : W.heap.size = w.heap.size + 3 := by rw [← hW]; simp [go_sem]
    have e5 : W.heap[w.heap.size + 2]? = some (.cells #[.bool false, .string ⟨#[]⟩] 41 (0, 0)) := by
      rw [← hW]
      have := heap_alloc_new ((w.alloc (.cells #[.bool (isg a), .string (img a)] 41)).alloc (.cells #[.bool (isg b), .string (img b)] 41)) (.cells #[.bool false, .string ⟨#[]⟩] 41)
      simpa [World.size_alloc] using this
    rw [hW]
    clear hW
    have hWs := hid hWs
    have hW0 := hid hW0
    have e5 := hid e5
    go_region_held3 (fun w' => w'.cell? ⟨w.heap.size, 0, none⟩ = some (.bool (isg a)) ∧ w'.cell? ⟨w.heap.size, 1, none⟩ = some (.string (img a)) ∧ w'.cell? ⟨w.heap.size + 1, 0, none⟩ = some (.bool (isg b)) ∧ w'.cell? ⟨w.heap.size + 1, 1, none⟩ = some (.string (img b)))
      (first | exact ⟨e1, e2, e3, e4⟩ | go_keep)
      (first | (go_at_call 67; refine (digitsI_any _ _ (by first | assumption)).mono ?_; rintro e w' ⟨⟨v', rfl, hN⟩, hb⟩; have e1 := keeps hb e1; have e2 := keeps hb e2; have e3 := keeps hb e3; have e4 := keeps hb e4))
    all_goals go_wp2_with fail
    all_goals go_meet
    rename_i w1 b1 v1 n1 g1 g2 g3 g4 h1
    have hbb : Below W.heap.size W w' := by
      have hb' : Below W.heap.size w1 w' := hb.mono b1.size
      exact ((below_drewN (Below.refl W.heap.size W) 1).trans b1).trans hb'
    exact ⟨n1.below hb, hN, hW0.out.trans (hbb.mono (by have := hWs.out; omega)), by have := hWs.out; have := hbb.size; omega, e1, e3, by rw [hbb.block _ (by have := hWs.out; omega)]; exact e5.out⟩
  case rest =>
    obtain ⟨hN1, hN2, hbel, hsz, e1, e3, e5⟩ := hcut
    have hda := HA.out.digs
    have hdb := HB.out.digs
    have c5 : wc.cell? ⟨w.heap.size + 1 + 1, 0, none⟩ = some (.bool false) := by rw [cell_of_row _ (w.heap.size + 1 + 1) 0 _ _ _ e5]; rfl
    have c6 : wc.cell? ⟨w.heap.size + 1 + 1, 1, none⟩ = some (.string ⟨#[]⟩) := by rw [cell_of_row _ (w.heap.size + 1 + 1) 1 _ _ _ e5]; rfl
    have f5 : wc.frozen? ⟨w.heap.size + 1 + 1, 0, none⟩ = false := by simp [World.frozen?, e5]
    have f6 : wc.frozen? ⟨w.heap.size + 1 + 1, 1, none⟩ = false := by simp [World.frozen?, e5]
    have e5 := hid e5
    by_cases hs : isg a = isg b
    · have hs' : (isg a == isg b) = true := by simp [hs]
      have hdab := digs_add_len a.natAbs b.natAbs
      go_upto_region 3 with fail
      rw [hs] at e1
      go_region_held3 (fun w' => w'.cell? ⟨w.heap.size, 0, none⟩ = some (.bool (isg b)))
        (first | exact e1 | (rw [World.cell?_setCell_far _ _ _ _ (show w.heap.size + 1 + 1 ≠ w.heap.size by omega), World.cell?_setCell_far _ _ _ _ (show w.heap.size + 1 + 1 ≠ w.heap.size by omega)]; exact e1) | go_keep)
        (first
          | (go_at_call 68; refine (add_any _ _ a.natAbs b.natAbs _ (hN1.below (Dr.below ⟨_, rfl⟩ _)) (hN2.below (Dr.below ⟨_, rfl⟩ _)) (by omega) (by omega)).mono ?_; rintro e w' ⟨⟨v', rfl, hN⟩, hb⟩; have hbel := bel_step hbel hb; have e1 := keeps hb e1; have f5 := keeps_frozen hb c5 f5; have f6 := keeps_frozen hb c6 f6; have c5 := keeps hb c5; have c6 := keeps hb c6)
          | (go_at_call 51; refine (number_any _ _ _ _ hN (digs_u32 _) (by omega)).mono ?_; rintro e w' ⟨rfl, hb⟩; have hbel := bel_step hbel hb; have e1 := keeps hb e1; have f5 := keeps_frozen hb c5 f5; have f6 := keeps_frozen hb c6 f6; have c5 := keeps hb c5; have c6 := keeps hb c6))
      all_goals go_wp2_with fail
      refine bodyPost_ret (v := .agg #[.bool (isg (a + b)), .string (img (a + b))]) ?_ rfl ⟨rfl, ?_⟩
      · simp [results, Try.results47, go_sem, c5, c6]
        rw [natv_digs]
        exact add_same hs
      · exact (hbel.setCell (by simp; omega) _).setCell (by simp; omega) _
    · have hs' : (isg a == isg b) = false := by simp [hs]
      go_upto_region 4 with fail
      go_wp2_with fail
      refine (compareN_any _ _ a.natAbs b.natAbs _ hN1 hN2).mono ?_
      rintro e w1 ⟨rfl, hD⟩
      have hbD := hD.below wc.heap.size
      have hN1 := hN1.below hbD
      have hN2 := hN2.below hbD
      have hbel := bel_step hbel hbD
      have e1 := keeps hbD e1; have e3 := keeps hbD e3; have f5 := keeps_frozen hbD c5 f5; have f6 := keeps_frozen hbD c6 f6; have c5 := keeps hbD c5; have c6 := keeps hbD c6
      clear hD hbD
      by_cases hl : a.natAbs < b.natAbs
      · have hc : cmpN a.natAbs b.natAbs = -1 := by rw [cmpN, if_pos hl]
        rw [hc]
        have hds := digs_sub_len b.natAbs a.natAbs
        go_upto_region 5 with fail
        go_region_held3 (fun w' => w'.cell? ⟨w.heap.size + 1, 0, none⟩ = some (.bool (isg b)))
          (first | exact e3 | (rw [World.cell?_setCell_far _ _ _ _ (show w.heap.size + 1 + 1 ≠ w.heap.size + 1 by omega), World.cell?_setCell_far _ _ _ _ (show w.heap.size + 1 + 1 ≠ w.heap.size + 1 by omega)]; exact e3) | go_keep)
          (first
            | (go_at_call 70; refine (subtract_any _ _ b.natAbs a.natAbs _ (hN2.below (Dr.below ⟨_, rfl⟩ _)) (hN1.below (Dr.below ⟨_, rfl⟩ _)) (by omega) (by omega)).mono ?_; rintro e w' ⟨⟨v', rfl, hN⟩, hb⟩; have hbel := bel_step hbel hb; have e3 := keeps hb e3; have f5 := keeps_frozen hb c5 f5; have f6 := keeps_frozen hb c6 f6; have c5 := keeps hb c5; have c6 := keeps hb c6)
            | (go_at_call 51; refine (number_any _ _ _ _ hN (digs_u32 _) (by omega)).mono ?_; rintro e w' ⟨rfl, hb⟩; have hbel := bel_step hbel hb; have e3 := keeps hb e3; have f5 := keeps_frozen hb c5 f5; have f6 := keeps_frozen hb c6 f6; have c5 := keeps hb c5; have c6 := keeps hb c6))
        all_goals go_wp2_with fail
        refine bodyPost_ret (v := .agg #[.bool (isg (a + b)), .string (img (a + b))]) ?_ rfl ⟨rfl, ?_⟩
        · simp [results, Try.results47, go_sem, c5, c6]
          rw [natv_digs]
          exact add_less hs hl
        · exact (hbel.setCell (by simp; omega) _).setCell (by simp; omega) _
      · have hc : decide (cmpN a.natAbs b.natAbs < 0) = false := by rw [cmpN, if_neg hl]; split <;> simp
        have hds := digs_sub_len a.natAbs b.natAbs
        go_upto_region 6 with fail
        go_region_held3 (fun w' => w'.cell? ⟨w.heap.size, 0, none⟩ = some (.bool (isg a)))
          (first | exact e1 | (rw [World.cell?_setCell_far _ _ _ _ (show w.heap.size + 1 + 1 ≠ w.heap.size by omega), World.cell?_setCell_far _ _ _ _ (show w.heap.size + 1 + 1 ≠ w.heap.size by omega)]; exact e1) | go_keep)
          (first
            | (go_at_call 70; refine (subtract_any _ _ a.natAbs b.natAbs _ (hN1.below (Dr.below ⟨_, rfl⟩ _)) (hN2.below (Dr.below ⟨_, rfl⟩ _)) (by omega) (by omega)).mono ?_; rintro e w' ⟨⟨v', rfl, hN⟩, hb⟩; have hbel := bel_step hbel hb; have e1 := keeps hb e1; have f5 := keeps_frozen hb c5 f5; have f6 := keeps_frozen hb c6 f6; have c5 := keeps hb c5; have c6 := keeps hb c6)
            | (go_at_call 51; refine (number_any _ _ _ _ hN (digs_u32 _) (by omega)).mono ?_; rintro e w' ⟨rfl, hb⟩; have hbel := bel_step hbel hb; have e1 := keeps hb e1; have f5 := keeps_frozen hb c5 f5; have f6 := keeps_frozen hb c6 f6; have c5 := keeps hb c5; have c6 := keeps hb c6))
        all_goals go_wp2_with fail
        refine bodyPost_ret (v := .agg #[.bool (isg (a + b)), .string (img (a + b))]) ?_ rfl ⟨rfl, ?_⟩
        · simp [results, Try.results47, go_sem, c5, c6]
          rw [natv_digs]
          exact add_more hs hl
        · exact (hbel.setCell (by simp; omega) _).setCell (by simp; omega) _
end Go.Proofs.Ytppflnkadjddiaa
