/-
  integer: trim, number, Of, digits: the representation of integers.
  No condition beyond bounds on the lengths.
-/
import Derived.Test.YtppflnkadjddiaaProg
import Derived.Test.YtppflnkadjddiaaNat
import Derived.Lib.UnsafeStr
namespace Go.Proofs.Ytppflnkadjddiaa
open Go.RowKit
set_option linter.unusedVariables false
theorem Try.info86 : (Try.prog.info? 86).map (fun i => (i.zero, i.size, i.bytes)) = some (some (.int .u32 0), 1, 4) := by kernel_rfl
theorem Try.infoU8 : (Try.prog.info? 5).map (fun i => (i.zero, i.size, i.bytes)) = some (some (.int .u8 0), 1, 1) := by kernel_rfl

def u32s (l : List Int) : List Value := l.map (.int .u32)
theorem u32s_len (l : List Int) : (u32s l).length = l.length := by simp [u32s]
theorem u32s_get {l : List Int} {k : Nat} {x : Int} (h : l[k]? = some x) : (u32s l)[k]? = some (.int .u32 x) := by simp [u32s, h]
theorem u32s_take (l : List Int) (k : Nat) : u32s (l.take k) = (u32s l).take k := by simp [u32s, List.map_take]

/-- A natural, as it is read: its digits without zeros at the end. -/
def Nt (w : World) (v : Value) (n : Nat) : Prop := Sl 1 w v (digs n).length (u32s (digs n))
theorem Nt.below {w w' : World} {v : Value} {n : Nat} (h : Nt w v n) (hb : Below w.heap.size w w') : Nt w' v n := Sl.below h hb

theorem Sl.take {w : World} {ao : Option Addr} {n cap : Nat} {cs : List Value} (h : Sl 1 w (.slice ao n cap) n cs) (k : Nat) (hk : k ≤ n) : Sl 1 w (.slice ao k cap) k (cs.take k) := by
  obtain ⟨ao', cap', hv, hl, h1, h2, h3⟩ := h
  simp only [Value.slice.injEq] at hv
  obtain ⟨rfl, _, rfl⟩ := hv
  refine ⟨ao, cap, rfl, by rw [List.length_take]; omega, by omega, h2, ?_⟩
  rcases h3 with h3 | ⟨b, o, rfl, h3⟩
  · exact .inl (by omega)
  · refine .inr ⟨b, o, rfl, fun j x hj => h3 j x ?_⟩
    rw [List.getElem?_take] at hj
    split at hj
    · exact hj
    · cases hj

set_option maxRecDepth 100000 in
set_option maxHeartbeats 1000000 in
theorem trim_any (v : Value) (l : List Int) (w : World) (hl : Sl 1 w v l.length (u32s l)) (hu : U32 l) :
    Calls Try.prog 77 #[v] w fun e w' => (∃ v', e = .returned v' ∧ Nt w v' (natv l)) ∧ w = w' := by
  have HS := hid hl
  obtain ⟨ao, cap, rfl, _, hc1, hm1, hs⟩ := hl
  clear hs
  have HU := hid hu
  clear hu
  go_enter Try.func77, Try.ntmps77
  go_wp2
  go_loop [0] (fun u => ∃ k : Nat, k ≤ l.length ∧ u = .slice ao k cap ∧ Hid (natv (l.take k) = natv l)) (fun u => lenOf u)
  case atStart => exact ⟨l.length, Nat.le_refl _, rfl, hid (by rw [take_all (Nat.le_refl _)])⟩
  case round =>
    obtain ⟨k, hk, rfl, HK⟩ := hrel
    have HT := hid (HS.out.take k hk)
    by_cases h0 : k = 0
    · subst h0
      go_wp2
      go_ret
      have e : natv l = 0 := by rw [← HK.out]; rfl
      exact ⟨⟨_, rfl, by rw [e, Nt, digs_zero]; exact HT.out⟩, rfl⟩
    · obtain ⟨x, hx⟩ := some_of_lt (l := l) (k := k - 1) (by omega)
      obtain ⟨b, o, rfl, c1⟩ := HS.out.cell (u32s_get hx)
      have HX := hid hx
      have hk1 : 1 ≤ k := by omega
      have hk0 : 0 < k := by omega
      clear hx h0
      have HE := hid (show l.take k = l.take (k - 1) ++ [x] by have := take_snoc HX.out; rwa [show k - 1 + 1 = k by omega] at this)
      by_cases hx0 : x = 0
      · have hb : (x == 0) = true := by simp [hx0]
        have HX0 := hid hx0
        clear hx0
        go_wp2
        go_round
        case rel => exact ⟨k - 1, by omega, rfl, hid (by rw [← HK.out, HE.out, HX0.out, natv_snoc_zero])⟩
        case measure => simp [lenOf]; omega
      · have hb : (x == 0) = false := by simp [hx0]
        have HX0 := hid hx0
        clear hx0
        go_wp2
        go_ret
        have hcan : Canon (l.take k) := by
          intro r hr
          rw [HE.out] at hr
          have := List.append_inj_right' hr rfl
          simp at this
          exact HX0.out this
        exact ⟨⟨_, rfl, by rw [← HK.out, Nt, digs_natv (HU.out.take k) hcan, List.length_take, show min k l.length = k by omega, u32s_take]; exact HT.out⟩, rfl⟩

theorem digs_len_le (l : List Int) (hu : U32 l) : (digs (natv l)).length ≤ l.length := by
  have key : ∀ n k, n < 4294967296 ^ k → (digs n).length ≤ k := by
    intro n
    induction n using Nat.strongRecOn with
    | _ n ih =>
      intro k h
      by_cases h0 : n = 0
      · subst h0; simp [digs_zero]
      · cases k with
        | zero => simp at h; omega
        | succ k =>
          rw [digs_pos h0, List.length_cons]
          have := ih (n / 4294967296) (by omega) k (by rw [Nat.pow_succ] at h; omega)
          omega
  exact key _ _ (natv_lt l hu)

/-- What has been written behind j bytes of the digit n. -/
def stp (V n j : Nat) : Nat := V * 256 ^ j + n / 256 ^ (4 - j)
theorem stp_zero (V n : Nat) (h : n < 4294967296) : stp V n 0 = V := by
  have : n / 4294967296 = 0 := by omega
  simp [stp, this]
theorem stp_four (V n : Nat) : stp V n 4 = n + 4294967296 * V := by simp [stp]; omega
theorem stp_succ (V n j : Nat) (h : j < 4) : stp V n (j + 1) = 256 * stp V n j + n / 256 ^ (3 - j) % 256 := by
  have e : 256 ^ (4 - j) = 256 ^ (3 - j) * 256 := by rw [← Nat.pow_succ]; congr 1; omega
  simp only [stp, e, ← Nat.div_div_eq_div_mul, show 4 - (j + 1) = 3 - j by omega, Nat.pow_succ]
  generalize n / 256 ^ (3 - j) = q
  rw [← Nat.mul_assoc, Nat.mul_add, Nat.mul_comm 256 (V * 256 ^ j)]
  omega
theorem shift_byte (n j : Nat) : (n : Int) / 2 ^ (8 * (3 - j)) % 256 = ((n / 256 ^ (3 - j) % 256 : Nat) : Int) := by
  have e : (2 : Int) ^ (8 * (3 - j)) = ((256 ^ (3 - j) : Nat) : Int) := by rw [show (256 : Nat) = 2 ^ 8 by decide, ← Nat.pow_mul]; simp
  rw [e]
  omega
theorem drop_lt {l : List Int} (hu : U32 l) (k : Nat) : natv (l.drop k) < 4294967296 ^ l.length := by
  have h1 := natv_lt (l.drop k) (fun x hx => hu x (List.mem_of_mem_drop hx))
  have h2 : 4294967296 ^ (l.drop k).length ≤ 4294967296 ^ l.length := Nat.pow_le_pow_right (by decide) (by simp)
  omega
theorem stp_lt {V n j L : Nat} (hn : n < 4294967296) (hV : V < 4294967296 ^ L) (hj : j ≤ 4) : stp V n j < 256 ^ (4 * L + 4) := by
  have e : 256 ^ (4 * L + 4) = 4294967296 ^ L * 4294967296 := by rw [Nat.pow_add, Nat.pow_mul]
  have h1 : 256 ^ j ≤ 256 ^ 4 := Nat.pow_le_pow_right (by decide) hj
  have h2 : n / 256 ^ (4 - j) < 256 ^ j := by
    rw [Nat.div_lt_iff_lt_mul (Nat.pow_pos (by decide)), ← Nat.pow_add, show j + (4 - j) = 4 by omega]
    exact hn
  rw [e, stp]
  calc V * 256 ^ j + n / 256 ^ (4 - j) < V * 256 ^ j + 256 ^ j := by omega
    _ = (V + 1) * 256 ^ j := by rw [Nat.add_mul, Nat.one_mul]
    _ ≤ 4294967296 ^ L * 4294967296 := Nat.mul_le_mul hV (by simpa using h1)

/-- The sign and the bytes of an integer, as the program holds them: 0 has no sign. -/
def nsg (neg : Bool) (n : Nat) : Bool := neg && decide (n ≠ 0)
def nmg (n : Nat) : ByteArray := ⟨(bytesBE n).toArray⟩
theorem nsg_false (n : Nat) : nsg false n = false := rfl

theorem byteCells_push (S c : Nat) (hc : c < 256) : Lib.byteCells (bytesBE S ++ [c.toUInt8]) = Lib.byteCells (bytesBE S) ++ [.int .u8 c] := by
  rw [Lib.byteCells_append]
  have : (c.toUInt8).toNat = c := by simp; omega
  simp [Lib.byteCells, this]
/-- The world in which number begins. -/
def numW (w : World) : World := w.alloc (.cells #[.bool false, .string ⟨#[]⟩] 41)
/-- What has been written, S, lies in the row at u. -/
def NumB (w : World) (S : Nat) (u : Value) (wr : World) : Prop := ∃ g gc, u = .slice (some ⟨g, 0, none⟩) (bytesBE S).length gc ∧
  wr.ownsRow (w.heap.size + 1) 5 1 (.slice (some ⟨g, 0, none⟩) (bytesBE S).length gc) (bytesBE S).length (Lib.byteCells (bytesBE S)) ∧ Below (w.heap.size + 1) (numW w) wr
def NumOut (w : World) (d : List Int) (u i : Value) (wr : World) : Prop := ∃ k : Nat, k ≤ d.length ∧ i = .int .i64 ((k : Int) - 1) ∧ NumB w (natv (d.drop k)) u wr
def NumIn (w : World) (V n : Nat) (u i : Value) (wr : World) : Prop := ∃ j : Nat, j ≤ 4 ∧ i = .int .i64 (3 - (j : Int)) ∧ NumB w (stp V n j) u wr

theorem numW_cells {w wr : World} (h : Below (w.heap.size + 1) (numW w) wr) :
    wr.cell? ⟨w.heap.size, 0, none⟩ = some (.bool false) ∧ wr.cell? ⟨w.heap.size, 1, none⟩ = some (.string ⟨#[]⟩) ∧ wr.frozen? ⟨w.heap.size, 0, none⟩ = false ∧ wr.frozen? ⟨w.heap.size, 1, none⟩ = false := by
  have hb : wr.heap[w.heap.size]? = some (.cells #[.bool false, .string ⟨#[]⟩] 41 (0, 0)) := by
    rw [h.block _ (by omega)]
    exact heap_alloc_new w _
  refine ⟨?_, ?_, ?_, ?_⟩ <;> simp [World.cell?, World.frozen?, hb]

set_option maxRecDepth 100000 in
set_option maxHeartbeats 4000000 in
theorem number_any (neg : Bool) (v : Value) (l : List Int) (w : World) (hl : Sl 1 w v l.length (u32s l)) (hu : U32 l) (hlen : l.length ≤ 1000000) :
    Calls Try.prog 51 #[.bool neg, v] w fun e w' => e = .returned (.agg #[.bool (nsg neg (natv l)), .string (nmg (natv l))]) ∧ Below w.heap.size w w' := by
  have htrim := trim_any v l (w.alloc (.cells #[.bool false, .string ⟨#[]⟩] 41)) (hl.below ((Below.refl _ _).alloc (Nat.le_refl _) _)) hu
  have hdl := digs_len_le l hu
  have HV := hid (natv_digs (natv l))
  have HU := hid (digs_u32 (natv l))
  unfold Nt at htrim
  generalize natv l = V at *
  generalize hd : digs V = d at *
  have HT := hid htrim
  have HD := hid hd
  clear hd hl hu htrim
  have hd6 : d.length ≤ 1000000 := by omega
  clear hdl hlen
  go_enter Try.func51, Try.ntmps51
  go_wp2_with fail
  refine HT.out.mono ?_
  rintro e w' ⟨⟨v', rfl, hN⟩, rfl⟩
  have HS := hid hN
  obtain ⟨ao, cap, rfl, _, hc1, hm1, hs⟩ := hN
  clear hs HT
  by_cases h0 : d.length = 0
  · have h0' : ((d.length : Int) == 0) = true := by simp [h0]
    have HV0 := hid (show V = 0 by have := HV.out; rw [List.eq_nil_of_length_eq_zero h0] at this; simpa [natv] using this.symm)
    clear h0
    go_wp2
    refine bodyPost_ret (v := .agg #[.bool false, .string ⟨#[]⟩]) ?_ rfl ⟨?_, (Below.refl _ _).alloc (Nat.le_refl _) _⟩
    · simp [results, Try.results51, go_sem]
    · rw [HV0.out, nsg, nmg, bytesBE_zero]
      simp
  · have h0' : ((d.length : Int) == 0) = false := by rw [beq_eq_false_iff_ne]; omega
    go_wp2_with (at_make; refine wpList_room0 _ rfl _ _ 22 rfl (w.heap.size + 1) 5 (.int .u8 0) 1 1 Try.underlying22 Try.infoU8 _ _ _ (4 * d.length) rfl rfl (by omega) (by omega) (by unfold maxLen; omega) (by simp) ?_; intro w1 hown1 hb1)
    simp only [World.size_alloc] at hown1 hb1
    have HN0 := hid (show d.length ≠ 0 from h0)
    clear h0 h0'
    go_loopw [5, 6] (fun u i wr => NumOut w d u i wr) (fun _ i _ => (intOf i + 1).toNat)
    case atStart => exact ⟨d.length, Nat.le_refl _, rfl, _, _, by rw [drop_all (Nat.le_refl _), natv, bytesBE_zero]; rfl, by rw [drop_all (Nat.le_refl _), natv, bytesBE_zero]; exact hown1, hb1⟩
    case round =>
      obtain ⟨k, hk, rfl, g, gc, rfl, hown, hbel⟩ := hrel
      by_cases hk0 : 1 ≤ k
      · obtain ⟨x, hx⟩ := some_of_lt (l := d) (k := k - 1) (by omega)
        obtain ⟨b, o, rfl, c0⟩ := HS.out.cell (u32s_get hx)
        have hx32 := HU.out x (List.mem_of_getElem? hx)
        have HX := hid hx
        clear hx
        obtain ⟨n, rfl⟩ := Int.eq_ofNat_of_zero_le hx32.1
        have hn32 : n < 4294967296 := by omega
        obtain ⟨V', hV'⟩ : ∃ V', V' = natv (d.drop k) := ⟨_, rfl⟩
        rw [← hV'] at hown ⊢
        have HV' := hid hV'
        clear hV' hx32
        go_wp2
        obtain ⟨wo, rfl⟩ : ∃ wo : World, wo = wr := ⟨_, rfl⟩
        go_loopw [5, 7] (fun u i wr => NumIn w V' n u i wr) (fun _ i _ => (intOf i + 1).toNat)
        case atStart => exact ⟨0, by omega, rfl, g, gc, by rw [stp_zero _ _ hn32], by rw [stp_zero _ _ hn32]; exact hown, hbel⟩
        case round =>
          obtain ⟨j, hj, rfl, g', gc', rfl, hown', hbel'⟩ := hrel
          by_cases hj4 : j < 4
          · obtain ⟨c, hc⟩ : ∃ c, c = n / 256 ^ (3 - j) % 256 := ⟨_, rfl⟩
            have hcr : (n : Int) / 2 ^ (8 * (3 - j)) % 256 = (c : Int) := by rw [hc, shift_byte]
            have hst := stp_succ V' n j hj4
            rw [← hc] at hst
            have hc256 : c < 256 := by omega
            have HC := hid hst
            have hSl := bytesBE_len (stp V' n j) (4 * d.length + 4) (stp_lt hn32 (by rw [HV'.out]; exact drop_lt HU.out k) hj)
            clear hc hst
            have c1 := (hbel'.cell (p := ⟨b, o + (k - 1), none⟩) (by have := World.block_lt_of_cell? _ _ c0; simp at this; exact this)).trans c0
            generalize stp V' n j = S at *
            have hj3 : (0 : Int) ≤ 3 - (j : Int) := by omega
            have hbs : w.heap.size + 1 ≤ wr.heap.size := by have := hbel'.size; simp [numW] at this; omega
            by_cases hp : c ≠ 0 ∨ S ≠ 0
            · have HP := hid (bytesBE_push S c hc256 hp)
              have hlen2 : (bytesBE (256 * S + c)).length = (bytesBE S).length + 1 := by rw [HP.out]; simp
              have HL := hid hlen2
              clear hlen2
              by_cases hcz : c = 0
              · have hS0 : 0 < (bytesBE S).length := List.length_pos_iff.2 (bytesBE_ne (by omega))
                have hcb : ((c : Int) != 0) = false := by simp [hcz]
                have HZ := hid hcz
                clear hp hcz
                go_wp2_with (at_builtin; refine wpList_push _ rfl _ _ 22 rfl (w.heap.size + 1) 5 (.int .u8 0) 1 1 Try.underlying22 Try.infoU8 rfl (by decide) _ _ _ rfl hown' #[.int .u8 c] rfl (oneCell_int _ _) rfl (by unfold maxLen; omega) (by omega) (by omega) ?_; intro g2 gc2 w2 hown2 hg2 hb2)
                go_roundw
                case rel => exact ⟨j + 1, by omega, int_eq (by omega), g2, gc2, by rw [HC.out, HL.out], by rw [HC.out, HL.out, HP.out, byteCells_push S c hc256]; exact hown2, hbel'.trans hb2⟩
                case measure => simp [intOf]; omega
              · have hcb : ((c : Int) != 0) = true := by simp [hcz]
                clear hp hcz
                go_wp2_with (at_builtin; refine wpList_push _ rfl _ _ 22 rfl (w.heap.size + 1) 5 (.int .u8 0) 1 1 Try.underlying22 Try.infoU8 rfl (by decide) _ _ _ rfl hown' #[.int .u8 c] rfl (oneCell_int _ _) rfl (by unfold maxLen; omega) (by omega) (by omega) ?_; intro g2 gc2 w2 hown2 hg2 hb2)
                go_roundw
                case rel => exact ⟨j + 1, by omega, int_eq (by omega), g2, gc2, by rw [HC.out, HL.out], by rw [HC.out, HL.out, HP.out, byteCells_push S c hc256]; exact hown2, hbel'.trans hb2⟩
                case measure => simp [intOf]; omega
            · obtain ⟨rfl, rfl⟩ : c = 0 ∧ S = 0 := by omega
              have e0 : (bytesBE 0).length = 0 := by rw [bytesBE_zero]; rfl
              rw [e0] at hown' ⊢
              go_wp2
              go_roundw
              case rel => exact ⟨j + 1, by omega, int_eq (by omega), g', gc', by rw [HC.out, Nat.mul_zero, Nat.add_zero, e0], by rw [HC.out, Nat.mul_zero, Nat.add_zero, e0]; exact hown', hbel'⟩
              case measure => simp [intOf]; omega
          · have hj4' : j = 4 := by omega
            subst hj4'
            have HE := hid (show natv (d.drop (k - 1)) = stp V' n 4 by rw [drop_cons HX.out, natv, stp_four, HV'.out, show k - 1 + 1 = k by omega]; simp)
            go_wp2
            go_roundw
            case rel => exact ⟨k - 1, by omega, int_eq (by omega), g', gc', by rw [HE.out], by rw [HE.out]; exact hown', hbel'⟩
            case measure => simp [intOf]; omega
      · have hk0' : k = 0 := by omega
        subst hk0'
        have eV : natv (d.drop 0) = V := by rw [List.drop_zero, HV.out]
        rw [eV] at hown ⊢
        have hconv := run_convert_bytes_back (P := Try.prog) wr 22 9 5 ⟨g, 0, none⟩ gc (bytesBE V) Try.underlying22 Try.underlying5 Try.underlying9 (fun j hj => by
          have := hown.cells (g := g) rfl j (.int .u8 ((bytesBE V)[j].toNat : Int)) (by simp [Lib.byteCells, hj])
          exact this)
        obtain ⟨m0, m1, m2, m3⟩ := numW_cells hbel
        have hbw : Below w.heap.size w wr := ((Below.refl w.heap.size w).alloc (Nat.le_refl _) _).trans (hbel.mono (by omega))
        have hs := hbel.size
        simp [numW] at hs
        clear hown HS hown1 hb1 hbel
        go_wp2
        refine bodyPost_ret (v := .agg #[.bool neg, .string ⟨(bytesBE V).toArray⟩]) ?_ rfl ⟨?_, (hbw.setCell (p := ⟨w.heap.size, 0, none⟩) (Nat.le_refl _) _).setCell (p := ⟨w.heap.size, 1, none⟩) (Nat.le_refl _) _⟩
        · simp [results, Try.results51, go_sem, m0, m1]
        · have hV0 : V ≠ 0 := by
            intro h
            have := HD.out
            rw [h, digs_zero] at this
            rw [← this] at HN0
            exact HN0.out rfl
          rw [nsg, decide_eq_true hV0, Bool.and_true, nmg]
end Go.Proofs.Ytppflnkadjddiaa
