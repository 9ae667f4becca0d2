/-
  slices.Equal at a row of edges and itself; graph.Same at a graph and itself; slices.Compact at a row whose neighbours differ.
  No condition beyond that.
-/
import Derived.Test.YtppflnkadjddiaaGraphKeep
import Derived.Deep.QuietTactic
import Derived.Laws.StructEq
namespace Go.Proofs.Ytppflnkadjddiaa
open Go.RowKit Go.Sort
set_option linter.unusedVariables false

theorem run_edge_in (x y : Edge) (w : World) : (Op.equalIn 10000 64 (.agg #[.int .i64 x.f, .int .i64 x.l, .int .i64 x.t]) (.agg #[.int .i64 y.f, .int .i64 y.l, .int .i64 y.t])).run Try.prog w = .ok (decide (x = y)) w := by
  have u3 := Try.underlying3
  have a3 := Try.isAgg3
  have z3 := Try.sizeOf3
  have hS : Try.prog.underlying 64 = some (.struct (Try.prog.fieldsOf 64)) := by kernel_rfl
  have hp : Try.prog.stoodInHeld 64 = false := by kernel_rfl
  rw [show (10000 : Nat) = 9999 + 1 from rfl, run_equalIn_agg w 9999 64 _ _ hS hp]
  simp only [Program.fieldsOf, Try.underlying64]
  go_simp
  obtain ⟨a, b, c⟩ := x
  obtain ⟨d, e, f⟩ := y
  by_cases h1 : a = d <;> by_cases h2 : b = e <;> by_cases h3 : c = f <;> simp [h1, h2, h3]
theorem run_neq_edge (x y : Edge) (w : World) : (binOp .neq 64 (.agg #[.int .i64 x.f, .int .i64 x.l, .int .i64 x.t]) (.agg #[.int .i64 y.f, .int .i64 y.l, .int .i64 y.t])).run Try.prog w = .ok (.bool (!decide (x = y))) w := by
  rw [run_neq_struct, run_edge_in]; rfl
theorem run_eql_edge (x y : Edge) (w : World) : (binOp .eql 64 (.agg #[.int .i64 x.f, .int .i64 x.l, .int .i64 x.t]) (.agg #[.int .i64 y.f, .int .i64 y.l, .int .i64 y.t])).run Try.prog w = .ok (.bool (decide (x = y))) w := by
  rw [run_eql_struct, run_edge_in]; rfl
theorem guard_edge (op : BinOp) (p q : Operand) (x y : Edge) (w : World) : (eqGuard op 64 p q (.agg #[.int .i64 x.f, .int .i64 x.l, .int .i64 x.t]) (.agg #[.int .i64 y.f, .int .i64 y.l, .int .i64 y.t])).run Try.prog w = .ok () w := run_eqGuard_agg w op _ _ _ _ _ (by kernel_rfl)

theorem load_edge {w : World} {b o : Nat} {x : Edge} (e0 : w.cell? ⟨b, o, none⟩ = some (.int .i64 x.f)) (e1 : w.cell? ⟨b, o + 1, none⟩ = some (.int .i64 x.l)) (e2 : w.cell? ⟨b, o + 2, none⟩ = some (.int .i64 x.t)) (m : Nat) :
    Sem.run Try.prog (loadCellsFrom ⟨b, o, none⟩ 0 3 #[]) (w.drewN m) = .ok #[.int .i64 x.f, .int .i64 x.l, .int .i64 x.t] (w.drewN m) :=
  run_loadCellsFrom_list Try.prog _ _ (Edge.enc x) 3 rfl (fun i v hi => by
    rw [World.cell?_drewN, Addr.add_lit]
    have hlt := lt_of_some hi
    have h3 : i = 0 ∨ i = 1 ∨ i = 2 := by simp [Edge.enc] at hlt; omega
    rcases h3 with rfl | rfl | rfl
    · simp [Edge.enc] at hi; rw [← hi]; exact e0
    · simp [Edge.enc] at hi; rw [← hi]; exact e1
    · simp [Edge.enc] at hi; rw [← hi]; exact e2)
theorem neq_edge : NeqAt Try.prog 64 (fun x : Edge => .agg (Edge.enc x).toArray) (fun x y => decide (x = y)) := ⟨fun x y w => run_neq_edge x y w, fun op a b x y w => guard_edge op a b x y w⟩

set_option maxHeartbeats 400000 in
theorem equalEdges_any (v1 v2 : Value) (es : List Edge) (w : World) (h1 : Sl 3 w v1 es.length (ecells es)) (h2 : Sl 3 w v2 es.length (ecells es)) :
    Calls Try.prog 57 #[v1, v2] w fun e w' => e = .returned (.bool true) ∧ Dr w w' := by
  obtain ⟨ao, cap, rfl, _, hc1, hm1, hs1⟩ := id h1
  obtain ⟨ao', cap', rfl, _, hc2, hm2, hs2⟩ := id h2
  by_cases hn : es.length = 0
  · have hes : es = [] := List.length_eq_zero_iff.1 hn
    subst hes
    clear h1 h2 hs1 hs2 hn
    simp only [List.length_nil]
    go_enter Try.func57, Try.ntmps57
    go_wp2
    refine wp_loop_rounds 1 ?_
    rw [rounds_succ]
    go_wp2
    go_ret
    exact ⟨rfl, Dr.refl _⟩
  · obtain ⟨b, o, rfl, _⟩ := Sl.pos hs1 (by omega)
    obtain ⟨b', o', rfl, _⟩ := Sl.pos hs2 (by omega)
    have key : ∀ (bb oo cc : Nat), Sl 3 w (.slice (some ⟨bb, oo, none⟩) es.length cc) es.length (ecells es) → ∀ j, j < es.length → ∀ i v, (Edge.enc es[j]!)[i]? = some v → w.cell? ⟨bb, oo + j * 3 + i, none⟩ = some v := by
      intro bb oo cc hS j hj i v hi
      obtain ⟨x, hx⟩ := some_of_lt hj
      have e : es[j]! = x := by rw [List.getElem!_eq_getElem?_getD, hx]; rfl
      rw [e] at hi
      obtain ⟨b2, o2, hbo, e0, e1, e2⟩ := hS.edge hx
      simp only [Option.some.injEq, Addr.mk.injEq, and_true] at hbo
      obtain ⟨rfl, rfl⟩ := hbo
      have hlt := lt_of_some hi
      have h3 : i = 0 ∨ i = 1 ∨ i = 2 := by simp [Edge.enc] at hlt; omega
      rcases h3 with rfl | rfl | rfl
      · simp [Edge.enc] at hi; rw [← hi]; exact e0
      · simp [Edge.enc] at hi; rw [← hi]; exact e1
      · simp [Edge.enc] at hi; rw [← hi]; exact e2
    refine (AnyQ.slices_Equal Try.eqQ 3 Try.isAgg64 Try.sizeOf64 Edge.enc (fun _ => rfl) _ neq_edge b o es.length cap b' o' es.length cap' es es w (Nat.le_refl _) (Nat.le_refl _) (by omega) (by omega) (key _ _ _ h1) (key _ _ _ h2)).mono ?_
    rintro e w' ⟨rfl, hD⟩
    refine ⟨ret_bool ?_, hD⟩
    rw [List.take_of_length_le (Nat.le_refl _)]
    exact Lib.allEq_all _ es es rfl (fun j _ => by simp)
set_option maxHeartbeats 400000 in
theorem compactAsc_any (v : Value) (es : List Edge) (w : World) (hl : Sl 3 w v es.length (ecells es)) (ha : ∀ k x y, es[k]? = some x → es[k + 1]? = some y → cmpE x y = -1) :
    Calls Try.prog 81 #[v] w fun e w' => e = .returned v ∧ Dr w w' := by
  obtain ⟨ao, cap, rfl, _, hc1, hm1, _⟩ := id hl
  have HL := hid hl
  have HA := hid ha
  clear hl ha
  by_cases h2 : es.length < 2
  · go_enter Try.func81, Try.ntmps81
    go_wp2
    go_ret
    exact ⟨rfl, Dr.refl _⟩
  · go_enter Try.func81, Try.ntmps81
    go_wp2
    go_loopw [3] (fun i wr => ∃ k : Nat, 1 ≤ k ∧ k ≤ es.length ∧ i = .int .i64 k ∧ Dr w wr) (fun i _ => es.length - (intOf i).toNat)
    case atStart => exact ⟨1, Nat.le_refl _, by omega, rfl, Dr.refl _⟩
    case round =>
      obtain ⟨k, hk0, hk, rfl, ⟨n, rfl⟩⟩ := hrel
      have HD := hid (Dr.drewN (Dr.refl w) n)
      by_cases hlt : k < es.length
      · obtain ⟨x, hx⟩ := some_of_lt hlt
        obtain ⟨y, hy⟩ := some_of_lt (l := es) (k := k - 1) (by omega)
        obtain ⟨b, o, rfl, e0, e1, e2⟩ := (HL.out.dr HD.out).edge hx
        obtain ⟨b', o', hbo, g0, g1, g2⟩ := (HL.out.dr HD.out).edge hy
        simp only [Option.some.injEq, Addr.mk.injEq, and_true] at hbo
        obtain ⟨rfl, rfl⟩ := hbo
        have hne : ¬ x = y := by
          intro e
          subst e
          have := HA.out (k - 1) x x hy (by rw [show k - 1 + 1 = k by omega]; exact hx)
          simp [cmpE, cmpL, Edge.nums, cmpZ_self] at this
        have hr := fun w => run_eql_edge x y w
        have hg := fun op p q w => guard_edge op p q x y w
        rw [decide_eq_false hne] at hr
        have l1 := load_edge e0 e1 e2
        have l2 := load_edge g0 g1 g2
        clear l1 l2
        generalize w.drewN n = wq at *
        have hpos : 0 < k := by omega
        have hkm : IntKind.i64.wrap ((k : Int) - 1) = (k : Int) - 1 := IntWalk.i64_in _ (by omega)
        have hk3 : (0 : Int) ≤ (k : Int) - 1 := by omega
        have hk4 : (k : Int) - 1 < (es.length : Int) := by omega
        have hk5 : ((k : Int) - 1).toNat = k - 1 := by omega
        have hk6 : (1 : Int) ≤ (k : Int) := by omega
        have hk7 : (k : Int) < (es.length : Int) := by omega
        clear hx hy hne
        go_wp2
        go_quiet (fail)
        clear hkm hk5
        go_wp2
        go_roundw
        case rel => exact ⟨k + 1, by omega, by omega, by go_num, (by first | exact ⟨_, rfl⟩ | exact HD.out.drewN _)⟩
        case measure => simp [intOf]; omega
      · go_wp2
        go_ret
        exact ⟨rfl, HD.out⟩
set_option maxHeartbeats 400000 in
theorem same_any (L S : Int) (v1 v2 : Value) (es : List Edge) (w : World) (h1 : Sl 3 w v1 es.length (ecells es)) (h2 : Sl 3 w v2 es.length (ecells es)) :
    Calls Try.prog 34 #[.agg #[.int .i64 L, .int .i64 S, v1], .agg #[.int .i64 L, .int .i64 S, v2]] w fun e w' => e = .returned (.bool true) ∧ Below w.heap.size w w' := by
  obtain ⟨ao, cap, rfl, _, hc1, hm1, _⟩ := id h1
  obtain ⟨ao', cap', rfl, _, hc2, hm2, _⟩ := id h2
  have hb : Below w.heap.size w ((w.alloc (.cells #[.int .i64 L, .int .i64 S, .slice ao es.length cap] 55)).alloc (.cells #[.int .i64 L, .int .i64 S, .slice ao' es.length cap'] 55)) := ((Below.refl _ _).alloc (Nat.le_refl _) _).alloc (by simp) _
  have HE := hid (equalEdges_any _ _ es _ (h1.below hb) (h2.below hb))
  have HB := hid hb
  clear h1 h2 hb
  go_enter Try.func34, Try.ntmps34
  go_wp2_with (go_at_call 57; refine HE.out.mono ?_; rintro e w1 ⟨rfl, n, rfl⟩)
  go_ret
  exact ⟨rfl, below_drewN HB.out n⟩
end Go.Proofs.Ytppflnkadjddiaa
