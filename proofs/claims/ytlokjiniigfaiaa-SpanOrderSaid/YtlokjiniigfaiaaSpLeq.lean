/- Join and Leq at sets that are right, and when two sets are equal. -/
import Derived.Test.YtlokjiniigfaiaaSpMath
import Derived.Test.YtlokjiniigfaiaaRg
import Derived.Test.YtlokjiniigfaiaaBk
set_option linter.unusedVariables false
set_option linter.unusedSimpArgs false
namespace Go.Proofs.Ytlokjiniigfaiaa
open Go.ChangeShapes Go.WideShapes Go.ChangeAt Go.RowKit

instance : DecidableEq Ab := fun a b => decidable_of_iff (a.lo = b.lo ∧ a.hi = b.hi ∧ a.m = b.m ∧ a.r = b.r ∧ a.k = b.k) (by cases a; cases b; simp)

theorem ab_ext (a b : Ab) : a = b ↔ (a.lo = b.lo ∧ a.hi = b.hi ∧ a.m = b.m ∧ a.r = b.r ∧ a.k = b.k) := by cases a; cases b; simp

theorem ab_eql (a b : Ab) (w : World) : (binOp .eql 27 (Value.agg #[Value.int .i64 a.lo, Value.int .i64 a.hi, Value.int .i64 a.m, Value.int .i64 a.r, Value.int .i64 a.k]) (Value.agg #[Value.int .i64 b.lo, Value.int .i64 b.hi, Value.int .i64 b.m, Value.int .i64 b.r, Value.int .i64 b.k])).run Try.prog w = .ok (.bool (decide (a = b))) w := by
  rw [show decide (a = b) = decide (a.lo = b.lo ∧ a.hi = b.hi ∧ a.m = b.m ∧ a.r = b.r ∧ a.k = b.k) from by rw [decide_eq_decide]; exact ab_ext a b]
  go_simp
  by_cases h1 : a.lo = b.lo <;> by_cases h2 : a.hi = b.hi <;> by_cases h3 : a.m = b.m <;> by_cases h4 : a.r = b.r <;> by_cases h5 : a.k = b.k <;> simp [h1, h2, h3, h4, h5]
theorem ab_neq (a b : Ab) (w : World) : (binOp .neq 27 (Value.agg #[Value.int .i64 a.lo, Value.int .i64 a.hi, Value.int .i64 a.m, Value.int .i64 a.r, Value.int .i64 a.k]) (Value.agg #[Value.int .i64 b.lo, Value.int .i64 b.hi, Value.int .i64 b.m, Value.int .i64 b.r, Value.int .i64 b.k])).run Try.prog w = .ok (.bool (!decide (a = b))) w := by
  rw [show decide (a = b) = decide (a.lo = b.lo ∧ a.hi = b.hi ∧ a.m = b.m ∧ a.r = b.r ∧ a.k = b.k) from by rw [decide_eq_decide]; exact ab_ext a b]
  go_simp
  by_cases h1 : a.lo = b.lo <;> by_cases h2 : a.hi = b.hi <;> by_cases h3 : a.m = b.m <;> by_cases h4 : a.r = b.r <;> by_cases h5 : a.k = b.k <;> simp [h1, h2, h3, h4, h5]

theorem join_ab {a b : Ab} (ha : Good a) (hb : Good b) (w : World) :
    Calls Try.prog 17 #[Value.agg #[Value.int .i64 a.lo, Value.int .i64 a.hi, Value.int .i64 a.m, Value.int .i64 a.r, Value.int .i64 a.k], Value.agg #[Value.int .i64 b.lo, Value.int .i64 b.hi, Value.int .i64 b.m, Value.int .i64 b.r, Value.int .i64 b.k]] w fun e w' => e = .returned (abVal (joinS a b)) ∧ Below w.heap.size w w' := by
  have a1 := ha.h1; have a2 := ha.h2; have a3 := ha.h3
  have b1 := hb.h1; have b2 := hb.h2; have b3 := hb.h3
  have s1 := ha.step0; have s2 := hb.step0
  have hg := joinG_nonneg (stepS a) (stepS b) (a.lo - b.lo)
  have hj := join_parts ha hb
  have t1 := hj.1.step0
  have t2 := hj.1.step_zero
  rw [hj.2.2.2.1] at t1 t2
  rw [hj.2.1, hj.2.2.1] at t2
  exact join_raw a.lo a.hi a.m a.r a.k b.lo b.hi b.m b.r b.k (min a.lo b.lo) (max a.hi b.hi) (joinG (stepS a) (stepS b) (a.lo - b.lo)) (by omega) (by omega) (by split <;> omega) (by split <;> omega)
    ⟨s1.1, Int.le_trans s1.2 (by omega)⟩ ⟨s2.1, Int.le_trans s2.2 (by omega)⟩ rfl (by omega) (by omega) w

def leqS (a b : Ab) : Bool := decide (joinS a b = b)

structure LeqR (a b : Ab) (w : World) (m : Nat) (D : Nat → Bool) (s : Nat → Value) (W : World) : Prop where
  zb : Mk0 w m W
  zq : Bks W [(w.heap.size, #[Value.int .i64 a.lo, Value.int .i64 a.hi, Value.int .i64 a.m, Value.int .i64 a.r, Value.int .i64 a.k], 27), (w.heap.size + 1, #[Value.int .i64 b.lo, Value.int .i64 b.hi, Value.int .i64 b.m, Value.int .i64 b.r, Value.int .i64 b.k], 27)]
  v0 : D 0 = true → s 5 = (Value.agg #[Value.int .i64 a.lo, Value.int .i64 a.hi, Value.int .i64 a.m, Value.int .i64 a.r, Value.int .i64 a.k])
  v1 : D 1 = true → s 6 = (Value.agg #[Value.int .i64 b.lo, Value.int .i64 b.hi, Value.int .i64 b.m, Value.int .i64 b.r, Value.int .i64 b.k])
  v2 : D 2 = true → s 7 = (Value.agg #[Value.int .i64 (joinS a b).lo, Value.int .i64 (joinS a b).hi, Value.int .i64 (joinS a b).m, Value.int .i64 (joinS a b).r, Value.int .i64 (joinS a b).k])
  v3 : D 3 = true → s 8 = (Value.agg #[Value.int .i64 b.lo, Value.int .i64 b.hi, Value.int .i64 b.m, Value.int .i64 b.r, Value.int .i64 b.k])
  v4 : D 4 = true → s 9 = (Value.bool (decide (joinS a b = b)))
  v5 : D 5 = true → s 4 = (Value.bool (decide (joinS a b = b)))

set_option maxRecDepth 100000 in
set_option maxHeartbeats 4000000 in
theorem leq_ab {a b : Ab} (ha : Good a) (hb : Good b) (w : World) :
    Calls Try.prog 18 #[Value.agg #[Value.int .i64 a.lo, Value.int .i64 a.hi, Value.int .i64 a.m, Value.int .i64 a.r, Value.int .i64 a.k], Value.agg #[Value.int .i64 b.lo, Value.int .i64 b.hi, Value.int .i64 b.m, Value.int .i64 b.r, Value.int .i64 b.k]] w fun e w' => e = .returned (.bool (leqS a b)) ∧ Below w.heap.size w w' := by
  have G := Lib.hid (join_ab ha hb)
  unfold leqS
  clear ha hb
  go_enter Try.func18, Try.ntmps18
  go_wp2_with fail
  obtain ⟨m, hM, hU, hwm⟩ := start_region (((Below.refl w.heap.size w).alloc (Nat.le_refl _) _).alloc (by simp) _) (show Bks _ [(w.heap.size, #[Value.int .i64 a.lo, Value.int .i64 a.hi, Value.int .i64 a.m, Value.int .i64 a.r, Value.int .i64 a.k], 27), (w.heap.size + 1, #[Value.int .i64 b.lo, Value.int .i64 b.hi, Value.int .i64 b.m, Value.int .i64 b.r, Value.int .i64 b.k], 27)] from ⟨(Bk.new _ _ _).al _, Bk.new' (by simp) _ _, trivial⟩)
  have hB : Bks _ [(w.heap.size, #[Value.int .i64 a.lo, Value.int .i64 a.hi, Value.int .i64 a.m, Value.int .i64 a.r, Value.int .i64 a.k], 27), (w.heap.size + 1, #[Value.int .i64 b.lo, Value.int .i64 b.hi, Value.int .i64 b.m, Value.int .i64 b.r, Value.int .i64 b.k], 27)] := ⟨(Bk.new w _ _).al _, Bk.new' (by simp) _ _, trivial⟩
  refine region_facts (F := LeqR a b w m) [5, 6, 7, 8, 9, 4] [0, 1, 2, 3, 4, 5] (by kernel_rfl) (by kernel_rfl) (by kernel_rfl) (fun s => ⟨hM.drew, hB.drew, fun h => no_of' h, fun h => no_of' h, fun h => no_of' h, fun h => no_of' h, fun h => no_of' h, fun h => no_of' h⟩) ?_ ?_
  refine FSteps.op rfl (dv := []) (by kernel_rfl) rfl (by kernel_rfl) (by kernel_rfl) (fun D s W bA kK hD hW hF hA hK => ?_) ?_
  · have x2 : bA.tmps[2]?.getD undef = (Value.pointer (some ⟨w.heap.size, 0, none⟩)) := hA.o 2 rfl
    obtain ⟨⟨c0, z0⟩, ⟨c1, z1⟩, -⟩ := hF.zq.rules
    have hF := Lib.hid hF
    clear hA
    go_simp
    exact hK.out _ _ ⟨hF.out.zb, hF.out.zq, fun _ => rfl, hF.out.v1, hF.out.v2, hF.out.v3, hF.out.v4, hF.out.v5⟩
  refine FSteps.op rfl (dv := []) (by kernel_rfl) rfl (by kernel_rfl) (by kernel_rfl) (fun D s W bA kK hD hW hF hA hK => ?_) ?_
  · have x3 : bA.tmps[3]?.getD undef = (Value.pointer (some ⟨w.heap.size + 1, 0, none⟩)) := hA.o 3 rfl
    obtain ⟨⟨c0, z0⟩, ⟨c1, z1⟩, -⟩ := hF.zq.rules
    have hF := Lib.hid hF
    clear hA
    go_simp
    exact hK.out _ _ ⟨hF.out.zb, hF.out.zq, hF.out.v0, fun _ => rfl, hF.out.v2, hF.out.v3, hF.out.v4, hF.out.v5⟩
  refine FSteps.op rfl (dv := [0, 1]) (by kernel_rfl) rfl (by kernel_rfl) (by kernel_rfl) (fun D s W bA kK hD hW hF hA hK => ?_) ?_
  · have x5 : bA.tmps[5]?.getD undef = (Value.agg #[Value.int .i64 a.lo, Value.int .i64 a.hi, Value.int .i64 a.m, Value.int .i64 a.r, Value.int .i64 a.k]) := (hA.i 5 rfl rfl).trans (hF.v0 hW.1)
    have x6 : bA.tmps[6]?.getD undef = (Value.agg #[Value.int .i64 b.lo, Value.int .i64 b.hi, Value.int .i64 b.m, Value.int .i64 b.r, Value.int .i64 b.k]) := (hA.i 6 rfl rfl).trans (hF.v1 hW.2.1)
    have hF := Lib.hid hF
    clear hA
    go_simp
    (go_at_call 17; (with_reducible_and_instances refine (G.out _).mono ?_); rintro e W1 ⟨rfl, hb⟩; unfold abVal)
    (try go_wp2_with fail)
    exact hK.out _ _ ⟨hF.out.zb.on hb, Bks.on hb hF.out.zq, hF.out.v0, hF.out.v1, fun _ => rfl, hF.out.v3, hF.out.v4, hF.out.v5⟩
  refine FSteps.op rfl (dv := []) (by kernel_rfl) rfl (by kernel_rfl) (by kernel_rfl) (fun D s W bA kK hD hW hF hA hK => ?_) ?_
  · have x3 : bA.tmps[3]?.getD undef = (Value.pointer (some ⟨w.heap.size + 1, 0, none⟩)) := hA.o 3 rfl
    obtain ⟨⟨c0, z0⟩, ⟨c1, z1⟩, -⟩ := hF.zq.rules
    have hF := Lib.hid hF
    clear hA
    go_simp
    exact hK.out _ _ ⟨hF.out.zb, hF.out.zq, hF.out.v0, hF.out.v1, hF.out.v2, fun _ => rfl, hF.out.v4, hF.out.v5⟩
  refine FSteps.op rfl (dv := [2, 3]) (by kernel_rfl) rfl (by kernel_rfl) (by kernel_rfl) (fun D s W bA kK hD hW hF hA hK => ?_) ?_
  · have x7 : bA.tmps[7]?.getD undef = (Value.agg #[Value.int .i64 (joinS a b).lo, Value.int .i64 (joinS a b).hi, Value.int .i64 (joinS a b).m, Value.int .i64 (joinS a b).r, Value.int .i64 (joinS a b).k]) := (hA.i 7 rfl rfl).trans (hF.v2 hW.1)
    have x8 : bA.tmps[8]?.getD undef = (Value.agg #[Value.int .i64 b.lo, Value.int .i64 b.hi, Value.int .i64 b.m, Value.int .i64 b.r, Value.int .i64 b.k]) := (hA.i 8 rfl rfl).trans (hF.v3 hW.2.1)
    have hF := Lib.hid hF
    clear hA
    have he := ab_eql (joinS a b) b
    go_simp
    exact hK.out _ _ ⟨hF.out.zb, hF.out.zq, hF.out.v0, hF.out.v1, hF.out.v2, hF.out.v3, fun _ => rfl, hF.out.v5⟩
  refine FSteps.op rfl (dv := [4, 2, 0, 1, 2, 3, 4]) (by kernel_rfl) rfl (by kernel_rfl) (by kernel_rfl) (fun D s W bA kK hD hW hF hA hK => ?_) ?_
  · have x9 : bA.tmps[9]?.getD undef = (Value.bool (decide (joinS a b = b))) := (hA.i 9 rfl rfl).trans (hF.v4 hW.1)
    have hF := Lib.hid hF
    clear hA
    go_simp
    exact hK.out _ _ ⟨hF.out.zb, hF.out.zq, hF.out.v0, hF.out.v1, hF.out.v2, hF.out.v3, hF.out.v4, fun _ => rfl⟩
  exact FSteps.nil
  intro D s W hD hF
  obtain ⟨d0, d1, d2, d3, d4, d5, -⟩ := hD
  have y0 := hF.v0 d0
  have y1 := hF.v1 d1
  have y2 := hF.v2 d2
  have y3 := hF.v3 d3
  have y4 := hF.v4 d4
  have y5 := hF.v5 d5
  have hM := hF.zb
  have hB := hF.zq
  simp only [putAll, Act.put, List.setIfInBounds_toArray, List.set_cons_zero, List.set_cons_succ, y0, y1, y2, y3, y4, y5]
  clear y0 y1 y2 y3 y4 y5 hF d0 d1 d2 d3 d4 d5
  go_wp2_with fail
  go_ret
  exact ⟨rfl, hM.b⟩

end Go.Proofs.Ytlokjiniigfaiaa
