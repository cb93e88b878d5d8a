/- The contract of span.Join. -/
import Derived.Test.YtlokjiniigfaiaaSpGcd
import Derived.IntWalk
set_option linter.unusedVariables false
set_option linter.unusedSimpArgs false
namespace Go.Proofs.Ytlokjiniigfaiaa
open Go.ChangeShapes Go.WideShapes Go.ChangeAt Go.RowKit

/-- A block of five cells that may be written. -/
def ResB (w : World) (n : Nat) : Prop := ∃ v0 v1 v2 v3 v4 t, w.heap[n]? = some (.cells #[v0, v1, v2, v3, v4] t (0, 0))

theorem ResB.on {B n : Nat} {w w' : World} (h : ResB w n) (hb : Below B w w') (hn : n < B) : ResB w' n := by
  obtain ⟨v0, v1, v2, v3, v4, t, h⟩ := h
  exact ⟨v0, v1, v2, v3, v4, t, block_kept hb hn h⟩
theorem setCell_heap (w : World) (n i : Nat) (v : Value) (cs : Array Value) (t : TypeId) (h : w.heap[n]? = some (.cells cs t (0, 0))) : (w.setCell ⟨n, i, none⟩ v).heap[n]? = some (.cells (cs.setIfInBounds i v) t (0, 0)) := by
  rw [setCell_eq_setRow w n i cs t (0, 0) v h]
  exact setRow_heap w n _ _ t _ h
theorem ResB.set5 {w : World} {n : Nat} (h : ResB w n) (u0 u1 u2 u3 u4 : Value) : ResB (((((w.setCell ⟨n, 0, none⟩ u0).setCell ⟨n, 1, none⟩ u1).setCell ⟨n, 2, none⟩ u2).setCell ⟨n, 3, none⟩ u3).setCell ⟨n, 4, none⟩ u4) n := by
  obtain ⟨v0, v1, v2, v3, v4, t, h⟩ := h
  exact ⟨u0, u1, u2, u3, u4, t, setCell_heap _ n 4 _ _ t (setCell_heap _ n 3 _ _ t (setCell_heap _ n 2 _ _ t (setCell_heap _ n 1 _ _ t (setCell_heap _ n 0 _ _ t h))))⟩
theorem ResB.al {w : World} {n : Nat} (h : ResB w n) (o : Obj) : ResB (w.alloc o) n := by
  obtain ⟨v0, v1, v2, v3, v4, t, h⟩ := h
  exact ⟨v0, v1, v2, v3, v4, t, block_over o h⟩
theorem ResB.drew {w : World} {n : Nat} (h : ResB w n) : ResB w.drew n := h

theorem ints_one {w : World} {b : Nat} {x : Int} (h : w.cell? ⟨b, 0, none⟩ = some (.int .i64 x)) : IntsV w [x] (some ⟨b, 0, none⟩) 1 :=
  ⟨by simp, by unfold maxLen; omega, by simp, fun _ => ⟨b, 0, rfl, fun i hi => by
    match i, hi with
    | 0, _ => simpa using h⟩⟩
theorem ints_two {w : World} {b : Nat} {x y : Int} (h : w.cell? ⟨b, 0, none⟩ = some (.int .i64 x)) (k : w.cell? ⟨b, 1, none⟩ = some (.int .i64 y)) : IntsV w [x, y] (some ⟨b, 0, none⟩) 2 :=
  ⟨by simp, by unfold maxLen; omega, by simp, fun _ => ⟨b, 0, rfl, fun i hi => by
    match i, hi with
    | 0, _ => simpa using h
    | 1, _ => simpa using k⟩⟩

/-- What is kept while the function runs: what was there before, and the place of the result. -/
structure Kept (w : World) (n : Nat) (w' : World) : Prop where
  b : Below w.heap.size w w'
  r : ResB w' n
  h : w.heap.size ≤ n
  s : n < w'.heap.size

theorem Kept.on {w w1 w2 : World} {n : Nat} (h : Kept w n w1) (hb : Below w1.heap.size w1 w2) : Kept w n w2 :=
  ⟨h.b.trans (hb.mono h.b.size), h.r.on hb h.s, h.h, Nat.lt_of_lt_of_le h.s hb.size⟩
theorem Kept.al {w w1 : World} {n : Nat} (h : Kept w n w1) (o : Obj) : Kept w n (w1.alloc o) := ⟨h.b.alloc h.b.size o, h.r.al o, h.h, by have := h.s; simp; omega⟩
theorem Kept.drew {w w1 : World} {n : Nat} (h : Kept w n w1) : Kept w n w1.drew := ⟨h.b.drew, h.r.drew, h.h, h.s⟩
theorem Kept.set5 {w w1 : World} {n : Nat} (h : Kept w n w1) (u0 u1 u2 u3 u4 : Value) : Kept w n (((((w1.setCell ⟨n, 0, none⟩ u0).setCell ⟨n, 1, none⟩ u1).setCell ⟨n, 2, none⟩ u2).setCell ⟨n, 3, none⟩ u3).setCell ⟨n, 4, none⟩ u4) :=
  ⟨below_set5 h.b h.h _ _ _ _ _, h.r.set5 _ _ _ _ _, h.h, by have := h.s; simp [World.setCell]; omega⟩
theorem Kept.new {w w1 : World} {n : Nat} (hb : Below w.heap.size w w1) (hn : n = w1.heap.size) (v0 v1 v2 v3 v4 : Value) (t : TypeId) : Kept w n (w1.alloc (.cells #[v0, v1, v2, v3, v4] t)) := hn ▸
  ⟨hb.alloc hb.size _, ⟨v0, v1, v2, v3, v4, t, block_alloc _ _ _⟩, hb.size, by simp⟩

theorem row_on {w1 w2 : World} {m : Nat} {vs : Array Value} (h : ∀ i, w1.cell? ⟨m, i, none⟩ = vs[i]?) (hb : Below w1.heap.size w1 w2) (hm : m < w1.heap.size) : ∀ i, w2.cell? ⟨m, i, none⟩ = vs[i]? :=
  fun i => (hb.cell hm).trans (h i)
theorem row_al {w1 : World} {m : Nat} {vs : Array Value} (h : ∀ i, w1.cell? ⟨m, i, none⟩ = vs[i]?) (o : Obj) (hm : m < w1.heap.size) : ∀ i, (w1.alloc o).cell? ⟨m, i, none⟩ = vs[i]? :=
  row_on h ((Below.refl _ _).alloc (Nat.le_refl _) o) hm
theorem row_set {w1 : World} {m n j : Nat} {vs : Array Value} (h : ∀ i, w1.cell? ⟨m, i, none⟩ = vs[i]?) (v : Value) (hm : m ≠ n) : ∀ i, (w1.setCell ⟨n, j, none⟩ v).cell? ⟨m, i, none⟩ = vs[i]? :=
  fun i => by rw [← h i]; exact World.cell?_of_block (Below.heap_setCell _ _ _ _ hm)
theorem row_set5 {w1 : World} {m n : Nat} {vs : Array Value} (h : ∀ i, w1.cell? ⟨m, i, none⟩ = vs[i]?) (u0 u1 u2 u3 u4 : Value) (hm : m ≠ n) :
    ∀ i, (((((w1.setCell ⟨n, 0, none⟩ u0).setCell ⟨n, 1, none⟩ u1).setCell ⟨n, 2, none⟩ u2).setCell ⟨n, 3, none⟩ u3).setCell ⟨n, 4, none⟩ u4).cell? ⟨m, i, none⟩ = vs[i]? :=
  row_set (row_set (row_set (row_set (row_set h u0 hm) u1 hm) u2 hm) u3 hm) u4 hm
theorem row_new (w : World) (cs : Array Value) (t : TypeId) : ∀ i, (w.alloc (.cells cs t)).cell? ⟨w.heap.size, i, none⟩ = cs[i]? := cell_of (block_alloc _ _ _)
theorem row_new_at {w : World} {n : Nat} (hn : n = w.heap.size) (cs : Array Value) (t : TypeId) : ∀ i, (w.alloc (.cells cs t)).cell? ⟨n, i, none⟩ = cs[i]? := hn ▸ row_new w cs t
theorem row_drew {w1 : World} {m : Nat} {vs : Array Value} (h : ∀ i, w1.cell? ⟨m, i, none⟩ = vs[i]?) : ∀ i, w1.drew.cell? ⟨m, i, none⟩ = vs[i]? := h
/-- What a store into the place of the result wants. -/
theorem ResB.cells {w : World} {n : Nat} (h : ResB w n) : ∃ v0 v1 v2 v3 v4, (∀ i, w.cell? ⟨n, i, none⟩ = #[v0, v1, v2, v3, v4][i]?) ∧ ∀ i, w.frozen? ⟨n, i, none⟩ = false := by
  obtain ⟨v0, v1, v2, v3, v4, t, h⟩ := h
  exact ⟨v0, v1, v2, v3, v4, cell_of h, unfrozen_of h⟩

set_option maxHeartbeats 4000000 in
set_option maxRecDepth 100000 in
theorem join_raw (l1 h1 m1 r1 k1 l2 h2 m2 r2 k2 lo hi g : Int) (b1 : -4294967296 ≤ l1 ∧ l1 ≤ h1 ∧ h1 ≤ 4294967296) (b2 : -4294967296 ≤ l2 ∧ l2 ≤ h2 ∧ h2 ≤ 4294967296) (hlo : (if l2 < l1 then l2 else l1) = lo) (hhi : (if h1 < h2 then h2 else h1) = hi)
    
    (s1 : 0 ≤ (if l1 = h1 then 0 else m1) ∧ (if l1 = h1 then 0 else m1) ≤ 9223372036854775807) (s2 : 0 ≤ (if l2 = h2 then 0 else m2) ∧ (if l2 = h2 then 0 else m2) ≤ 9223372036854775807)
    (hg : gcdS (if l1 = h1 then 0 else m1) [(if l2 = h2 then 0 else m2), absS (l1 - l2)] = g) (hg2 : g ≤ 4611686018427387904) (hg3 : 0 < g ∨ lo = hi) (w : World) :
    Calls Try.prog 17 #[.agg #[.int .i64 l1, .int .i64 h1, .int .i64 m1, .int .i64 r1, .int .i64 k1], .agg #[.int .i64 l2, .int .i64 h2, .int .i64 m2, .int .i64 r2, .int .i64 k2]] w
      fun e w' => e = .returned (abVal (byS lo hi g (orS k1 k2))) ∧ Below w.heap.size w w' := by
  have G1 : Hid (∀ w', Calls Try.prog 44 #[.agg #[.int .i64 l1, .int .i64 h1, .int .i64 m1, .int .i64 r1, .int .i64 k1]] w' fun e w2 => e = .returned (.int .i64 (if l1 = h1 then 0 else m1)) ∧ Below w'.heap.size w' w2) := Lib.hid fun w' => step_is _ _ _ _ _ w'
  have G2 : Hid (∀ w', Calls Try.prog 44 #[.agg #[.int .i64 l2, .int .i64 h2, .int .i64 m2, .int .i64 r2, .int .i64 k2]] w' fun e w2 => e = .returned (.int .i64 (if l2 = h2 then 0 else m2)) ∧ Below w'.heap.size w' w2) := Lib.hid fun w' => step_is _ _ _ _ _ w'
  have hd : 0 ≤ absS (l1 - l2) ∧ absS (l1 - l2) ≤ 17179869184 := by unfold absS; omega
  have G3 : Hid (∀ w', Calls Try.prog 50 #[.int .i64 (l1 - l2)] w' fun e w2 => e = .returned (.int .i64 (absS (l1 - l2))) ∧ w' = w2) := Lib.hid fun w' => abs_is _ (by omega) w'
  generalize (if l1 = h1 then (0 : Int) else m1) = x1 at *
  generalize (if l2 = h2 then (0 : Int) else m2) = x2 at *
  generalize absS (l1 - l2) = d at *
  have G4 : Hid (∀ b w', w'.cell? ⟨b, 0, none⟩ = some (.int .i64 x2) → w'.cell? ⟨b, 1, none⟩ = some (.int .i64 d) → Calls Try.prog 49 #[.int .i64 x1, .slice (some ⟨b, 0, none⟩) 2 2] w' fun e w2 => e = .returned (.int .i64 g) ∧ Below w'.heap.size w' w2) := Lib.hid fun b w' q1 q2 => by
    have := gcd_is x1 [x2, d] s1 (by simp; omega) (some ⟨b, 0, none⟩) 2 w' (ints_two q1 q2) (by omega)
    rw [hg] at this
    exact this
  have hb2 : -4294967296 ≤ lo ∧ lo ≤ hi ∧ hi ≤ 4294967296 := by have e1 := hlo; have e2 := hhi; split at e1 <;> split at e2 <;> omega
  have G5 : Hid (∀ k w', Calls Try.prog 46 #[.int .i64 lo, .int .i64 hi, .int .i64 g, .int .i64 k] w' fun e w2 => e = .returned (abVal (byS lo hi g k)) ∧ Below w'.heap.size w' w2) := Lib.hid fun k w' => by_is _ _ g k (by omega) (by omega) (by omega) hg3 (by omega) (by omega) w'
  have hw : IntKind.i64.wrap (l1 - l2) = l1 - l2 := IntWalk.i64_in _ (by omega)
  clear hg hg2 hg3 hb2 hd s1 s2 b1 b2
  go_enter Try.func17, Try.ntmps17
  go_wp2_with fail
  refine wp_region_held_drew (S := (fun w' => (∀ i, w'.cell? ⟨w.heap.size, i, none⟩ = #[Value.int .i64 l1, .int .i64 h1, .int .i64 m1, .int .i64 r1, .int .i64 k1][i]?) ∧ (∀ i, w'.cell? ⟨w.heap.size + 1, i, none⟩ = #[Value.int .i64 l2, .int .i64 h2, .int .i64 m2, .int .i64 r2, .int .i64 k2][i]?) ∧ Kept w (w.heap.size + 2) w')) (by kernel_rfl) ?_ (fun hHeld => ?_)
  · exact ⟨row_drew (row_al (row_al (row_new _ _ _) _ (by simp)) _ (by simp; omega)), row_drew (row_al (row_new_at (by simp) _ _) _ (by simp)), (Kept.new (((Below.refl _ _).alloc (Nat.le_refl _) _).alloc (by simp) _) (by simp) _ _ _ _ _ _).drew⟩
  refine' wpAnyH_take (i := 0) rfl (by kernel_rfl) (by kernel_rfl) (by kernel_rfl) (fun _ _ _ h => h) (Or.inl ⟨by rfl, by (intro wS hSw; (try dsimp only at hSw); go_simp <;> with_reducible rfl)⟩) (by assumption) _
  (try simp only [Act.put, List.setIfInBounds_toArray, List.set_cons_zero, List.set_cons_succ])
  refine' wpAnyH_take (i := 1) rfl (by kernel_rfl) (by kernel_rfl) (by kernel_rfl) (fun _ _ _ h => h) (Or.inl ⟨by rfl, by (intro wS hSw; (try dsimp only at hSw); go_simp <;> with_reducible rfl)⟩) (by assumption) _
  (try simp only [Act.put, List.setIfInBounds_toArray, List.set_cons_zero, List.set_cons_succ])
  refine' wpAnyH_take (i := 2) rfl (by kernel_rfl) (by kernel_rfl) (by kernel_rfl) (fun _ _ _ h => h) (Or.inl ⟨by rfl, by (intro wS hSw; (try dsimp only at hSw); go_simp <;> with_reducible rfl)⟩) (by assumption) _
  (try simp only [Act.put, List.setIfInBounds_toArray, List.set_cons_zero, List.set_cons_succ])
  refine' wpAnyH_take (i := 3) rfl (by kernel_rfl) (by kernel_rfl) (by kernel_rfl) (fun _ _ _ h => h) (Or.inl ⟨by rfl, by (intro wS hSw; (try dsimp only at hSw); go_simp <;> with_reducible rfl)⟩) (by assumption) _
  (try simp only [Act.put, List.setIfInBounds_toArray, List.set_cons_zero, List.set_cons_succ])
  refine' wpAnyH_take (i := 4) rfl (by kernel_rfl) (by kernel_rfl) (by kernel_rfl) (fun _ _ _ h => h) (Or.inl ⟨by rfl, by (intro wS hSw; (try dsimp only at hSw); go_simp <;> with_reducible rfl)⟩) (by assumption) _
  (try simp only [Act.put, List.setIfInBounds_toArray, List.set_cons_zero, List.set_cons_succ])
  refine' wpAnyH_take (i := 5) rfl (by kernel_rfl) (by kernel_rfl) (by kernel_rfl) (fun _ _ _ h => h) (Or.inl ⟨by rfl, by (intro wS hSw; (try dsimp only at hSw); go_simp <;> with_reducible rfl)⟩) (by assumption) _
  (try simp only [Act.put, List.setIfInBounds_toArray, List.set_cons_zero, List.set_cons_succ])
  refine' wpAnyH_take (i := 6) rfl (by kernel_rfl) (by kernel_rfl) (by kernel_rfl) (fun _ _ _ h => h) (Or.inl ⟨by rfl, by (intro wS hSw; (try dsimp only at hSw); go_simp <;> with_reducible rfl)⟩) (by assumption) _
  (try simp only [Act.put, List.setIfInBounds_toArray, List.set_cons_zero, List.set_cons_succ])
  refine' wpAnyH_take (i := 7) rfl (by kernel_rfl) (by kernel_rfl) (by kernel_rfl) (fun _ _ _ h => h) (Or.inl ⟨by rfl, by (intro wS hSw; (try dsimp only at hSw); go_simp <;> with_reducible rfl)⟩) (by assumption) _
  (try simp only [Act.put, List.setIfInBounds_toArray, List.set_cons_zero, List.set_cons_succ])
  refine' wpAnyH_take (i := 8) rfl (by kernel_rfl) (by kernel_rfl) (by kernel_rfl) (fun _ _ _ h => h) (Or.inl ⟨by rfl, by (intro wS hSw; (try dsimp only at hSw); go_simp <;> with_reducible rfl)⟩) (by assumption) _
  (try simp only [Act.put, List.setIfInBounds_toArray, List.set_cons_zero, List.set_cons_succ])
  refine' wpAnyH_take (i := 9) rfl (by kernel_rfl) (by kernel_rfl) (by kernel_rfl) (fun _ _ _ h => h) (Or.inl ⟨by rfl, by (intro wS hSw; (try dsimp only at hSw); go_simp <;> with_reducible rfl)⟩) (by assumption) _
  (try simp only [Act.put, List.setIfInBounds_toArray, List.set_cons_zero, List.set_cons_succ])
  refine' wpAnyH_take (i := 10) rfl (by kernel_rfl) (by kernel_rfl) (by kernel_rfl) (fun _ _ _ h => h) (Or.inl ⟨by rfl, by (intro wS hSw; (try dsimp only at hSw); go_simp <;> with_reducible rfl)⟩) (by assumption) _
  (try simp only [Act.put, List.setIfInBounds_toArray, List.set_cons_zero, List.set_cons_succ])
  refine' wpAnyH_take (i := 12) rfl (by kernel_rfl) (by kernel_rfl) (by kernel_rfl) (fun _ _ _ h => h) (Or.inl ⟨by rfl, by (intro wS hSw; (try dsimp only at hSw); go_simp <;> with_reducible rfl)⟩) (by assumption) _
  (try simp only [Act.put, List.setIfInBounds_toArray, List.set_cons_zero, List.set_cons_succ])
  refine' wpAnyH_take (i := 14) rfl (by kernel_rfl) (by kernel_rfl) (by kernel_rfl) (fun _ _ _ h => h) (Or.inl ⟨by rfl, by (intro wS hSw; (try dsimp only at hSw); go_simp <;> with_reducible rfl)⟩) (by assumption) _
  (try simp only [Act.put, List.setIfInBounds_toArray, List.set_cons_zero, List.set_cons_succ])
  refine' wpAnyH_take (i := 15) rfl (by kernel_rfl) (by kernel_rfl) (by kernel_rfl) (fun _ _ _ h => h) (Or.inl ⟨by rfl, by (intro wS hSw; (try dsimp only at hSw); go_simp <;> with_reducible rfl)⟩) (by assumption) _
  (try simp only [Act.put, List.setIfInBounds_toArray, List.set_cons_zero, List.set_cons_succ])
  refine' wpAnyH_take (i := 16) rfl (by kernel_rfl) (by kernel_rfl) (by kernel_rfl) (fun _ _ _ h => h) (Or.inl ⟨by rfl, by (intro wS hSw; (try dsimp only at hSw); go_simp <;> with_reducible rfl)⟩) (by assumption) _
  (try simp only [Act.put, List.setIfInBounds_toArray, List.set_cons_zero, List.set_cons_succ])
  refine' wpAnyH_take (i := 17) rfl (by kernel_rfl) (by kernel_rfl) (by kernel_rfl) (fun _ _ _ h => h) (Or.inl ⟨by rfl, by (intro wS hSw; (try dsimp only at hSw); go_simp <;> with_reducible rfl)⟩) (by assumption) _
  (try simp only [Act.put, List.setIfInBounds_toArray, List.set_cons_zero, List.set_cons_succ])
  refine' wpAnyH_take (i := 18) rfl (by kernel_rfl) (by kernel_rfl) (by kernel_rfl) (fun _ _ _ h => h) (Or.inl ⟨by rfl, by (intro wS hSw; (try dsimp only at hSw); go_simp <;> with_reducible rfl)⟩) (by assumption) _
  (try simp only [Act.put, List.setIfInBounds_toArray, List.set_cons_zero, List.set_cons_succ])
  refine' wpAnyH_take (i := 22) rfl (by kernel_rfl) (by kernel_rfl) (by kernel_rfl) (fun _ _ _ h => h) (Or.inl ⟨by rfl, by (intro wS hSw; (try dsimp only at hSw); go_simp <;> with_reducible rfl)⟩) (by assumption) _
  (try simp only [Act.put, List.setIfInBounds_toArray, List.set_cons_zero, List.set_cons_succ])
  refine' wpAnyH_take (i := 23) rfl (by kernel_rfl) (by kernel_rfl) (by kernel_rfl) (fun _ _ _ h => h) (Or.inl ⟨by rfl, by (intro wS hSw; (try dsimp only at hSw); go_simp <;> with_reducible rfl)⟩) (by assumption) _
  (try simp only [Act.put, List.setIfInBounds_toArray, List.set_cons_zero, List.set_cons_succ])
  refine' wpAnyH_take (i := 24) rfl (by kernel_rfl) (by kernel_rfl) (by kernel_rfl) (fun _ _ _ h => h) (Or.inl ⟨by rfl, by (intro wS hSw; (try dsimp only at hSw); go_simp <;> with_reducible rfl)⟩) (by assumption) _
  (try simp only [Act.put, List.setIfInBounds_toArray, List.set_cons_zero, List.set_cons_succ])
  refine' wpAnyH_take (i := 25) rfl (by kernel_rfl) (by kernel_rfl) (by kernel_rfl) (fun _ _ _ h => h) (Or.inl ⟨by rfl, by (intro wS hSw; (try dsimp only at hSw); go_simp <;> with_reducible rfl)⟩) (by assumption) _
  (try simp only [Act.put, List.setIfInBounds_toArray, List.set_cons_zero, List.set_cons_succ])
  refine' wpAnyH_take (i := 26) rfl (by kernel_rfl) (by kernel_rfl) (by kernel_rfl) (fun _ _ _ h => h) (Or.inl ⟨by rfl, by (intro wS hSw; (try dsimp only at hSw); go_simp <;> with_reducible rfl)⟩) (by assumption) _
  (try simp only [Act.put, List.setIfInBounds_toArray, List.set_cons_zero, List.set_cons_succ])
  refine wpAnyH_ready (rs := [11]) (by kernel_rfl) (by simp) ?_
  refine AllReadyH.cons rfl (fun K hK => ?_) AllReadyH.nil
  go_simp
  (go_at_call 44; (with_reducible_and_instances refine (G1.out _).mono ?_); rintro e w1 ⟨rfl, hb⟩)
  (try go_wp2_with fail)
  refine hK.out _ _ ?_ (fun hHeld2 => ?_)
  · exact ⟨row_on hHeld.1 hb (by have := hHeld.2.2.s; omega), row_on hHeld.2.1 hb (by have := hHeld.2.2.s; omega), hHeld.2.2.on hb⟩
  clear hK K hHeld; have hHeld := hHeld2; clear hHeld2
  (try simp only [Act.put, List.setIfInBounds_toArray, List.set_cons_zero, List.set_cons_succ])
  refine wpAnyH_ready (rs := [13]) (by kernel_rfl) (by simp) ?_
  refine AllReadyH.cons rfl (fun K hK => ?_) AllReadyH.nil
  go_simp
  (go_at_call 44; (with_reducible_and_instances refine (G2.out _).mono ?_); rintro e w1 ⟨rfl, hb⟩)
  (try go_wp2_with fail)
  refine hK.out _ _ ?_ (fun hHeld2 => ?_)
  · exact ⟨row_on hHeld.1 hb (by have := hHeld.2.2.s; omega), row_on hHeld.2.1 hb (by have := hHeld.2.2.s; omega), hHeld.2.2.on hb⟩
  clear hK K hHeld; have hHeld := hHeld2; clear hHeld2
  (try simp only [Act.put, List.setIfInBounds_toArray, List.set_cons_zero, List.set_cons_succ])
  refine wpAnyH_ready (rs := [19]) (by kernel_rfl) (by simp) ?_
  refine AllReadyH.cons rfl (fun K hK => ?_) AllReadyH.nil
  go_simp
  (go_at_call 50; (with_reducible_and_instances refine (G3.out _).mono ?_); rintro e w1 ⟨rfl, rfl⟩)
  (try go_wp2_with fail)
  refine hK.out _ _ ?_ (fun hHeld2 => ?_)
  · exact hHeld
  clear hK K hHeld; have hHeld := hHeld2; clear hHeld2
  (try simp only [Act.put, List.setIfInBounds_toArray, List.set_cons_zero, List.set_cons_succ])
  refine wpAnyH_ready (rs := [20]) (by kernel_rfl) (by simp) ?_
  refine AllReadyH.cons rfl (fun K hK => ?_) AllReadyH.nil
  go_simp
  refine hK.out _ _ ?_ (fun hHeld2 => ?_)
  · exact ⟨row_al hHeld.1 _ (by have := hHeld.2.2.s; omega), row_al hHeld.2.1 _ (by have := hHeld.2.2.s; omega), hHeld.2.2.al _⟩
  clear hK K hHeld; have hHeld := hHeld2; clear hHeld2
  (try simp only [Act.put, List.setIfInBounds_toArray, List.set_cons_zero, List.set_cons_succ])
  refine wpAnyH_ready (rs := [21]) (by kernel_rfl) (by simp) ?_
  refine AllReadyH.cons rfl (fun K hK => ?_) AllReadyH.nil
  go_simp
  (go_at_call 49; (with_reducible_and_instances refine (G4.out _ _ (by go_simp) (by go_simp)).mono ?_); rintro e w1 ⟨rfl, hb⟩)
  (try go_wp2_with fail)
  refine hK.out _ _ ?_ (fun hHeld2 => ?_)
  · exact ⟨row_on hHeld.1 hb (by have := hHeld.2.2.s; omega), row_on hHeld.2.1 hb (by have := hHeld.2.2.s; omega), hHeld.2.2.on hb⟩
  clear hK K hHeld; have hHeld := hHeld2; clear hHeld2
  (try simp only [Act.put, List.setIfInBounds_toArray, List.set_cons_zero, List.set_cons_succ])
  refine wpAnyH_ready (rs := [27]) (by kernel_rfl) (by simp) ?_
  refine AllReadyH.cons rfl (fun K hK => ?_) AllReadyH.nil
  go_simp
  (go_at_call 46; (with_reducible_and_instances refine (G5.out _ _).mono ?_); rintro e w1 ⟨rfl, hb⟩; obtain ⟨z0, z1, z2, z3, z4, qc, qf⟩ := (hHeld.2.2.r.on hb hHeld.2.2.s).cells; unfold abVal)
  (try go_wp2_with fail)
  refine hK.out _ _ ?_ (fun hHeld2 => ?_)
  · exact ⟨row_on hHeld.1 hb (by have := hHeld.2.2.s; omega), row_on hHeld.2.1 hb (by have := hHeld.2.2.s; omega), hHeld.2.2.on hb⟩
  clear hK K hHeld; have hHeld := hHeld2; clear hHeld2
  (try simp only [Act.put, List.setIfInBounds_toArray, List.set_cons_zero, List.set_cons_succ])
  refine wpAnyH_ready (rs := [28]) (by kernel_rfl) (by simp) ?_
  refine AllReadyH.cons rfl (fun K hK => ?_) AllReadyH.nil
  go_simp
  refine hK.out _ _ ?_ (fun hHeld2 => ?_)
  · exact ⟨row_set5 hHeld.1 _ _ _ _ _ (by omega), row_set5 hHeld.2.1 _ _ _ _ _ (by omega), hHeld.2.2.set5 _ _ _ _ _⟩
  clear hK K hHeld; have hHeld := hHeld2; clear hHeld2
  (try simp only [Act.put, List.setIfInBounds_toArray, List.set_cons_zero, List.set_cons_succ])
  refine wpAnyH_done (by kernel_rfl) ?_ _
  go_wp2_with fail
  exact bodyPost_ret (v := abVal (byS lo hi g (bits .or .i64 k1 k2))) (by simp [results, Try.results17, go_sem, abVal, qc]) rfl ⟨rfl, hHeld.2.2.b⟩

end Go.Proofs.Ytlokjiniigfaiaa
