/- Contracts of span.All, span.Of, span.Valid, span.Leq, and of parolelaw10.set and one. -/
import Derived.Test.YtlokjiniigfaiaaSpJoin
set_option linter.unusedVariables false
set_option linter.unusedSimpArgs false
namespace Go.Proofs.Ytlokjiniigfaiaa
open Go.ChangeShapes Go.WideShapes Go.ChangeAt Go.RowKit

theorem by_G (lo hi m k : Int) (h1 : -4611686018427387904 ≤ lo) (h2 : lo ≤ hi) (h3 : hi ≤ 4611686018427387904) (hm : 0 < m ∨ lo = hi) (hm2 : m ≤ 9223372036854775807) (hd : hi - lo ≤ 4611686018427387904) :
    Hid (∀ w, Calls Try.prog 46 #[.int .i64 lo, .int .i64 hi, .int .i64 m, .int .i64 k] w fun e w' => e = .returned (abVal (byS lo hi m k)) ∧ Below w.heap.size w w') :=
  Lib.hid fun w => by_is lo hi m k h1 h2 h3 hm hm2 hd w

set_option maxHeartbeats 1000000 in
theorem all_is (k : Int) (w : World) :
    Calls Try.prog 32 #[.int .i64 k] w fun e w' => e = .returned (abVal (byS (-2147483648) 2147483647 1 k)) ∧ Below w.heap.size w w' := by
  have G := by_G (-2147483648) 2147483647 1 k (by omega) (by omega) (by omega) (by omega) (by omega) (by omega)
  generalize byS (-2147483648) 2147483647 1 k = z at *
  go_enter Try.func32, Try.ntmps32
  go_wp2_with (go_at_call 46; (with_reducible_and_instances refine (G.out _).mono ?_); rintro e w1 ⟨rfl, hb⟩; have hK := (Kept.new (Below.refl w.heap.size w) rfl _ _ _ _ _ _).on hb; obtain ⟨z0, z1, z2, z3, z4, qc, qf⟩ := hK.r.cells; unfold abVal)
  exact bodyPost_ret (v := abVal z) (by simp [results, Try.results32, go_sem, abVal, qc]) rfl ⟨rfl, (hK.set5 _ _ _ _ _).b⟩

set_option maxHeartbeats 1000000 in
theorem of_is (v k : Int) (hv : -2147483648 ≤ v ∧ v ≤ 2147483647) (w : World) :
    Calls Try.prog 24 #[.agg #[.int .i64 v, .int .i64 k]] w fun e w' => e = .returned (abVal (byS v v 0 k)) ∧ Below w.heap.size w w' := by
  have G := by_G v v 0 k (by omega) (by omega) (by omega) (by omega) (by omega) (by omega)
  generalize byS v v 0 k = z at *
  go_enter Try.func24, Try.ntmps24
  go_wp2_with (go_at_call 46; (with_reducible_and_instances refine (G.out _).mono ?_); rintro e w1 ⟨rfl, hb⟩; have hK := (Kept.new ((Below.refl w.heap.size w).alloc (Nat.le_refl _) _) (n := w.heap.size + 1) (by simp) _ _ _ _ _ _).on hb; obtain ⟨z0, z1, z2, z3, z4, qc, qf⟩ := hK.r.cells; unfold abVal)
  exact bodyPost_ret (v := abVal z) (by simp [results, Try.results24, go_sem, abVal, qc]) rfl ⟨rfl, (hK.set5 _ _ _ _ _).b⟩

/-- What the law's own 'set' answers. -/
def setS (lo hi m : Int) : Ab := if lo = hi then ⟨lo, lo, 1, 0, 0⟩ else ⟨lo, hi, m, lo % m, 0⟩

set_option maxHeartbeats 1000000 in
theorem set_is (lo hi m : Int) (hm : 0 < m) (hm2 : m ≤ 4611686018427387904) (w : World) :
    Calls Try.prog 40 #[.int .i64 lo, .int .i64 hi, .int .i64 m] w fun e w' => e = .returned (abVal (setS lo hi m)) ∧ Below w.heap.size w w' := by
  by_cases h : lo = hi
  · subst h
    go_enter Try.func40, Try.ntmps40
    go_wp2
    exact bodyPost_ret (v := abVal ⟨lo, lo, 1, 0, 0⟩) (by simp [results, Try.results40, go_sem, abVal]) rfl ⟨by simp [setS], (Below.refl _ _).alloc (Nat.le_refl _) _⟩
  · have h0 : ¬ m = 0 := by omega
    have ht : (lo == hi) = false := by simpa using h
    have h1 := tmod_bd lo m hm
    have H := Lib.hid (show setS lo hi m = ⟨lo, hi, m, (lo.tmod m + m) % m, 0⟩ by unfold setS; rw [if_neg h, ← Int.tmod_eq_emod_of_nonneg (a := lo.tmod m + m) (by omega), emod_of_tmod lo m hm])
    clear h
    go_enter Try.func40, Try.ntmps40
    go_wp2
    exact bodyPost_ret (v := abVal ⟨lo, hi, m, (lo.tmod m + m) % m, 0⟩) (by simp [results, Try.results40, go_sem, abVal]) rfl ⟨by rw [H.out], (Below.refl _ _).alloc (Nat.le_refl _) _⟩

set_option maxHeartbeats 1000000 in
theorem one_is (v : Int) (w : World) :
    Calls Try.prog 39 #[.int .i64 v] w fun e w' => e = .returned (abVal (setS v v 1)) ∧ Below w.heap.size w w' := by
  have G : Hid (∀ w, Calls Try.prog 40 #[.int .i64 v, .int .i64 v, .int .i64 1] w fun e w' => e = .returned (abVal (setS v v 1)) ∧ Below w.heap.size w w') := Lib.hid fun w => set_is v v 1 (by omega) (by omega) w
  generalize setS v v 1 = z at *
  go_enter Try.func39, Try.ntmps39
  go_wp2_with (go_at_call 40; (with_reducible_and_instances refine (G.out _).mono ?_); rintro e w1 ⟨rfl, hb⟩; have hK := (Kept.new (Below.refl w.heap.size w) rfl _ _ _ _ _ _).on hb; obtain ⟨z0, z1, z2, z3, z4, qc, qf⟩ := hK.r.cells; unfold abVal)
  exact bodyPost_ret (v := abVal z) (by simp [results, Try.results39, go_sem, abVal, qc]) rfl ⟨rfl, (hK.set5 _ _ _ _ _).b⟩

instance : DecidableEq Ab := fun a b => by
  cases a; cases b
  simp only [Ab.mk.injEq]
  infer_instance

/-- Two sets, compared field by field. -/
theorem eq_rule (z : Ab) (l h m r k : Int) (w : World) : (if z.lo = l then if z.hi = h then if z.m = m then if z.r = r then if z.k = k then Result.ok (Next.value (Value.bool true)) w else Result.ok (Next.value (Value.bool false)) w
    else Result.ok (Next.value (Value.bool false)) w else Result.ok (Next.value (Value.bool false)) w else Result.ok (Next.value (Value.bool false)) w else Result.ok (Next.value (Value.bool false)) w) = Result.ok (Next.value (Value.bool (decide (z = ⟨l, h, m, r, k⟩)))) w := by
  obtain ⟨z0, z1, z2, z3, z4⟩ := z
  by_cases h0 : z0 = l <;> by_cases h1 : z1 = h <;> by_cases h2 : z2 = m <;> by_cases h3 : z3 = r <;> by_cases h4 : z4 = k <;> simp [h0, h1, h2, h3, h4]

set_option maxRecDepth 100000 in
set_option maxHeartbeats 4000000 in
theorem leq_raw (l1 h1 m1 r1 k1 l2 h2 m2 r2 k2 : Int) (z : Ab) (q : Bool) (hq : q = decide (z = ⟨l2, h2, m2, r2, k2⟩)) (w : World)
    (hj : ∀ w, Calls Try.prog 17 #[.agg #[.int .i64 l1, .int .i64 h1, .int .i64 m1, .int .i64 r1, .int .i64 k1], .agg #[.int .i64 l2, .int .i64 h2, .int .i64 m2, .int .i64 r2, .int .i64 k2]] w fun e w' => e = .returned (abVal z) ∧ Below w.heap.size w w') :
    Calls Try.prog 18 #[.agg #[.int .i64 l1, .int .i64 h1, .int .i64 m1, .int .i64 r1, .int .i64 k1], .agg #[.int .i64 l2, .int .i64 h2, .int .i64 m2, .int .i64 r2, .int .i64 k2]] w
      fun e w' => e = .returned (.bool q) ∧ Below w.heap.size w w' := by
  have hcmp := eq_rule z l2 h2 m2 r2 k2
  rw [← hq] at hcmp
  clear hq
  have G := Lib.hid hj
  clear hj
  go_enter Try.func18, Try.ntmps18
  go_wp2_with fail
  refine wp_region_held_drew (S := (fun w' => (∀ i, w'.cell? ⟨w.heap.size, i, none⟩ = #[Value.int .i64 l1, .int .i64 h1, .int .i64 m1, .int .i64 r1, .int .i64 k1][i]?) ∧ (∀ i, w'.cell? ⟨w.heap.size + 1, i, none⟩ = #[Value.int .i64 l2, .int .i64 h2, .int .i64 m2, .int .i64 r2, .int .i64 k2][i]?) ∧ Below w.heap.size w w' ∧ w.heap.size + 1 < w'.heap.size)) (by kernel_rfl) ?_ (fun hHeld => ?_)
  · exact ⟨row_drew (row_al (row_new _ _ _) _ (by simp)), row_drew (row_new_at (by simp) _ _), (((Below.refl _ _).alloc (Nat.le_refl _) _).alloc (by simp) _).drew, by simp⟩
  refine' wpAnyH_take (i := 0) rfl (by kernel_rfl) (by kernel_rfl) (by kernel_rfl) (fun _ _ _ h => h) (Or.inl ⟨by rfl, by (intro wS hSw; (try dsimp only at hSw); go_simp <;> with_reducible rfl)⟩) (by assumption) _
  (try simp only [Act.put, List.getElem_toArray, List.getElem_cons_succ, List.getElem_cons_zero, List.setIfInBounds_toArray, List.set_cons_zero, List.set_cons_succ])
  refine' wpAnyH_take (i := 1) rfl (by kernel_rfl) (by kernel_rfl) (by kernel_rfl) (fun _ _ _ h => h) (Or.inl ⟨by rfl, by (intro wS hSw; (try dsimp only at hSw); go_simp <;> with_reducible rfl)⟩) (by assumption) _
  (try simp only [Act.put, List.getElem_toArray, List.getElem_cons_succ, List.getElem_cons_zero, List.setIfInBounds_toArray, List.set_cons_zero, List.set_cons_succ])
  refine' wpAnyH_take (i := 3) rfl (by kernel_rfl) (by kernel_rfl) (by kernel_rfl) (fun _ _ _ h => h) (Or.inl ⟨by rfl, by (intro wS hSw; (try dsimp only at hSw); go_simp <;> with_reducible rfl)⟩) (by assumption) _
  (try simp only [Act.put, List.getElem_toArray, List.getElem_cons_succ, List.getElem_cons_zero, List.setIfInBounds_toArray, List.set_cons_zero, List.set_cons_succ])
  refine wpAnyH_ready (rs := [2]) (by kernel_rfl) (by simp) ?_
  refine AllReadyH.cons rfl (fun K hK => ?_) AllReadyH.nil
  go_simp
  (go_at_call 17; (with_reducible_and_instances refine (G.out _).mono ?_); rintro e w1 ⟨rfl, hb⟩; unfold abVal)
  (try go_wp2_with fail)
  refine hK.out _ _ ?_ (fun hHeld2 => ?_)
  · exact ⟨row_on hHeld.1 hb (by have := hHeld.2.2.2; omega), row_on hHeld.2.1 hb hHeld.2.2.2, hHeld.2.2.1.trans (hb.mono hHeld.2.2.1.size), Nat.lt_of_lt_of_le hHeld.2.2.2 hb.size⟩
  clear hK K hHeld; have hHeld := hHeld2; clear hHeld2
  (try simp only [Act.put, List.getElem_toArray, List.getElem_cons_succ, List.getElem_cons_zero, List.setIfInBounds_toArray, List.set_cons_zero, List.set_cons_succ])
  refine' wpAnyH_take (i := 4) rfl (by kernel_rfl) (by kernel_rfl) (by kernel_rfl) (fun _ _ _ h => h) (Or.inl ⟨by rfl, by (intro wS hSw; (try dsimp only at hSw); go_simp <;> with_reducible rfl)⟩) (by assumption) _
  (try simp only [Act.put, List.getElem_toArray, List.getElem_cons_succ, List.getElem_cons_zero, List.setIfInBounds_toArray, List.set_cons_zero, List.set_cons_succ])
  refine' wpAnyH_take (i := 5) rfl (by kernel_rfl) (by kernel_rfl) (by kernel_rfl) (fun _ _ _ h => h) (Or.inl ⟨by rfl, by (intro wS hSw; (try dsimp only at hSw); go_simp <;> with_reducible rfl)⟩) (by assumption) _
  (try simp only [Act.put, List.getElem_toArray, List.getElem_cons_succ, List.getElem_cons_zero, List.setIfInBounds_toArray, List.set_cons_zero, List.set_cons_succ])
  refine wpAnyH_done (by kernel_rfl) ?_ _
  go_wp2_with fail
  go_ret
  exact ⟨rfl, hHeld.2.2.1⟩

end Go.Proofs.Ytlokjiniigfaiaa
