/- Contracts of span.operators, and of span.Op by the contract of the operator's own method. -/
import Derived.Test.YtlokjiniigfaiaaSpKeep
set_option linter.unusedVariables false
set_option linter.unusedSimpArgs false
namespace Go.Proofs.Ytlokjiniigfaiaa
open Go.ChangeShapes Go.WideShapes Go.ChangeAt Go.RowKit

theorem run_store_func {P : Program} (w : World) (a : Addr) (f : Fn) (x : Array Value) (y : Array Value) (m : Mode) : (store a (.func f x y) m).run P w = stored P w a (.func f x y) m := run_store P w a _ m rfl
attribute [local go_sem] run_store_func

theorem index_4 (w : World) : (Instr.index 75 (.agg #[.func (.func 74) #[] #[], .func (.func 75) #[] #[], .func (.func 76) #[] #[], .func (.func 77) #[] #[], .func (.func 78) #[] #[], .func (.func 79) #[] #[], .func (.func 80) #[] #[]]) (.int .i64 (IntKind.i64.wrap 0))).run Try.prog w = .ok (.func (.func 74) #[] #[]) w := by
  have hu := Try.underlying75
  rw [IntWalk.i64_in 0 (by omega)]
  simp [Instr.index, run_underlying hu, go_sem]
theorem index_5 (w : World) : (Instr.index 75 (.agg #[.func (.func 74) #[] #[], .func (.func 75) #[] #[], .func (.func 76) #[] #[], .func (.func 77) #[] #[], .func (.func 78) #[] #[], .func (.func 79) #[] #[], .func (.func 80) #[] #[]]) (.int .i64 (IntKind.i64.wrap 1))).run Try.prog w = .ok (.func (.func 75) #[] #[]) w := by
  have hu := Try.underlying75
  rw [IntWalk.i64_in 1 (by omega)]
  simp [Instr.index, run_underlying hu, go_sem]
theorem index_6 (w : World) : (Instr.index 75 (.agg #[.func (.func 74) #[] #[], .func (.func 75) #[] #[], .func (.func 76) #[] #[], .func (.func 77) #[] #[], .func (.func 78) #[] #[], .func (.func 79) #[] #[], .func (.func 80) #[] #[]]) (.int .i64 (IntKind.i64.wrap 2))).run Try.prog w = .ok (.func (.func 76) #[] #[]) w := by
  have hu := Try.underlying75
  rw [IntWalk.i64_in 2 (by omega)]
  simp [Instr.index, run_underlying hu, go_sem]
theorem index_7 (w : World) : (Instr.index 75 (.agg #[.func (.func 74) #[] #[], .func (.func 75) #[] #[], .func (.func 76) #[] #[], .func (.func 77) #[] #[], .func (.func 78) #[] #[], .func (.func 79) #[] #[], .func (.func 80) #[] #[]]) (.int .i64 (IntKind.i64.wrap 3))).run Try.prog w = .ok (.func (.func 77) #[] #[]) w := by
  have hu := Try.underlying75
  rw [IntWalk.i64_in 3 (by omega)]
  simp [Instr.index, run_underlying hu, go_sem]
theorem index_8 (w : World) : (Instr.index 75 (.agg #[.func (.func 74) #[] #[], .func (.func 75) #[] #[], .func (.func 76) #[] #[], .func (.func 77) #[] #[], .func (.func 78) #[] #[], .func (.func 79) #[] #[], .func (.func 80) #[] #[]]) (.int .i64 (IntKind.i64.wrap 4))).run Try.prog w = .ok (.func (.func 78) #[] #[]) w := by
  have hu := Try.underlying75
  rw [IntWalk.i64_in 4 (by omega)]
  simp [Instr.index, run_underlying hu, go_sem]
theorem index_9 (w : World) : (Instr.index 75 (.agg #[.func (.func 74) #[] #[], .func (.func 75) #[] #[], .func (.func 76) #[] #[], .func (.func 77) #[] #[], .func (.func 78) #[] #[], .func (.func 79) #[] #[], .func (.func 80) #[] #[]]) (.int .i64 (IntKind.i64.wrap 5))).run Try.prog w = .ok (.func (.func 79) #[] #[]) w := by
  have hu := Try.underlying75
  rw [IntWalk.i64_in 5 (by omega)]
  simp [Instr.index, run_underlying hu, go_sem]
theorem index_10 (w : World) : (Instr.index 75 (.agg #[.func (.func 74) #[] #[], .func (.func 75) #[] #[], .func (.func 76) #[] #[], .func (.func 77) #[] #[], .func (.func 78) #[] #[], .func (.func 79) #[] #[], .func (.func 80) #[] #[]]) (.int .i64 (IntKind.i64.wrap 6))).run Try.prog w = .ok (.func (.func 80) #[] #[]) w := by
  have hu := Try.underlying75
  rw [IntWalk.i64_in 6 (by omega)]
  simp [Instr.index, run_underlying hu, go_sem]

set_option maxHeartbeats 1000000 in
theorem spanops_is (w : World) : Calls Try.prog 45 #[] w fun e w' => e = .returned (.agg #[.func (.func 74) #[] #[], .func (.func 75) #[] #[], .func (.func 76) #[] #[], .func (.func 77) #[] #[], .func (.func 78) #[] #[], .func (.func 79) #[] #[], .func (.func 80) #[] #[]]) ∧ Below w.heap.size w w' := by
  go_enter Try.func45, Try.ntmps45
  go_wp2
  exact bodyPost_ret (v := .agg #[.func (.func 74) #[] #[], .func (.func 75) #[] #[], .func (.func 76) #[] #[], .func (.func 77) #[] #[], .func (.func 78) #[] #[], .func (.func 79) #[] #[], .func (.func 80) #[] #[]]) (by simp [results, Try.results45, go_sem]) rfl ⟨rfl, (Below.refl _ _).alloc (Nat.le_refl _) _⟩

set_option maxRecDepth 100000 in
set_option maxHeartbeats 4000000 in
theorem op4_is (l1 h1 m1 r1 k1 l2 h2 m2 r2 k2 : Int) (z : Ab)
    (hx : ((if l1 = h1 then (0 : Int) else m1) == 0) = false ∨ (((if l1 = h1 then (0 : Int) else m1) == 0) = true ∧ ((if l2 = h2 then (0 : Int) else m2) == 0) = false))
    (hP : ∀ w, Calls Try.prog 74 #[.agg #[.int .i64 l1, .int .i64 h1, .int .i64 m1, .int .i64 r1, .int .i64 k1, .int .i64 l2, .int .i64 h2, .int .i64 m2, .int .i64 r2, .int .i64 k2, .int .i64 (bits .or .i64 k1 k2)]] w fun e w' => e = .returned (abVal z) ∧ Below w.heap.size w w') (w : World) :
    Calls Try.prog 14 #[.int .i64 4, .agg #[.int .i64 l1, .int .i64 h1, .int .i64 m1, .int .i64 r1, .int .i64 k1], .agg #[.int .i64 l2, .int .i64 h2, .int .i64 m2, .int .i64 r2, .int .i64 k2]] w fun e w' => e = .returned (abVal z) ∧ Below w.heap.size w w' := by
  have GP := Lib.hid hP
  have hidx := index_4
  have GO := Lib.hid spanops_is
  have G1 : Hid (∀ w', Calls Try.prog 44 #[.agg #[.int .i64 l1, .int .i64 h1, .int .i64 m1, .int .i64 r1, .int .i64 k1]] w' fun e w2 => e = .returned (.int .i64 (if l1 = h1 then 0 else m1)) ∧ Below w'.heap.size w' w2) := Lib.hid fun w' => step_is _ _ _ _ _ w'
  have G2 : Hid (∀ w', Calls Try.prog 44 #[.agg #[.int .i64 l2, .int .i64 h2, .int .i64 m2, .int .i64 r2, .int .i64 k2]] w' fun e w2 => e = .returned (.int .i64 (if l2 = h2 then 0 else m2)) ∧ Below w'.heap.size w' w2) := Lib.hid fun w' => step_is _ _ _ _ _ w'
  generalize (if l1 = h1 then (0 : Int) else m1) = x1 at *
  generalize (if l2 = h2 then (0 : Int) else m2) = x2 at *
  clear hP
  rcases hx with hx | ⟨hx, hy⟩
  all_goals
    go_enter Try.func14, Try.ntmps14
    go_wp2_with fail
    refine (G1.out _).mono ?_
    rintro e w1 ⟨rfl, hb⟩
    have kR : Kept w (w.heap.size + 2) w1 := ((Kept.new (((Below.refl _ _).alloc (Nat.le_refl _) _).alloc (by simp) _) (by simp) _ _ _ _ _ _).al _).on hb
    have rb := row_on (row_al (row_al (row_new_at (n := w.heap.size + 1) (by simp) _ _) _ (by simp)) _ (by simp; try omega)) hb (by simp; try omega)
    have rp := row_on (row_new_at (n := w.heap.size + 3) (by simp) _ _) hb (by simp)
    have sp : w.heap.size + 3 < w1.heap.size := by have := hb.size; simp at this; omega
    clear hb
    go_wp2_with fail
    first
    | (refine (G2.out _).mono ?_
       rintro e w2 ⟨rfl, hb⟩
       have kR := kR.on hb
       have rp := row_on rp hb sp
       have sp := Nat.lt_of_lt_of_le sp hb.size
       clear hb
       go_wp2_with fail)
    | skip
    refine wp_region_held_drew (S := (fun w' => (∀ i, w'.cell? ⟨w.heap.size + 3, i, none⟩ = #[Value.int .i64 l1, .int .i64 h1, .int .i64 m1, .int .i64 r1, .int .i64 k1, .int .i64 l2, .int .i64 h2, .int .i64 m2, .int .i64 r2, .int .i64 k2, .int .i64 (bits .or .i64 k1 k2)][i]?) ∧ w.heap.size + 3 < w'.heap.size ∧ Kept w (w.heap.size + 2) w')) (by kernel_rfl) ?_ (fun hHeld => ?_)
    · exact ⟨row_drew rp, sp, kR.drew⟩
    refine' wpAnyH_take (i := 1) rfl (by kernel_rfl) (by kernel_rfl) (by kernel_rfl) (fun _ _ _ h => h) (Or.inl ⟨by rfl, by (intro wS hSw; (try dsimp only at hSw); go_simp <;> with_reducible rfl)⟩) (by assumption) _
    (try simp only [Act.put, List.getElem_toArray, List.getElem_cons_succ, List.getElem_cons_zero, List.setIfInBounds_toArray, List.set_cons_zero, List.set_cons_succ])
    refine' wpAnyH_take (i := 2) rfl (by kernel_rfl) (by kernel_rfl) (by kernel_rfl) (fun _ _ _ h => h) (Or.inl ⟨by rfl, by (intro wS hSw; (try dsimp only at hSw); go_simp <;> with_reducible rfl)⟩) (by assumption) _
    (try simp only [Act.put, List.getElem_toArray, List.getElem_cons_succ, List.getElem_cons_zero, List.setIfInBounds_toArray, List.set_cons_zero, List.set_cons_succ])
    refine' wpAnyH_take (i := 4) rfl (by kernel_rfl) (by kernel_rfl) (by kernel_rfl) (fun _ _ _ h => h) (Or.inl ⟨by rfl, by (intro wS hSw; (try dsimp only at hSw); go_simp <;> with_reducible rfl)⟩) (by assumption) _
    (try simp only [Act.put, List.getElem_toArray, List.getElem_cons_succ, List.getElem_cons_zero, List.setIfInBounds_toArray, List.set_cons_zero, List.set_cons_succ])
    refine wpAnyH_ready (rs := [0]) (by kernel_rfl) (by simp) ?_
    refine AllReadyH.cons rfl (fun K hK => ?_) AllReadyH.nil
    go_simp
    (go_at_call 45; (with_reducible_and_instances refine (GO.out _).mono ?_); rintro e w5 ⟨rfl, hb⟩)
    (try go_wp2_with fail)
    refine hK.out _ _ ?_ (fun hHeld2 => ?_)
    · exact ⟨row_on hHeld.1 hb hHeld.2.1, Nat.lt_of_lt_of_le hHeld.2.1 hb.size, hHeld.2.2.on hb⟩
    clear hK K hHeld; have hHeld := hHeld2; clear hHeld2
    (try simp only [Act.put, List.getElem_toArray, List.getElem_cons_succ, List.getElem_cons_zero, List.setIfInBounds_toArray, List.set_cons_zero, List.set_cons_succ])
    refine' wpAnyH_take (i := 3) rfl (by kernel_rfl) (by kernel_rfl) (by kernel_rfl) (fun _ _ _ h => h) (Or.inl ⟨by rfl, by (intro wS hSw; (try dsimp only at hSw); go_simp <;> with_reducible rfl)⟩) (by assumption) _
    (try simp only [Act.put, List.getElem_toArray, List.getElem_cons_succ, List.getElem_cons_zero, List.setIfInBounds_toArray, List.set_cons_zero, List.set_cons_succ])
    refine wpAnyH_ready (rs := [5]) (by kernel_rfl) (by simp) ?_
    refine AllReadyH.cons rfl (fun K hK => ?_) AllReadyH.nil
    go_simp
    (go_at_call 74; (with_reducible_and_instances refine (GP.out _).mono ?_); rintro e w6 ⟨rfl, hb⟩; obtain ⟨z0, z1, z2, z3, z4, qc, qf⟩ := (hHeld.2.2.r.on hb hHeld.2.2.s).cells; unfold abVal)
    (try go_wp2_with fail)
    refine hK.out _ _ ?_ (fun hHeld2 => ?_)
    · exact ⟨row_on hHeld.1 hb hHeld.2.1, Nat.lt_of_lt_of_le hHeld.2.1 hb.size, hHeld.2.2.on hb⟩
    clear hK K hHeld; have hHeld := hHeld2; clear hHeld2
    (try simp only [Act.put, List.getElem_toArray, List.getElem_cons_succ, List.getElem_cons_zero, List.setIfInBounds_toArray, List.set_cons_zero, List.set_cons_succ])
    refine wpAnyH_ready (rs := [6]) (by kernel_rfl) (by simp) ?_
    refine AllReadyH.cons rfl (fun K hK => ?_) AllReadyH.nil
    go_simp
    refine hK.out _ _ ?_ (fun hHeld2 => ?_)
    · exact ⟨row_set5 hHeld.1 _ _ _ _ _ (by omega), by simpa [World.setCell] using hHeld.2.1, hHeld.2.2.set5 _ _ _ _ _⟩
    clear hK K hHeld; have hHeld := hHeld2; clear hHeld2
    (try simp only [Act.put, List.getElem_toArray, List.getElem_cons_succ, List.getElem_cons_zero, List.setIfInBounds_toArray, List.set_cons_zero, List.set_cons_succ])
    refine wpAnyH_done (by kernel_rfl) ?_ _
    go_wp2_with fail
    exact bodyPost_ret (v := abVal z) (by simp [results, Try.results14, go_sem, abVal, qc]) rfl ⟨rfl, hHeld.2.2.b⟩

set_option maxRecDepth 100000 in
set_option maxHeartbeats 4000000 in
theorem op8_is (l1 h1 m1 r1 k1 l2 h2 m2 r2 k2 : Int) (z : Ab)
    (hx : ((if l1 = h1 then (0 : Int) else m1) == 0) = false ∨ (((if l1 = h1 then (0 : Int) else m1) == 0) = true ∧ ((if l2 = h2 then (0 : Int) else m2) == 0) = false))
    (hP : ∀ w, Calls Try.prog 78 #[.agg #[.int .i64 l1, .int .i64 h1, .int .i64 m1, .int .i64 r1, .int .i64 k1, .int .i64 l2, .int .i64 h2, .int .i64 m2, .int .i64 r2, .int .i64 k2, .int .i64 (bits .or .i64 k1 k2)]] w fun e w' => e = .returned (abVal z) ∧ Below w.heap.size w w') (w : World) :
    Calls Try.prog 14 #[.int .i64 8, .agg #[.int .i64 l1, .int .i64 h1, .int .i64 m1, .int .i64 r1, .int .i64 k1], .agg #[.int .i64 l2, .int .i64 h2, .int .i64 m2, .int .i64 r2, .int .i64 k2]] w fun e w' => e = .returned (abVal z) ∧ Below w.heap.size w w' := by
  have GP := Lib.hid hP
  have hidx := index_8
  have GO := Lib.hid spanops_is
  have G1 : Hid (∀ w', Calls Try.prog 44 #[.agg #[.int .i64 l1, .int .i64 h1, .int .i64 m1, .int .i64 r1, .int .i64 k1]] w' fun e w2 => e = .returned (.int .i64 (if l1 = h1 then 0 else m1)) ∧ Below w'.heap.size w' w2) := Lib.hid fun w' => step_is _ _ _ _ _ w'
  have G2 : Hid (∀ w', Calls Try.prog 44 #[.agg #[.int .i64 l2, .int .i64 h2, .int .i64 m2, .int .i64 r2, .int .i64 k2]] w' fun e w2 => e = .returned (.int .i64 (if l2 = h2 then 0 else m2)) ∧ Below w'.heap.size w' w2) := Lib.hid fun w' => step_is _ _ _ _ _ w'
  generalize (if l1 = h1 then (0 : Int) else m1) = x1 at *
  generalize (if l2 = h2 then (0 : Int) else m2) = x2 at *
  clear hP
  rcases hx with hx | ⟨hx, hy⟩
  all_goals
    go_enter Try.func14, Try.ntmps14
    go_wp2_with fail
    refine (G1.out _).mono ?_
    rintro e w1 ⟨rfl, hb⟩
    have kR : Kept w (w.heap.size + 2) w1 := ((Kept.new (((Below.refl _ _).alloc (Nat.le_refl _) _).alloc (by simp) _) (by simp) _ _ _ _ _ _).al _).on hb
    have rb := row_on (row_al (row_al (row_new_at (n := w.heap.size + 1) (by simp) _ _) _ (by simp)) _ (by simp; try omega)) hb (by simp; try omega)
    have rp := row_on (row_new_at (n := w.heap.size + 3) (by simp) _ _) hb (by simp)
    have sp : w.heap.size + 3 < w1.heap.size := by have := hb.size; simp at this; omega
    clear hb
    go_wp2_with fail
    first
    | (refine (G2.out _).mono ?_
       rintro e w2 ⟨rfl, hb⟩
       have kR := kR.on hb
       have rp := row_on rp hb sp
       have sp := Nat.lt_of_lt_of_le sp hb.size
       clear hb
       go_wp2_with fail)
    | skip
    refine wp_region_held_drew (S := (fun w' => (∀ i, w'.cell? ⟨w.heap.size + 3, i, none⟩ = #[Value.int .i64 l1, .int .i64 h1, .int .i64 m1, .int .i64 r1, .int .i64 k1, .int .i64 l2, .int .i64 h2, .int .i64 m2, .int .i64 r2, .int .i64 k2, .int .i64 (bits .or .i64 k1 k2)][i]?) ∧ w.heap.size + 3 < w'.heap.size ∧ Kept w (w.heap.size + 2) w')) (by kernel_rfl) ?_ (fun hHeld => ?_)
    · exact ⟨row_drew rp, sp, kR.drew⟩
    refine' wpAnyH_take (i := 1) rfl (by kernel_rfl) (by kernel_rfl) (by kernel_rfl) (fun _ _ _ h => h) (Or.inl ⟨by rfl, by (intro wS hSw; (try dsimp only at hSw); go_simp <;> with_reducible rfl)⟩) (by assumption) _
    (try simp only [Act.put, List.getElem_toArray, List.getElem_cons_succ, List.getElem_cons_zero, List.setIfInBounds_toArray, List.set_cons_zero, List.set_cons_succ])
    refine' wpAnyH_take (i := 2) rfl (by kernel_rfl) (by kernel_rfl) (by kernel_rfl) (fun _ _ _ h => h) (Or.inl ⟨by rfl, by (intro wS hSw; (try dsimp only at hSw); go_simp <;> with_reducible rfl)⟩) (by assumption) _
    (try simp only [Act.put, List.getElem_toArray, List.getElem_cons_succ, List.getElem_cons_zero, List.setIfInBounds_toArray, List.set_cons_zero, List.set_cons_succ])
    refine' wpAnyH_take (i := 4) rfl (by kernel_rfl) (by kernel_rfl) (by kernel_rfl) (fun _ _ _ h => h) (Or.inl ⟨by rfl, by (intro wS hSw; (try dsimp only at hSw); go_simp <;> with_reducible rfl)⟩) (by assumption) _
    (try simp only [Act.put, List.getElem_toArray, List.getElem_cons_succ, List.getElem_cons_zero, List.setIfInBounds_toArray, List.set_cons_zero, List.set_cons_succ])
    refine wpAnyH_ready (rs := [0]) (by kernel_rfl) (by simp) ?_
    refine AllReadyH.cons rfl (fun K hK => ?_) AllReadyH.nil
    go_simp
    (go_at_call 45; (with_reducible_and_instances refine (GO.out _).mono ?_); rintro e w5 ⟨rfl, hb⟩)
    (try go_wp2_with fail)
    refine hK.out _ _ ?_ (fun hHeld2 => ?_)
    · exact ⟨row_on hHeld.1 hb hHeld.2.1, Nat.lt_of_lt_of_le hHeld.2.1 hb.size, hHeld.2.2.on hb⟩
    clear hK K hHeld; have hHeld := hHeld2; clear hHeld2
    (try simp only [Act.put, List.getElem_toArray, List.getElem_cons_succ, List.getElem_cons_zero, List.setIfInBounds_toArray, List.set_cons_zero, List.set_cons_succ])
    refine' wpAnyH_take (i := 3) rfl (by kernel_rfl) (by kernel_rfl) (by kernel_rfl) (fun _ _ _ h => h) (Or.inl ⟨by rfl, by (intro wS hSw; (try dsimp only at hSw); go_simp <;> with_reducible rfl)⟩) (by assumption) _
    (try simp only [Act.put, List.getElem_toArray, List.getElem_cons_succ, List.getElem_cons_zero, List.setIfInBounds_toArray, List.set_cons_zero, List.set_cons_succ])
    refine wpAnyH_ready (rs := [5]) (by kernel_rfl) (by simp) ?_
    refine AllReadyH.cons rfl (fun K hK => ?_) AllReadyH.nil
    go_simp
    (go_at_call 78; (with_reducible_and_instances refine (GP.out _).mono ?_); rintro e w6 ⟨rfl, hb⟩; obtain ⟨z0, z1, z2, z3, z4, qc, qf⟩ := (hHeld.2.2.r.on hb hHeld.2.2.s).cells; unfold abVal)
    (try go_wp2_with fail)
    refine hK.out _ _ ?_ (fun hHeld2 => ?_)
    · exact ⟨row_on hHeld.1 hb hHeld.2.1, Nat.lt_of_lt_of_le hHeld.2.1 hb.size, hHeld.2.2.on hb⟩
    clear hK K hHeld; have hHeld := hHeld2; clear hHeld2
    (try simp only [Act.put, List.getElem_toArray, List.getElem_cons_succ, List.getElem_cons_zero, List.setIfInBounds_toArray, List.set_cons_zero, List.set_cons_succ])
    refine wpAnyH_ready (rs := [6]) (by kernel_rfl) (by simp) ?_
    refine AllReadyH.cons rfl (fun K hK => ?_) AllReadyH.nil
    go_simp
    refine hK.out _ _ ?_ (fun hHeld2 => ?_)
    · exact ⟨row_set5 hHeld.1 _ _ _ _ _ (by omega), by simpa [World.setCell] using hHeld.2.1, hHeld.2.2.set5 _ _ _ _ _⟩
    clear hK K hHeld; have hHeld := hHeld2; clear hHeld2
    (try simp only [Act.put, List.getElem_toArray, List.getElem_cons_succ, List.getElem_cons_zero, List.setIfInBounds_toArray, List.set_cons_zero, List.set_cons_succ])
    refine wpAnyH_done (by kernel_rfl) ?_ _
    go_wp2_with fail
    exact bodyPost_ret (v := abVal z) (by simp [results, Try.results14, go_sem, abVal, qc]) rfl ⟨rfl, hHeld.2.2.b⟩

end Go.Proofs.Ytlokjiniigfaiaa
