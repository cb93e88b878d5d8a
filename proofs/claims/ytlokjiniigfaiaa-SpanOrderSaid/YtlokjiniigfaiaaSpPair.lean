/- Contracts of span's pair.bounded and pair.add. -/
import Derived.Test.YtlokjiniigfaiaaSpValid
set_option linter.unusedVariables false
set_option linter.unusedSimpArgs false
namespace Go.Proofs.Ytlokjiniigfaiaa
open Go.ChangeShapes Go.WideShapes Go.ChangeAt Go.RowKit

def boundedS (lo hi m k : Int) : Ab := if -2147483648 ≤ lo ∧ lo ≤ 2147483647 ∧ -2147483648 ≤ hi ∧ hi ≤ 2147483647 then byS lo hi m k else likeS lo (Int.gcd 4294967296 m) (-2147483648) 2147483647 k

theorem value_G (a : Int) (q : Bool) (h : decide (-2147483648 ≤ a ∧ a ≤ 2147483647) = q) : Hid (∀ w, Calls Try.prog 101 #[.int .i64 a] w fun e w' => e = .returned (.bool q) ∧ w = w') :=
  Lib.hid fun w => h ▸ value_is a w

set_option maxRecDepth 100000 in
set_option maxHeartbeats 4000000 in
theorem bounded_in (l1 h1 m1 r1 k1 l2 h2 m2 r2 k2 k lo hi m : Int) (b1 : -2147483648 ≤ lo) (b2 : lo ≤ hi) (b3 : hi ≤ 2147483647) (hm : 0 < m ∨ lo = hi) (hm2 : m ≤ 9223372036854775807) (w : World) :
    Calls Try.prog 100 #[.agg #[.int .i64 l1, .int .i64 h1, .int .i64 m1, .int .i64 r1, .int .i64 k1, .int .i64 l2, .int .i64 h2, .int .i64 m2, .int .i64 r2, .int .i64 k2, .int .i64 k], .int .i64 lo, .int .i64 hi, .int .i64 m] w fun e w' => e = .returned (abVal (byS lo hi m k)) ∧ Below w.heap.size w w' := by
  have G := by_G lo hi m k (by omega) (by omega) (by omega) hm hm2 (by omega)
  have G1 := value_G lo true (by simp; omega)
  have G2 := value_G hi true (by simp; omega)
  generalize byS lo hi m k = z at *
  clear b1 b2 b3 hm hm2
  go_enter Try.func100, Try.ntmps100
  go_wp2_with (first | (go_at_call 101; (with_reducible_and_instances refine (G1.out _).mono ?_); rintro e w1 ⟨rfl, rfl⟩) | (go_at_call 101; (with_reducible_and_instances refine (G2.out _).mono ?_); rintro e w1 ⟨rfl, rfl⟩) | (go_at_call 46; (with_reducible_and_instances refine (G.out _).mono ?_); rintro e w1 ⟨rfl, hb⟩; have hK := (Kept.new ((Below.refl w.heap.size w).alloc (Nat.le_refl _) _) (n := w.heap.size + 1) (by simp) _ _ _ _ _ _).on hb; obtain ⟨z0, z1, z2, z3, z4, qc, qf⟩ := hK.r.cells; unfold abVal))
  exact bodyPost_ret (v := abVal z) (by simp [results, Try.results100, go_sem, abVal, qc]) rfl ⟨rfl, (hK.set5 _ _ _ _ _).b⟩

set_option maxRecDepth 100000 in
set_option maxHeartbeats 4000000 in
theorem bounded_out (l1 h1 m1 r1 k1 l2 h2 m2 r2 k2 k lo hi m : Int) (b1 : -4611686018427387904 ≤ lo) (b3 : lo ≤ 4611686018427387904) (hm : 0 ≤ m ∧ m ≤ 9223372036854775807) (hq : ¬ (-2147483648 ≤ lo ∧ lo ≤ 2147483647 ∧ -2147483648 ≤ hi ∧ hi ≤ 2147483647)) (w : World) :
    Calls Try.prog 100 #[.agg #[.int .i64 l1, .int .i64 h1, .int .i64 m1, .int .i64 r1, .int .i64 k1, .int .i64 l2, .int .i64 h2, .int .i64 m2, .int .i64 r2, .int .i64 k2, .int .i64 k], .int .i64 lo, .int .i64 hi, .int .i64 m] w fun e w' => e = .returned (abVal (likeS lo (Int.gcd 4294967296 m) (-2147483648) 2147483647 k)) ∧ Below w.heap.size w w' := by
  have hg : 0 < (Int.gcd 4294967296 m : Int) ∧ (Int.gcd 4294967296 m : Int) ≤ 4294967296 := by
    have h1 : Int.gcd 4294967296 m ∣ 4294967296 := Int.gcd_dvd_natAbs_left 4294967296 m
    have h2 := Nat.le_of_dvd (by omega) h1
    have h3 := Nat.pos_of_dvd_of_pos h1 (by omega)
    omega
  have G3 : Hid (∀ b w', w'.cell? ⟨b, 0, none⟩ = some (.int .i64 m) → Calls Try.prog 49 #[.int .i64 4294967296, .slice (some ⟨b, 0, none⟩) 1 1] w' fun e w2 => e = .returned (.int .i64 (Int.gcd 4294967296 m)) ∧ Below w'.heap.size w' w2) := Lib.hid fun b w' q1 => by
    have := gcd_is 4294967296 [m] (by omega) (by simp; omega) (some ⟨b, 0, none⟩) 1 w' (ints_one q1) (by simp only [gcdS]; omega)
    exact this
  generalize (Int.gcd 4294967296 m : Int) = g at *
  have G4 : Hid (∀ w', Calls Try.prog 51 #[.int .i64 lo, .int .i64 g, .int .i64 (-2147483648), .int .i64 2147483647, .int .i64 k] w' fun e w2 => e = .returned (abVal (likeS lo g (-2147483648) 2147483647 k)) ∧ Below w'.heap.size w' w2) := Lib.hid fun w' => like_is lo g (-2147483648) 2147483647 k (by omega) (by have := Int.emod_lt_of_pos (lo - -2147483648) hg.1; omega) (by omega) (by omega) hg.1 (by omega) w'
  generalize likeS lo g (-2147483648) 2147483647 k = z at *
  have hcase : (decide (-2147483648 ≤ lo ∧ lo ≤ 2147483647) = true ∧ decide (-2147483648 ≤ hi ∧ hi ≤ 2147483647) = false) ∨ decide (-2147483648 ≤ lo ∧ lo ≤ 2147483647) = false := by
    by_cases h : -2147483648 ≤ lo ∧ lo ≤ 2147483647
    · left; exact ⟨by simpa using h, by simp; omega⟩
    · right; simpa using h
  clear b1 b3 hm hq hg
  rcases hcase with ⟨c1, c2⟩ | c1
  · have G1 := value_G lo true c1
    have G2 := value_G hi false c2
    clear c1 c2
    go_enter Try.func100, Try.ntmps100
    go_wp2_with (first | (go_at_call 101; (with_reducible_and_instances refine (G1.out _).mono ?_); rintro e w1 ⟨rfl, rfl⟩) | (go_at_call 101; (with_reducible_and_instances refine (G2.out _).mono ?_); rintro e w1 ⟨rfl, rfl⟩))
    refine wp_region_held_drew (S := (fun w' => (∀ i, w'.cell? ⟨w.heap.size, i, none⟩ = #[Value.int .i64 l1, .int .i64 h1, .int .i64 m1, .int .i64 r1, .int .i64 k1, .int .i64 l2, .int .i64 h2, .int .i64 m2, .int .i64 r2, .int .i64 k2, .int .i64 k][i]?) ∧ Kept w (w.heap.size + 1) w')) (by kernel_rfl) ?_ (fun hHeld => ?_)
    · exact ⟨row_drew (row_al (row_new _ _ _) _ (by simp)), (Kept.new ((Below.refl _ _).alloc (Nat.le_refl _) _) (by simp) _ _ _ _ _ _).drew⟩
    refine' wpAnyH_take (i := 0) rfl (by kernel_rfl) (by kernel_rfl) (by kernel_rfl) (fun _ _ _ h => h) (Or.inl ⟨by rfl, by (intro wS hSw; (try dsimp only at hSw); go_simp <;> with_reducible rfl)⟩) (by assumption) _
    (try simp only [Act.put, List.getElem_toArray, List.getElem_cons_succ, List.getElem_cons_zero, List.setIfInBounds_toArray, List.set_cons_zero, List.set_cons_succ])
    refine' wpAnyH_take (i := 1) rfl (by kernel_rfl) (by kernel_rfl) (by kernel_rfl) (fun _ _ _ h => h) (Or.inl ⟨by rfl, by (intro wS hSw; (try dsimp only at hSw); go_simp <;> with_reducible rfl)⟩) (by assumption) _
    (try simp only [Act.put, List.getElem_toArray, List.getElem_cons_succ, List.getElem_cons_zero, List.setIfInBounds_toArray, List.set_cons_zero, List.set_cons_succ])
    refine' wpAnyH_take (i := 4) rfl (by kernel_rfl) (by kernel_rfl) (by kernel_rfl) (fun _ _ _ h => h) (Or.inl ⟨by rfl, by (intro wS hSw; (try dsimp only at hSw); go_simp <;> with_reducible rfl)⟩) (by assumption) _
    (try simp only [Act.put, List.getElem_toArray, List.getElem_cons_succ, List.getElem_cons_zero, List.setIfInBounds_toArray, List.set_cons_zero, List.set_cons_succ])
    refine' wpAnyH_take (i := 5) rfl (by kernel_rfl) (by kernel_rfl) (by kernel_rfl) (fun _ _ _ h => h) (Or.inl ⟨by rfl, by (intro wS hSw; (try dsimp only at hSw); go_simp <;> with_reducible rfl)⟩) (by assumption) _
    (try simp only [Act.put, List.getElem_toArray, List.getElem_cons_succ, List.getElem_cons_zero, List.setIfInBounds_toArray, List.set_cons_zero, List.set_cons_succ])
    refine wpAnyH_ready (rs := [2]) (by kernel_rfl) (by simp) ?_
    refine AllReadyH.cons rfl (fun K hK => ?_) AllReadyH.nil
    go_simp
    refine hK.out _ _ ?_ (fun hHeld2 => ?_)
    · exact ⟨row_al hHeld.1 _ (by have := hHeld.2.s; omega), hHeld.2.al _⟩
    clear hK K hHeld; have hHeld := hHeld2; clear hHeld2
    (try simp only [Act.put, List.getElem_toArray, List.getElem_cons_succ, List.getElem_cons_zero, List.setIfInBounds_toArray, List.set_cons_zero, List.set_cons_succ])
    refine wpAnyH_ready (rs := [3]) (by kernel_rfl) (by simp) ?_
    refine AllReadyH.cons rfl (fun K hK => ?_) AllReadyH.nil
    go_simp
    (go_at_call 49; (with_reducible_and_instances refine (G3.out _ _ (by go_simp)).mono ?_); rintro e w1 ⟨rfl, hb⟩)
    (try go_wp2_with fail)
    refine hK.out _ _ ?_ (fun hHeld2 => ?_)
    · exact ⟨row_on hHeld.1 hb (by have := hHeld.2.s; omega), hHeld.2.on hb⟩
    clear hK K hHeld; have hHeld := hHeld2; clear hHeld2
    (try simp only [Act.put, List.getElem_toArray, List.getElem_cons_succ, List.getElem_cons_zero, List.setIfInBounds_toArray, List.set_cons_zero, List.set_cons_succ])
    refine wpAnyH_ready (rs := [6]) (by kernel_rfl) (by simp) ?_
    refine AllReadyH.cons rfl (fun K hK => ?_) AllReadyH.nil
    go_simp
    (go_at_call 51; (with_reducible_and_instances refine (G4.out _).mono ?_); rintro e w1 ⟨rfl, hb⟩; obtain ⟨z0, z1, z2, z3, z4, qc, qf⟩ := (hHeld.2.r.on hb hHeld.2.s).cells; unfold abVal)
    (try go_wp2_with fail)
    refine hK.out _ _ ?_ (fun hHeld2 => ?_)
    · exact ⟨row_on hHeld.1 hb (by have := hHeld.2.s; omega), hHeld.2.on hb⟩
    clear hK K hHeld; have hHeld := hHeld2; clear hHeld2
    (try simp only [Act.put, List.getElem_toArray, List.getElem_cons_succ, List.getElem_cons_zero, List.setIfInBounds_toArray, List.set_cons_zero, List.set_cons_succ])
    refine wpAnyH_ready (rs := [7]) (by kernel_rfl) (by simp) ?_
    refine AllReadyH.cons rfl (fun K hK => ?_) AllReadyH.nil
    go_simp
    refine hK.out _ _ ?_ (fun hHeld2 => ?_)
    · exact ⟨row_set5 hHeld.1 _ _ _ _ _ (by omega), hHeld.2.set5 _ _ _ _ _⟩
    clear hK K hHeld; have hHeld := hHeld2; clear hHeld2
    (try simp only [Act.put, List.getElem_toArray, List.getElem_cons_succ, List.getElem_cons_zero, List.setIfInBounds_toArray, List.set_cons_zero, List.set_cons_succ])
    refine wpAnyH_done (by kernel_rfl) ?_ _
    go_wp2_with fail
    exact bodyPost_ret (v := abVal z) (by simp [results, Try.results100, go_sem, abVal, qc]) rfl ⟨rfl, hHeld.2.b⟩
  · have G1 := value_G lo false c1
    clear c1
    go_enter Try.func100, Try.ntmps100
    go_wp2_with (first | (go_at_call 101; (with_reducible_and_instances refine (G1.out _).mono ?_); rintro e w1 ⟨rfl, rfl⟩))
    refine wp_region_held_drew (S := (fun w' => (∀ i, w'.cell? ⟨w.heap.size, i, none⟩ = #[Value.int .i64 l1, .int .i64 h1, .int .i64 m1, .int .i64 r1, .int .i64 k1, .int .i64 l2, .int .i64 h2, .int .i64 m2, .int .i64 r2, .int .i64 k2, .int .i64 k][i]?) ∧ Kept w (w.heap.size + 1) w')) (by kernel_rfl) ?_ (fun hHeld => ?_)
    · exact ⟨row_drew (row_al (row_new _ _ _) _ (by simp)), (Kept.new ((Below.refl _ _).alloc (Nat.le_refl _) _) (by simp) _ _ _ _ _ _).drew⟩
    refine' wpAnyH_take (i := 0) rfl (by kernel_rfl) (by kernel_rfl) (by kernel_rfl) (fun _ _ _ h => h) (Or.inl ⟨by rfl, by (intro wS hSw; (try dsimp only at hSw); go_simp <;> with_reducible rfl)⟩) (by assumption) _
    (try simp only [Act.put, List.getElem_toArray, List.getElem_cons_succ, List.getElem_cons_zero, List.setIfInBounds_toArray, List.set_cons_zero, List.set_cons_succ])
    refine' wpAnyH_take (i := 1) rfl (by kernel_rfl) (by kernel_rfl) (by kernel_rfl) (fun _ _ _ h => h) (Or.inl ⟨by rfl, by (intro wS hSw; (try dsimp only at hSw); go_simp <;> with_reducible rfl)⟩) (by assumption) _
    (try simp only [Act.put, List.getElem_toArray, List.getElem_cons_succ, List.getElem_cons_zero, List.setIfInBounds_toArray, List.set_cons_zero, List.set_cons_succ])
    refine' wpAnyH_take (i := 4) rfl (by kernel_rfl) (by kernel_rfl) (by kernel_rfl) (fun _ _ _ h => h) (Or.inl ⟨by rfl, by (intro wS hSw; (try dsimp only at hSw); go_simp <;> with_reducible rfl)⟩) (by assumption) _
    (try simp only [Act.put, List.getElem_toArray, List.getElem_cons_succ, List.getElem_cons_zero, List.setIfInBounds_toArray, List.set_cons_zero, List.set_cons_succ])
    refine' wpAnyH_take (i := 5) rfl (by kernel_rfl) (by kernel_rfl) (by kernel_rfl) (fun _ _ _ h => h) (Or.inl ⟨by rfl, by (intro wS hSw; (try dsimp only at hSw); go_simp <;> with_reducible rfl)⟩) (by assumption) _
    (try simp only [Act.put, List.getElem_toArray, List.getElem_cons_succ, List.getElem_cons_zero, List.setIfInBounds_toArray, List.set_cons_zero, List.set_cons_succ])
    refine wpAnyH_ready (rs := [2]) (by kernel_rfl) (by simp) ?_
    refine AllReadyH.cons rfl (fun K hK => ?_) AllReadyH.nil
    go_simp
    refine hK.out _ _ ?_ (fun hHeld2 => ?_)
    · exact ⟨row_al hHeld.1 _ (by have := hHeld.2.s; omega), hHeld.2.al _⟩
    clear hK K hHeld; have hHeld := hHeld2; clear hHeld2
    (try simp only [Act.put, List.getElem_toArray, List.getElem_cons_succ, List.getElem_cons_zero, List.setIfInBounds_toArray, List.set_cons_zero, List.set_cons_succ])
    refine wpAnyH_ready (rs := [3]) (by kernel_rfl) (by simp) ?_
    refine AllReadyH.cons rfl (fun K hK => ?_) AllReadyH.nil
    go_simp
    (go_at_call 49; (with_reducible_and_instances refine (G3.out _ _ (by go_simp)).mono ?_); rintro e w1 ⟨rfl, hb⟩)
    (try go_wp2_with fail)
    refine hK.out _ _ ?_ (fun hHeld2 => ?_)
    · exact ⟨row_on hHeld.1 hb (by have := hHeld.2.s; omega), hHeld.2.on hb⟩
    clear hK K hHeld; have hHeld := hHeld2; clear hHeld2
    (try simp only [Act.put, List.getElem_toArray, List.getElem_cons_succ, List.getElem_cons_zero, List.setIfInBounds_toArray, List.set_cons_zero, List.set_cons_succ])
    refine wpAnyH_ready (rs := [6]) (by kernel_rfl) (by simp) ?_
    refine AllReadyH.cons rfl (fun K hK => ?_) AllReadyH.nil
    go_simp
    (go_at_call 51; (with_reducible_and_instances refine (G4.out _).mono ?_); rintro e w1 ⟨rfl, hb⟩; obtain ⟨z0, z1, z2, z3, z4, qc, qf⟩ := (hHeld.2.r.on hb hHeld.2.s).cells; unfold abVal)
    (try go_wp2_with fail)
    refine hK.out _ _ ?_ (fun hHeld2 => ?_)
    · exact ⟨row_on hHeld.1 hb (by have := hHeld.2.s; omega), hHeld.2.on hb⟩
    clear hK K hHeld; have hHeld := hHeld2; clear hHeld2
    (try simp only [Act.put, List.getElem_toArray, List.getElem_cons_succ, List.getElem_cons_zero, List.setIfInBounds_toArray, List.set_cons_zero, List.set_cons_succ])
    refine wpAnyH_ready (rs := [7]) (by kernel_rfl) (by simp) ?_
    refine AllReadyH.cons rfl (fun K hK => ?_) AllReadyH.nil
    go_simp
    refine hK.out _ _ ?_ (fun hHeld2 => ?_)
    · exact ⟨row_set5 hHeld.1 _ _ _ _ _ (by omega), hHeld.2.set5 _ _ _ _ _⟩
    clear hK K hHeld; have hHeld := hHeld2; clear hHeld2
    (try simp only [Act.put, List.getElem_toArray, List.getElem_cons_succ, List.getElem_cons_zero, List.setIfInBounds_toArray, List.set_cons_zero, List.set_cons_succ])
    refine wpAnyH_done (by kernel_rfl) ?_ _
    go_wp2_with fail
    exact bodyPost_ret (v := abVal z) (by simp [results, Try.results100, go_sem, abVal, qc]) rfl ⟨rfl, hHeld.2.b⟩

theorem bounded_is (l1 h1 m1 r1 k1 l2 h2 m2 r2 k2 k lo hi m : Int) (b1 : -4611686018427387904 ≤ lo) (b2 : lo ≤ hi) (b3 : lo ≤ 4611686018427387904) (hm : 0 ≤ m ∧ m ≤ 4611686018427387904) (hm2 : 0 < m ∨ lo = hi) (w : World) :
    Calls Try.prog 100 #[.agg #[.int .i64 l1, .int .i64 h1, .int .i64 m1, .int .i64 r1, .int .i64 k1, .int .i64 l2, .int .i64 h2, .int .i64 m2, .int .i64 r2, .int .i64 k2, .int .i64 k], .int .i64 lo, .int .i64 hi, .int .i64 m] w fun e w' => e = .returned (abVal (boundedS lo hi m k)) ∧ Below w.heap.size w w' := by
  by_cases h : -2147483648 ≤ lo ∧ lo ≤ 2147483647 ∧ -2147483648 ≤ hi ∧ hi ≤ 2147483647
  · rw [show boundedS lo hi m k = byS lo hi m k from if_pos h]
    exact bounded_in l1 h1 m1 r1 k1 l2 h2 m2 r2 k2 k lo hi m h.1 b2 h.2.2.2 hm2 (by omega) w
  · rw [show boundedS lo hi m k = likeS lo (Int.gcd 4294967296 m) (-2147483648) 2147483647 k from if_neg h]
    exact bounded_out l1 h1 m1 r1 k1 l2 h2 m2 r2 k2 k lo hi m b1 b3 (by omega) h w

set_option maxRecDepth 100000 in
set_option maxHeartbeats 4000000 in
theorem add_is (l1 h1 m1 r1 k1 l2 h2 m2 r2 k2 k g : Int) (b1 : -4294967296 ≤ l1 ∧ l1 ≤ h1 ∧ h1 ≤ 4294967296) (b2 : -4294967296 ≤ l2 ∧ l2 ≤ h2 ∧ h2 ≤ 4294967296)
    (s1 : 0 ≤ (if l1 = h1 then 0 else m1) ∧ (if l1 = h1 then 0 else m1) ≤ 4611686018427387904) (s2 : 0 ≤ (if l2 = h2 then 0 else m2) ∧ (if l2 = h2 then 0 else m2) ≤ 4611686018427387904)
    (hg : (Int.gcd (if l1 = h1 then 0 else m1) (if l2 = h2 then 0 else m2) : Int) = g) (hg2 : g ≤ 4611686018427387904) (hg3 : 0 < g ∨ l1 + l2 = h1 + h2) (w : World) :
    Calls Try.prog 74 #[.agg #[.int .i64 l1, .int .i64 h1, .int .i64 m1, .int .i64 r1, .int .i64 k1, .int .i64 l2, .int .i64 h2, .int .i64 m2, .int .i64 r2, .int .i64 k2, .int .i64 k]] w fun e w' => e = .returned (abVal (boundedS (l1 + l2) (h1 + h2) g k)) ∧ Below w.heap.size w w' := by
  have G1 : Hid (∀ w', Calls Try.prog 44 #[.agg #[.int .i64 l1, .int .i64 h1, .int .i64 m1, .int .i64 r1, .int .i64 k1]] w' fun e w2 => e = .returned (.int .i64 (if l1 = h1 then 0 else m1)) ∧ Below w'.heap.size w' w2) := Lib.hid fun w' => step_is _ _ _ _ _ w'
  have G2 : Hid (∀ w', Calls Try.prog 44 #[.agg #[.int .i64 l2, .int .i64 h2, .int .i64 m2, .int .i64 r2, .int .i64 k2]] w' fun e w2 => e = .returned (.int .i64 (if l2 = h2 then 0 else m2)) ∧ Below w'.heap.size w' w2) := Lib.hid fun w' => step_is _ _ _ _ _ w'
  generalize (if l1 = h1 then (0 : Int) else m1) = x1 at *
  generalize (if l2 = h2 then (0 : Int) else m2) = x2 at *
  have G4 : Hid (∀ b w', w'.cell? ⟨b, 0, none⟩ = some (.int .i64 x2) → Calls Try.prog 49 #[.int .i64 x1, .slice (some ⟨b, 0, none⟩) 1 1] w' fun e w2 => e = .returned (.int .i64 g) ∧ Below w'.heap.size w' w2) := Lib.hid fun b w' q1 => by
    have := gcd_is x1 [x2] (by omega) (by simp; omega) (some ⟨b, 0, none⟩) 1 w' (ints_one q1) (by simp only [gcdS]; omega)
    simp only [gcdS, hg] at this
    exact this
  have hg0 : 0 ≤ g := by omega
  have G5 : Hid (∀ w', Calls Try.prog 100 #[.agg #[.int .i64 l1, .int .i64 h1, .int .i64 m1, .int .i64 r1, .int .i64 k1, .int .i64 l2, .int .i64 h2, .int .i64 m2, .int .i64 r2, .int .i64 k2, .int .i64 k], .int .i64 (l1 + l2), .int .i64 (h1 + h2), .int .i64 g] w' fun e w2 => e = .returned (abVal (boundedS (l1 + l2) (h1 + h2) g k)) ∧ Below w'.heap.size w' w2) :=
    Lib.hid fun w' => bounded_is l1 h1 m1 r1 k1 l2 h2 m2 r2 k2 k (l1 + l2) (h1 + h2) g (by omega) (by omega) (by omega) ⟨hg0, hg2⟩ hg3 w'
  have hw1 : IntKind.i64.wrap (l1 + l2) = l1 + l2 := IntWalk.i64_in _ (by omega)
  have hw2 : IntKind.i64.wrap (h1 + h2) = h1 + h2 := IntWalk.i64_in _ (by omega)
  generalize boundedS (l1 + l2) (h1 + h2) g k = z at *
  clear b1 b2 s1 s2 hg hg2 hg3 hg0
  go_enter Try.func74, Try.ntmps74
  go_wp2_with fail
  refine wp_region_held_drew (S := (fun w' => (∀ i, w'.cell? ⟨w.heap.size, i, none⟩ = #[Value.int .i64 l1, .int .i64 h1, .int .i64 m1, .int .i64 r1, .int .i64 k1, .int .i64 l2, .int .i64 h2, .int .i64 m2, .int .i64 r2, .int .i64 k2, .int .i64 k][i]?) ∧ Kept w (w.heap.size + 1) w')) (by kernel_rfl) ?_ (fun hHeld => ?_)
  · exact ⟨row_drew (row_al (row_new _ _ _) _ (by simp)), (Kept.new ((Below.refl _ _).alloc (Nat.le_refl _) _) (by simp) _ _ _ _ _ _).drew⟩
  refine' wpAnyH_take (i := 0) rfl (by kernel_rfl) (by kernel_rfl) (by kernel_rfl) (fun _ _ _ h => h) (Or.inl ⟨by rfl, by (intro wS hSw; (try dsimp only at hSw); go_simp <;> with_reducible rfl)⟩) (by assumption) _
  (try simp only [Act.put, List.getElem_toArray, List.getElem_cons_succ, List.getElem_cons_zero, List.setIfInBounds_toArray, List.set_cons_zero, List.set_cons_succ])
  refine' wpAnyH_take (i := 1) rfl (by kernel_rfl) (by kernel_rfl) (by kernel_rfl) (fun _ _ _ h => h) (Or.inl ⟨by rfl, by (intro wS hSw; (try dsimp only at hSw); go_simp <;> with_reducible rfl)⟩) (by assumption) _
  (try simp only [Act.put, List.getElem_toArray, List.getElem_cons_succ, List.getElem_cons_zero, List.setIfInBounds_toArray, List.set_cons_zero, List.set_cons_succ])
  refine' wpAnyH_take (i := 2) rfl (by kernel_rfl) (by kernel_rfl) (by kernel_rfl) (fun _ _ _ h => h) (Or.inl ⟨by rfl, by (intro wS hSw; (try dsimp only at hSw); go_simp <;> with_reducible rfl)⟩) (by assumption) _
  (try simp only [Act.put, List.getElem_toArray, List.getElem_cons_succ, List.getElem_cons_zero, List.setIfInBounds_toArray, List.set_cons_zero, List.set_cons_succ])
  refine' wpAnyH_take (i := 3) rfl (by kernel_rfl) (by kernel_rfl) (by kernel_rfl) (fun _ _ _ h => h) (Or.inl ⟨by rfl, by (intro wS hSw; (try dsimp only at hSw); go_simp <;> with_reducible rfl)⟩) (by assumption) _
  (try simp only [Act.put, List.getElem_toArray, List.getElem_cons_succ, List.getElem_cons_zero, List.setIfInBounds_toArray, List.set_cons_zero, List.set_cons_succ])
  refine' wpAnyH_take (i := 4) rfl (by kernel_rfl) (by kernel_rfl) (by kernel_rfl) (fun _ _ _ h => h) (Or.inl ⟨by rfl, by (intro wS hSw; (try dsimp only at hSw); go_simp <;> with_reducible rfl)⟩) (by assumption) _
  (try simp only [Act.put, List.getElem_toArray, List.getElem_cons_succ, List.getElem_cons_zero, List.setIfInBounds_toArray, List.set_cons_zero, List.set_cons_succ])
  refine' wpAnyH_take (i := 5) rfl (by kernel_rfl) (by kernel_rfl) (by kernel_rfl) (fun _ _ _ h => h) (Or.inl ⟨by rfl, by (intro wS hSw; (try dsimp only at hSw); go_simp <;> with_reducible rfl)⟩) (by assumption) _
  (try simp only [Act.put, List.getElem_toArray, List.getElem_cons_succ, List.getElem_cons_zero, List.setIfInBounds_toArray, List.set_cons_zero, List.set_cons_succ])
  refine' wpAnyH_take (i := 6) rfl (by kernel_rfl) (by kernel_rfl) (by kernel_rfl) (fun _ _ _ h => h) (Or.inl ⟨by rfl, by (intro wS hSw; (try dsimp only at hSw); go_simp <;> with_reducible rfl)⟩) (by assumption) _
  (try simp only [Act.put, List.getElem_toArray, List.getElem_cons_succ, List.getElem_cons_zero, List.setIfInBounds_toArray, List.set_cons_zero, List.set_cons_succ])
  refine' wpAnyH_take (i := 7) rfl (by kernel_rfl) (by kernel_rfl) (by kernel_rfl) (fun _ _ _ h => h) (Or.inl ⟨by rfl, by (intro wS hSw; (try dsimp only at hSw); go_simp <;> with_reducible rfl)⟩) (by assumption) _
  (try simp only [Act.put, List.getElem_toArray, List.getElem_cons_succ, List.getElem_cons_zero, List.setIfInBounds_toArray, List.set_cons_zero, List.set_cons_succ])
  refine' wpAnyH_take (i := 8) rfl (by kernel_rfl) (by kernel_rfl) (by kernel_rfl) (fun _ _ _ h => h) (Or.inl ⟨by rfl, by (intro wS hSw; (try dsimp only at hSw); go_simp <;> with_reducible rfl)⟩) (by assumption) _
  (try simp only [Act.put, List.getElem_toArray, List.getElem_cons_succ, List.getElem_cons_zero, List.setIfInBounds_toArray, List.set_cons_zero, List.set_cons_succ])
  refine' wpAnyH_take (i := 9) rfl (by kernel_rfl) (by kernel_rfl) (by kernel_rfl) (fun _ _ _ h => h) (Or.inl ⟨by rfl, by (intro wS hSw; (try dsimp only at hSw); go_simp <;> with_reducible rfl)⟩) (by assumption) _
  (try simp only [Act.put, List.getElem_toArray, List.getElem_cons_succ, List.getElem_cons_zero, List.setIfInBounds_toArray, List.set_cons_zero, List.set_cons_succ])
  refine' wpAnyH_take (i := 10) rfl (by kernel_rfl) (by kernel_rfl) (by kernel_rfl) (fun _ _ _ h => h) (Or.inl ⟨by rfl, by (intro wS hSw; (try dsimp only at hSw); go_simp <;> with_reducible rfl)⟩) (by assumption) _
  (try simp only [Act.put, List.getElem_toArray, List.getElem_cons_succ, List.getElem_cons_zero, List.setIfInBounds_toArray, List.set_cons_zero, List.set_cons_succ])
  refine' wpAnyH_take (i := 11) rfl (by kernel_rfl) (by kernel_rfl) (by kernel_rfl) (fun _ _ _ h => h) (Or.inl ⟨by rfl, by (intro wS hSw; (try dsimp only at hSw); go_simp <;> with_reducible rfl)⟩) (by assumption) _
  (try simp only [Act.put, List.getElem_toArray, List.getElem_cons_succ, List.getElem_cons_zero, List.setIfInBounds_toArray, List.set_cons_zero, List.set_cons_succ])
  refine' wpAnyH_take (i := 12) rfl (by kernel_rfl) (by kernel_rfl) (by kernel_rfl) (fun _ _ _ h => h) (Or.inl ⟨by rfl, by (intro wS hSw; (try dsimp only at hSw); go_simp <;> with_reducible rfl)⟩) (by assumption) _
  (try simp only [Act.put, List.getElem_toArray, List.getElem_cons_succ, List.getElem_cons_zero, List.setIfInBounds_toArray, List.set_cons_zero, List.set_cons_succ])
  refine' wpAnyH_take (i := 13) rfl (by kernel_rfl) (by kernel_rfl) (by kernel_rfl) (fun _ _ _ h => h) (Or.inl ⟨by rfl, by (intro wS hSw; (try dsimp only at hSw); go_simp <;> with_reducible rfl)⟩) (by assumption) _
  (try simp only [Act.put, List.getElem_toArray, List.getElem_cons_succ, List.getElem_cons_zero, List.setIfInBounds_toArray, List.set_cons_zero, List.set_cons_succ])
  refine' wpAnyH_take (i := 14) rfl (by kernel_rfl) (by kernel_rfl) (by kernel_rfl) (fun _ _ _ h => h) (Or.inl ⟨by rfl, by (intro wS hSw; (try dsimp only at hSw); go_simp <;> with_reducible rfl)⟩) (by assumption) _
  (try simp only [Act.put, List.getElem_toArray, List.getElem_cons_succ, List.getElem_cons_zero, List.setIfInBounds_toArray, List.set_cons_zero, List.set_cons_succ])
  refine' wpAnyH_take (i := 15) rfl (by kernel_rfl) (by kernel_rfl) (by kernel_rfl) (fun _ _ _ h => h) (Or.inl ⟨by rfl, by (intro wS hSw; (try dsimp only at hSw); go_simp <;> with_reducible rfl)⟩) (by assumption) _
  (try simp only [Act.put, List.getElem_toArray, List.getElem_cons_succ, List.getElem_cons_zero, List.setIfInBounds_toArray, List.set_cons_zero, List.set_cons_succ])
  refine' wpAnyH_take (i := 16) rfl (by kernel_rfl) (by kernel_rfl) (by kernel_rfl) (fun _ _ _ h => h) (Or.inl ⟨by rfl, by (intro wS hSw; (try dsimp only at hSw); go_simp <;> with_reducible rfl)⟩) (by assumption) _
  (try simp only [Act.put, List.getElem_toArray, List.getElem_cons_succ, List.getElem_cons_zero, List.setIfInBounds_toArray, List.set_cons_zero, List.set_cons_succ])
  refine' wpAnyH_take (i := 18) rfl (by kernel_rfl) (by kernel_rfl) (by kernel_rfl) (fun _ _ _ h => h) (Or.inl ⟨by rfl, by (intro wS hSw; (try dsimp only at hSw); go_simp <;> with_reducible rfl)⟩) (by assumption) _
  (try simp only [Act.put, List.getElem_toArray, List.getElem_cons_succ, List.getElem_cons_zero, List.setIfInBounds_toArray, List.set_cons_zero, List.set_cons_succ])
  refine' wpAnyH_take (i := 19) rfl (by kernel_rfl) (by kernel_rfl) (by kernel_rfl) (fun _ _ _ h => h) (Or.inl ⟨by rfl, by (intro wS hSw; (try dsimp only at hSw); go_simp <;> with_reducible rfl)⟩) (by assumption) _
  (try simp only [Act.put, List.getElem_toArray, List.getElem_cons_succ, List.getElem_cons_zero, List.setIfInBounds_toArray, List.set_cons_zero, List.set_cons_succ])
  refine wpAnyH_ready (rs := [17]) (by kernel_rfl) (by simp) ?_
  refine AllReadyH.cons rfl (fun K hK => ?_) AllReadyH.nil
  go_simp
  (go_at_call 44; (with_reducible_and_instances refine (G1.out _).mono ?_); rintro e w1 ⟨rfl, hb⟩)
  (try go_wp2_with fail)
  refine hK.out _ _ ?_ (fun hHeld2 => ?_)
  · exact ⟨row_on hHeld.1 hb (by have := hHeld.2.s; omega), hHeld.2.on hb⟩
  clear hK K hHeld; have hHeld := hHeld2; clear hHeld2
  (try simp only [Act.put, List.getElem_toArray, List.getElem_cons_succ, List.getElem_cons_zero, List.setIfInBounds_toArray, List.set_cons_zero, List.set_cons_succ])
  refine wpAnyH_ready (rs := [20]) (by kernel_rfl) (by simp) ?_
  refine AllReadyH.cons rfl (fun K hK => ?_) AllReadyH.nil
  go_simp
  (go_at_call 44; (with_reducible_and_instances refine (G2.out _).mono ?_); rintro e w1 ⟨rfl, hb⟩)
  (try go_wp2_with fail)
  refine hK.out _ _ ?_ (fun hHeld2 => ?_)
  · exact ⟨row_on hHeld.1 hb (by have := hHeld.2.s; omega), hHeld.2.on hb⟩
  clear hK K hHeld; have hHeld := hHeld2; clear hHeld2
  (try simp only [Act.put, List.getElem_toArray, List.getElem_cons_succ, List.getElem_cons_zero, List.setIfInBounds_toArray, List.set_cons_zero, List.set_cons_succ])
  refine wpAnyH_ready (rs := [21]) (by kernel_rfl) (by simp) ?_
  refine AllReadyH.cons rfl (fun K hK => ?_) AllReadyH.nil
  go_simp
  refine hK.out _ _ ?_ (fun hHeld2 => ?_)
  · exact ⟨row_al hHeld.1 _ (by have := hHeld.2.s; omega), hHeld.2.al _⟩
  clear hK K hHeld; have hHeld := hHeld2; clear hHeld2
  (try simp only [Act.put, List.getElem_toArray, List.getElem_cons_succ, List.getElem_cons_zero, List.setIfInBounds_toArray, List.set_cons_zero, List.set_cons_succ])
  refine wpAnyH_ready (rs := [22]) (by kernel_rfl) (by simp) ?_
  refine AllReadyH.cons rfl (fun K hK => ?_) AllReadyH.nil
  go_simp
  (go_at_call 49; (with_reducible_and_instances refine (G4.out _ _ (by go_simp)).mono ?_); rintro e w1 ⟨rfl, hb⟩)
  (try go_wp2_with fail)
  refine hK.out _ _ ?_ (fun hHeld2 => ?_)
  · exact ⟨row_on hHeld.1 hb (by have := hHeld.2.s; omega), hHeld.2.on hb⟩
  clear hK K hHeld; have hHeld := hHeld2; clear hHeld2
  (try simp only [Act.put, List.getElem_toArray, List.getElem_cons_succ, List.getElem_cons_zero, List.setIfInBounds_toArray, List.set_cons_zero, List.set_cons_succ])
  refine wpAnyH_ready (rs := [23]) (by kernel_rfl) (by simp) ?_
  refine AllReadyH.cons rfl (fun K hK => ?_) AllReadyH.nil
  go_simp
  (go_at_call 100; (with_reducible_and_instances refine (G5.out _).mono ?_); rintro e w1 ⟨rfl, hb⟩; obtain ⟨z0, z1, z2, z3, z4, qc, qf⟩ := (hHeld.2.r.on hb hHeld.2.s).cells; unfold abVal)
  (try go_wp2_with fail)
  refine hK.out _ _ ?_ (fun hHeld2 => ?_)
  · exact ⟨row_on hHeld.1 hb (by have := hHeld.2.s; omega), hHeld.2.on hb⟩
  clear hK K hHeld; have hHeld := hHeld2; clear hHeld2
  (try simp only [Act.put, List.getElem_toArray, List.getElem_cons_succ, List.getElem_cons_zero, List.setIfInBounds_toArray, List.set_cons_zero, List.set_cons_succ])
  refine wpAnyH_ready (rs := [24]) (by kernel_rfl) (by simp) ?_
  refine AllReadyH.cons rfl (fun K hK => ?_) AllReadyH.nil
  go_simp
  refine hK.out _ _ ?_ (fun hHeld2 => ?_)
  · exact ⟨row_set5 hHeld.1 _ _ _ _ _ (by omega), hHeld.2.set5 _ _ _ _ _⟩
  clear hK K hHeld; have hHeld := hHeld2; clear hHeld2
  (try simp only [Act.put, List.getElem_toArray, List.getElem_cons_succ, List.getElem_cons_zero, List.setIfInBounds_toArray, List.set_cons_zero, List.set_cons_succ])
  refine wpAnyH_done (by kernel_rfl) ?_ _
  go_wp2_with fail
  exact bodyPost_ret (v := abVal z) (by simp [results, Try.results74, go_sem, abVal, qc]) rfl ⟨rfl, hHeld.2.b⟩

end Go.Proofs.Ytlokjiniigfaiaa
