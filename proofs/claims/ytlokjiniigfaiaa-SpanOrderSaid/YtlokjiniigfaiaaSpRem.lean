/- The contract of span's pair.rem where the second set has one value. -/
import Derived.Test.YtlokjiniigfaiaaSpKeep
set_option linter.unusedVariables false
set_option linter.unusedSimpArgs false
namespace Go.Proofs.Ytlokjiniigfaiaa
open Go.ChangeShapes Go.WideShapes Go.ChangeAt Go.RowKit

/-- What is known of a world: the pair, the place of the result, the copy of the first set. -/
def RemAt (l1 h1 m1 r1 k1 l2 h2 m2 r2 k2 k c : Int) (n : Nat) (w wx : World) : Prop :=
  (∀ i, wx.cell? ⟨w.heap.size, i, none⟩ = #[Value.int .i64 l1, .int .i64 h1, .int .i64 m1, .int .i64 r1, .int .i64 k1, .int .i64 l2, .int .i64 h2, .int .i64 m2, .int .i64 r2, .int .i64 k2, .int .i64 k][i]?) ∧ (∀ i, wx.cell? ⟨n, i, none⟩ = #[Value.int .i64 l1, .int .i64 h1, .int .i64 m1, .int .i64 r1, .int .i64 c][i]?) ∧ Kept w (w.heap.size + 1) wx ∧ Kept w n wx ∧ w.heap.size + 2 ≤ n

theorem RemAt.set {l1 h1 m1 r1 k1 l2 h2 m2 r2 k2 k c : Int} {n : Nat} {w wx : World} (h : RemAt l1 h1 m1 r1 k1 l2 h2 m2 r2 k2 k c n w wx) (d : Int) : RemAt l1 h1 m1 r1 k1 l2 h2 m2 r2 k2 k d n w (wx.setCell ⟨n, 4, none⟩ (.int .i64 d)) := by
  obtain ⟨q1, q2, q3, q4, q5⟩ := h
  obtain ⟨v0, v1, v2, v3, v4, t, hh⟩ := q4.r
  have hc := cell_of hh
  have e0 := (hc 0).symm.trans (q2 0)
  have e1 := (hc 1).symm.trans (q2 1)
  have e2 := (hc 2).symm.trans (q2 2)
  have e3 := (hc 3).symm.trans (q2 3)
  simp only [List.getElem?_toArray, List.getElem?_cons_zero, List.getElem?_cons_succ, Option.some.injEq] at e0 e1 e2 e3
  subst e0 e1 e2 e3
  have hs := setCell_heap wx n 4 (.int .i64 d) _ t hh
  exact ⟨row_set q1 _ (by omega), cell_of hs, q3.seto q4.h _ (by omega), ⟨q4.b.setCell q4.h _, ⟨_, _, _, _, _, t, hs⟩, q4.h, by simpa [World.setCell] using q4.s⟩, q5⟩

set_option maxRecDepth 100000 in
set_option maxHeartbeats 4000000 in
theorem rem_like (l1 h1 m1 r1 k1 l2 m2 r2 k2 k n g lo hi : Int) (b1 : -2147483648 ≤ l1 ∧ l1 ≤ h1 ∧ h1 ≤ 2147483647) (b2 : -2147483648 ≤ l2 ∧ l2 ≤ 2147483647) (hn : absS l2 = n) (hn0 : 0 < n) (hid : (l1 < 0) ∨ n ≤ h1)
    (s1 : 0 ≤ (if l1 = h1 then 0 else m1) ∧ (if l1 = h1 then 0 else m1) ≤ 4611686018427387904) (hg : (Int.gcd (if l1 = h1 then 0 else m1) n : Int) = g)
    (hlo : max (min l1 0) (1 - n) = lo) (hhi : min (max h1 0) (n - 1) = hi) (hfit : lo + (l1 - lo) % g ≤ hi) (w : World) :
    Calls Try.prog 78 #[.agg #[.int .i64 l1, .int .i64 h1, .int .i64 m1, .int .i64 r1, .int .i64 k1, .int .i64 l2, .int .i64 l2, .int .i64 m2, .int .i64 r2, .int .i64 k2, .int .i64 k]] w fun e w' => e = .returned (abVal (likeS l1 g lo hi k)) ∧ Below w.heap.size w w' := by
  have hg1 : 0 < g ∧ g ≤ 2147483648 := by
    have i1 : (Int.gcd (if l1 = h1 then 0 else m1) n : Int) ∣ n := Int.gcd_dvd_right ..
    have i2 := Int.le_of_dvd hn0 i1
    have i3 : 0 < Int.gcd (if l1 = h1 then 0 else m1) n := Int.gcd_pos_of_ne_zero_right _ (by omega)
    unfold absS at hn
    omega
  have hnb : n ≤ 2147483648 := by unfold absS at hn; omega
  have G0 := abs_G l2 n (by omega) hn
  have G1 : Hid (∀ w', Calls Try.prog 44 #[.agg #[.int .i64 l1, .int .i64 h1, .int .i64 m1, .int .i64 r1, .int .i64 k]] w' fun e w2 => e = .returned (.int .i64 (if l1 = h1 then 0 else m1)) ∧ Below w'.heap.size w' w2) := Lib.hid fun w' => step_is _ _ _ _ _ w'
  have G2 : Hid (∀ w', Calls Try.prog 44 #[.agg #[.int .i64 l2, .int .i64 l2, .int .i64 m2, .int .i64 r2, .int .i64 k2]] w' fun e w2 => e = .returned (.int .i64 0) ∧ Below w'.heap.size w' w2) := Lib.hid fun w' => (step_is l2 l2 m2 r2 k2 w').mono fun e w2 h => by simpa using h
  generalize (if l1 = h1 then (0 : Int) else m1) = x1 at *
  have G4 : Hid (∀ b w', w'.cell? ⟨b, 0, none⟩ = some (.int .i64 n) → Calls Try.prog 49 #[.int .i64 x1, .slice (some ⟨b, 0, none⟩) 1 1] w' fun e w2 => e = .returned (.int .i64 g) ∧ Below w'.heap.size w' w2) := Lib.hid fun b w' q1 => by
    have := gcd_is x1 [n] (by omega) (by simp; omega) (some ⟨b, 0, none⟩) 1 w' (ints_one q1) (by simp only [gcdS]; omega)
    simp only [gcdS, hg] at this
    exact this
  have G5 : Hid (∀ w', Calls Try.prog 51 #[.int .i64 l1, .int .i64 g, .int .i64 lo, .int .i64 hi, .int .i64 k] w' fun e w2 => e = .returned (abVal (likeS l1 g lo hi k)) ∧ Below w'.heap.size w' w2) :=
    Lib.hid fun w' => like_is l1 g lo hi k (by omega) hfit (by omega) (by omega) hg1.1 (by omega) w'
  have e1 : (if 0 < l1 then (0 : Int) else l1) = min l1 0 := by split <;> omega
  have e2 : (if min l1 0 < 1 - n then 1 - n else min l1 0) = lo := by split <;> omega
  have e3 : (if h1 < 0 then (0 : Int) else h1) = max h1 0 := by split <;> omega
  have e4 : (if n - 1 < max h1 0 then n - 1 else max h1 0) = hi := by split <;> omega
  have hw1 : IntKind.i64.wrap (1 - n) = 1 - n := IntWalk.i64_in _ (by omega)
  have hw2 : IntKind.i64.wrap (n - 1) = n - 1 := IntWalk.i64_in _ (by omega)
  have hnz : (n == 0) = false := by simp; omega
  generalize hmn : min l1 0 = mn at *
  generalize hmx : max h1 0 = mx at *
  generalize likeS l1 g lo hi k = z at *
  have HID : (l1 < 0) ∨ (0 ≤ l1 ∧ ¬ h1 < n) := by omega
  clear hg hg1 hnb hlo hhi hfit hn hn0 b1 b2 s1 hid hmn hmx
  go_enter Try.func78, Try.ntmps78
  go_upto_region 1 with fail
  go_cut [3, 4] (fun s3 s4 wx => ∃ b, s3 = .pointer (some ⟨b, 0, none⟩) ∧ s4 = .int .i64 n ∧ RemAt l1 h1 m1 r1 k1 l2 l2 m2 r2 k2 k k1 b w wx)
  case first =>
    have kR : Kept w (w.heap.size + 1) ((w.alloc _).alloc _) := Kept.new ((Below.refl _ _).alloc (Nat.le_refl _) (.cells #[Value.int .i64 l1, .int .i64 h1, .int .i64 m1, .int .i64 r1, .int .i64 k1, .int .i64 l2, .int .i64 l2, .int .i64 m2, .int .i64 r2, .int .i64 k2, .int .i64 k] 72)) (by simp) (Value.int .i64 0) (Value.int .i64 0) (Value.int .i64 0) (Value.int .i64 0) (Value.int .i64 0) 27
    refine region_start2 (S := (fun w' => (∀ i, w'.cell? ⟨w.heap.size, i, none⟩ = #[Value.int .i64 l1, .int .i64 h1, .int .i64 m1, .int .i64 r1, .int .i64 k1, .int .i64 l2, .int .i64 l2, .int .i64 m2, .int .i64 r2, .int .i64 k2, .int .i64 k][i]?) ∧ Kep w 2 w')) (F := fun v => Kept w (w.heap.size + 1) v) (by kernel_rfl) (⟨row_drew (row_al (row_new _ _ _) _ (by simp)), (⟨((Below.refl _ _).alloc (Nat.le_refl _) _).alloc (by simp) _, by simp⟩ : Kep w 2 _).drew⟩) (kR.drew) ?_
    intro v0 hHeld hF
    have kR := hF
    refine' wpAnyH_take (i := 0) rfl (by kernel_rfl) (by kernel_rfl) (by kernel_rfl) (fun _ _ _ h => h) (Or.inl ⟨by rfl, by (intro wS hSw; (try dsimp only at hSw); go_simp <;> with_reducible rfl)⟩) (by assumption) _
    (try simp only [Act.put, List.getElem_toArray, List.getElem_cons_succ, List.getElem_cons_zero, List.setIfInBounds_toArray, List.set_cons_zero, List.set_cons_succ])
    refine' wpAnyH_take (i := 1) rfl (by kernel_rfl) (by kernel_rfl) (by kernel_rfl) (fun _ _ _ h => h) (Or.inl ⟨by rfl, by (intro wS hSw; (try dsimp only at hSw); go_simp <;> with_reducible rfl)⟩) (by assumption) _
    (try simp only [Act.put, List.getElem_toArray, List.getElem_cons_succ, List.getElem_cons_zero, List.setIfInBounds_toArray, List.set_cons_zero, List.set_cons_succ])
    refine' wpAnyH_take (i := 2) rfl (by kernel_rfl) (by kernel_rfl) (by kernel_rfl) (fun _ _ _ h => h) (Or.inl ⟨by rfl, by (intro wS hSw; (try dsimp only at hSw); go_simp <;> with_reducible rfl)⟩) (by assumption) _
    (try simp only [Act.put, List.getElem_toArray, List.getElem_cons_succ, List.getElem_cons_zero, List.setIfInBounds_toArray, List.set_cons_zero, List.set_cons_succ])
    refine' wpAnyH_take (i := 3) rfl (by kernel_rfl) (by kernel_rfl) (by kernel_rfl) (fun _ _ _ h => h) (Or.inl ⟨by rfl, by (intro wS hSw; (try dsimp only at hSw); go_simp <;> with_reducible rfl)⟩) (by assumption) _
    (try simp only [Act.put, List.getElem_toArray, List.getElem_cons_succ, List.getElem_cons_zero, List.setIfInBounds_toArray, List.set_cons_zero, List.set_cons_succ])
    refine' wpAnyH_take (i := 4) rfl (by kernel_rfl) (by kernel_rfl) (by kernel_rfl) (fun _ _ _ h => h) (Or.inl ⟨by rfl, by (intro wS hSw; (try dsimp only at hSw); go_simp <;> with_reducible rfl)⟩) (by assumption) _
    (try simp only [Act.put, List.getElem_toArray, List.getElem_cons_succ, List.getElem_cons_zero, List.setIfInBounds_toArray, List.set_cons_zero, List.set_cons_succ])
    refine wpAnyH_ready (rs := [5, 6]) (by kernel_rfl) (by simp) ?_
    refine AllReadyH.cons rfl (fun K hK => ?_) ?_
    · go_simp
      (go_at_call 50; (with_reducible_and_instances refine (G0.out _).mono ?_); rintro e v1 ⟨rfl, hb⟩)
      (try go_wp2_with fail)
      refine hK.out _ _ ?_ (fun hHeld2 => ?_)
      · exact ⟨row_on hHeld.1 hb (by have := hHeld.2.s; omega), hHeld.2.on hb⟩
      have kR := kR.on hb
      clear hb
      clear hK K hHeld; have hHeld := hHeld2; clear hHeld2
      (try simp only [Act.put, List.getElem_toArray, List.getElem_cons_succ, List.getElem_cons_zero, List.setIfInBounds_toArray, List.set_cons_zero, List.set_cons_succ])
      refine wpAnyH_ready (rs := [6]) (by kernel_rfl) (by simp) ?_
      refine AllReadyH.cons rfl (fun K hK => ?_) AllReadyH.nil
      go_simp
      refine hK.out _ _ ?_ (fun hHeld2 => ?_)
      · exact ⟨row_al hHeld.1 _ (by have := hHeld.2.s; omega), hHeld.2.al _⟩
      have nRA : w.heap.size + 1 < v1.heap.size := kR.s
      have nA : w.heap.size + 2 ≤ v1.heap.size := hHeld.2.s
      have kR := kR.al (.cells #[Value.int .i64 0, Value.int .i64 0, Value.int .i64 0, Value.int .i64 0, Value.int .i64 0] 27)
      have kA := Kept.new (w := w) hHeld.2.b rfl (Value.int .i64 0) (Value.int .i64 0) (Value.int .i64 0) (Value.int .i64 0) (Value.int .i64 0) 27
      clear hK K hHeld; have hHeld := hHeld2; clear hHeld2
      generalize World.alloc v1 (.cells #[Value.int .i64 0, Value.int .i64 0, Value.int .i64 0, Value.int .i64 0, Value.int .i64 0] 27) = v2 at *
      (try simp only [Act.put, List.getElem_toArray, List.getElem_cons_succ, List.getElem_cons_zero, List.setIfInBounds_toArray, List.set_cons_zero, List.set_cons_succ])
      refine wpAnyH_ready (rs := [7]) (by kernel_rfl) (by simp) ?_
      refine AllReadyH.cons rfl (fun K hK => ?_) AllReadyH.nil
      obtain ⟨z0, z1, z2, z3, z4, qc, qf⟩ := kA.r.cells
      go_simp
      clear qc qf
      refine hK.out _ _ ?_ (fun hHeld2 => ?_)
      · exact ⟨row_set5 hHeld.1 _ _ _ _ _  (by omega), hHeld.2.set5 _ _ _ _ _  (by omega)⟩
      have kR := kR.set5o (v1.heap.size) (Value.int .i64 l1) (Value.int .i64 h1) (Value.int .i64 m1) (Value.int .i64 r1) (Value.int .i64 k1) (by omega)
      have rA := kA.r.put (Value.int .i64 l1) (Value.int .i64 h1) (Value.int .i64 m1) (Value.int .i64 r1) (Value.int .i64 k1)
      have kA := kA.set5 (Value.int .i64 l1) (Value.int .i64 h1) (Value.int .i64 m1) (Value.int .i64 r1) (Value.int .i64 k1)
      clear hK K hHeld; have hHeld := hHeld2; clear hHeld2
      (try simp only [Act.put, List.getElem_toArray, List.getElem_cons_succ, List.getElem_cons_zero, List.setIfInBounds_toArray, List.set_cons_zero, List.set_cons_succ])
      refine' wpAnyH_take (i := 8) rfl (by kernel_rfl) (by kernel_rfl) (by kernel_rfl) (fun _ _ _ h => h) (Or.inl ⟨by rfl, by (intro wS hSw; (try dsimp only at hSw); go_simp <;> with_reducible rfl)⟩) (by assumption) _
      (try simp only [Act.put, List.getElem_toArray, List.getElem_cons_succ, List.getElem_cons_zero, List.setIfInBounds_toArray, List.set_cons_zero, List.set_cons_succ])
      refine wpAnyH_done (by kernel_rfl) ?_ _
      go_wp2_with fail
      go_meet
      exact ⟨_, rfl, rfl, hHeld.1, rA, kR, kA, nA⟩
    refine AllReadyH.cons rfl (fun K hK => ?_) ?_
    · go_simp
      refine hK.out _ _ ?_ (fun hHeld2 => ?_)
      · exact ⟨row_al hHeld.1 _ (by have := hHeld.2.s; omega), hHeld.2.al _⟩
      have nRA : w.heap.size + 1 < v0.heap.size := kR.s
      have nA : w.heap.size + 2 ≤ v0.heap.size := hHeld.2.s
      have kR := kR.al (.cells #[Value.int .i64 0, Value.int .i64 0, Value.int .i64 0, Value.int .i64 0, Value.int .i64 0] 27)
      have kA := Kept.new (w := w) hHeld.2.b rfl (Value.int .i64 0) (Value.int .i64 0) (Value.int .i64 0) (Value.int .i64 0) (Value.int .i64 0) 27
      clear hK K hHeld; have hHeld := hHeld2; clear hHeld2
      generalize World.alloc v0 (.cells #[Value.int .i64 0, Value.int .i64 0, Value.int .i64 0, Value.int .i64 0, Value.int .i64 0] 27) = v3 at *
      (try simp only [Act.put, List.getElem_toArray, List.getElem_cons_succ, List.getElem_cons_zero, List.setIfInBounds_toArray, List.set_cons_zero, List.set_cons_succ])
      refine wpAnyH_ready (rs := [5]) (by kernel_rfl) (by simp) ?_
      refine AllReadyH.cons rfl (fun K hK => ?_) AllReadyH.nil
      go_simp
      (go_at_call 50; (with_reducible_and_instances refine (G0.out _).mono ?_); rintro e v4 ⟨rfl, hb⟩)
      (try go_wp2_with fail)
      refine hK.out _ _ ?_ (fun hHeld2 => ?_)
      · exact ⟨row_on hHeld.1 hb (by have := hHeld.2.s; omega), hHeld.2.on hb⟩
      have kR := kR.on hb
      have kA := kA.on hb
      clear hb
      clear hK K hHeld; have hHeld := hHeld2; clear hHeld2
      (try simp only [Act.put, List.getElem_toArray, List.getElem_cons_succ, List.getElem_cons_zero, List.setIfInBounds_toArray, List.set_cons_zero, List.set_cons_succ])
      refine wpAnyH_ready (rs := [7]) (by kernel_rfl) (by simp) ?_
      refine AllReadyH.cons rfl (fun K hK => ?_) AllReadyH.nil
      obtain ⟨z0, z1, z2, z3, z4, qc, qf⟩ := kA.r.cells
      go_simp
      clear qc qf
      refine hK.out _ _ ?_ (fun hHeld2 => ?_)
      · exact ⟨row_set5 hHeld.1 _ _ _ _ _  (by omega), hHeld.2.set5 _ _ _ _ _  (by omega)⟩
      have kR := kR.set5o (v0.heap.size) (Value.int .i64 l1) (Value.int .i64 h1) (Value.int .i64 m1) (Value.int .i64 r1) (Value.int .i64 k1) (by omega)
      have rA := kA.r.put (Value.int .i64 l1) (Value.int .i64 h1) (Value.int .i64 m1) (Value.int .i64 r1) (Value.int .i64 k1)
      have kA := kA.set5 (Value.int .i64 l1) (Value.int .i64 h1) (Value.int .i64 m1) (Value.int .i64 r1) (Value.int .i64 k1)
      clear hK K hHeld; have hHeld := hHeld2; clear hHeld2
      (try simp only [Act.put, List.getElem_toArray, List.getElem_cons_succ, List.getElem_cons_zero, List.setIfInBounds_toArray, List.set_cons_zero, List.set_cons_succ])
      refine' wpAnyH_take (i := 8) rfl (by kernel_rfl) (by kernel_rfl) (by kernel_rfl) (fun _ _ _ h => h) (Or.inl ⟨by rfl, by (intro wS hSw; (try dsimp only at hSw); go_simp <;> with_reducible rfl)⟩) (by assumption) _
      (try simp only [Act.put, List.getElem_toArray, List.getElem_cons_succ, List.getElem_cons_zero, List.setIfInBounds_toArray, List.set_cons_zero, List.set_cons_succ])
      refine wpAnyH_done (by kernel_rfl) ?_ _
      go_wp2_with fail
      go_meet
      exact ⟨_, rfl, rfl, hHeld.1, rA, kR, kA, nA⟩
    exact AllReadyH.nil
  case rest =>
    obtain ⟨b, rfl, rfl, hR⟩ := hcut
    obtain ⟨q1, q2, q3, q4, q5⟩ := hR
    go_wp2_with fail
    refine (G2.out _).mono ?_
    rintro e w1 ⟨rfl, hb⟩
    have hR2 : RemAt l1 h1 m1 r1 k1 l2 l2 m2 r2 k2 k k1 b w w1 := ⟨row_on q1 hb (by have := q3.s; omega), row_on q2 hb q4.s, q3.on hb, q4.on hb, q5⟩
    have HX := Lib.hid (hR2.set k)
    clear q1 q2 q3 q4 hb
    obtain ⟨q1, q2, q3, q4, _⟩ := hR2
    obtain ⟨z0, z1, z2, z3, z4, qc, qf⟩ := q4.r.cells
    clear qc
    go_upto_region 5 with fail
    have hx := HX.out
    clear q1 q2 q3 q4 qf HX
    generalize World.setCell w1 ⟨b, 4, none⟩ (.int .i64 k) = wc at *
    obtain ⟨q1, q2, q3, q4, _⟩ := hx
    rcases HID with h | ⟨h, h'⟩
    all_goals
      go_wp2_with fail
      refine wp_region_held_drew (S := (fun w' => (∀ i, w'.cell? ⟨w.heap.size, i, none⟩ = #[Value.int .i64 l1, .int .i64 h1, .int .i64 m1, .int .i64 r1, .int .i64 k1, .int .i64 l2, .int .i64 l2, .int .i64 m2, .int .i64 r2, .int .i64 k2, .int .i64 k][i]?) ∧ (∀ i, w'.cell? ⟨b, i, none⟩ = #[Value.int .i64 l1, .int .i64 h1, .int .i64 m1, .int .i64 r1, .int .i64 k][i]?) ∧ b < w'.heap.size ∧ w.heap.size + 2 ≤ b ∧ Kept w (w.heap.size + 1) w')) (by kernel_rfl) ?_ (fun hHeld => ?_)
      · exact ⟨row_drew q1, row_drew q2, q4.s, q5, q3.drew⟩
      refine' wpAnyH_take (i := 0) rfl (by kernel_rfl) (by kernel_rfl) (by kernel_rfl) (fun _ _ _ h => h) (Or.inl ⟨by rfl, by (intro wS hSw; (try dsimp only at hSw); go_simp <;> with_reducible rfl)⟩) (by assumption) _
      (try simp only [Act.put, List.getElem_toArray, List.getElem_cons_succ, List.getElem_cons_zero, List.setIfInBounds_toArray, List.set_cons_zero, List.set_cons_succ])
      refine' wpAnyH_take (i := 1) rfl (by kernel_rfl) (by kernel_rfl) (by kernel_rfl) (fun _ _ _ h => h) (Or.inl ⟨by rfl, by (intro wS hSw; (try dsimp only at hSw); go_simp <;> with_reducible rfl)⟩) (by assumption) _
      (try simp only [Act.put, List.getElem_toArray, List.getElem_cons_succ, List.getElem_cons_zero, List.setIfInBounds_toArray, List.set_cons_zero, List.set_cons_succ])
      refine' wpAnyH_take (i := 2) rfl (by kernel_rfl) (by kernel_rfl) (by kernel_rfl) (fun _ _ _ h => h) (Or.inl ⟨by rfl, by (intro wS hSw; (try dsimp only at hSw); go_simp <;> with_reducible rfl)⟩) (by assumption) _
      (try simp only [Act.put, List.getElem_toArray, List.getElem_cons_succ, List.getElem_cons_zero, List.setIfInBounds_toArray, List.set_cons_zero, List.set_cons_succ])
      refine' wpAnyH_take (i := 4) rfl (by kernel_rfl) (by kernel_rfl) (by kernel_rfl) (fun _ _ _ h => h) (Or.inl ⟨by rfl, by (intro wS hSw; (try dsimp only at hSw); go_simp <;> with_reducible rfl)⟩) (by assumption) _
      (try simp only [Act.put, List.getElem_toArray, List.getElem_cons_succ, List.getElem_cons_zero, List.setIfInBounds_toArray, List.set_cons_zero, List.set_cons_succ])
      refine' wpAnyH_take (i := 7) rfl (by kernel_rfl) (by kernel_rfl) (by kernel_rfl) (fun _ _ _ h => h) (Or.inl ⟨by rfl, by (intro wS hSw; (try dsimp only at hSw); go_simp <;> with_reducible rfl)⟩) (by assumption) _
      (try simp only [Act.put, List.getElem_toArray, List.getElem_cons_succ, List.getElem_cons_zero, List.setIfInBounds_toArray, List.set_cons_zero, List.set_cons_succ])
      refine' wpAnyH_take (i := 8) rfl (by kernel_rfl) (by kernel_rfl) (by kernel_rfl) (fun _ _ _ h => h) (Or.inl ⟨by rfl, by (intro wS hSw; (try dsimp only at hSw); go_simp <;> with_reducible rfl)⟩) (by assumption) _
      (try simp only [Act.put, List.getElem_toArray, List.getElem_cons_succ, List.getElem_cons_zero, List.setIfInBounds_toArray, List.set_cons_zero, List.set_cons_succ])
      refine' wpAnyH_take (i := 9) rfl (by kernel_rfl) (by kernel_rfl) (by kernel_rfl) (fun _ _ _ h => h) (Or.inl ⟨by rfl, by (intro wS hSw; (try dsimp only at hSw); go_simp <;> with_reducible rfl)⟩) (by assumption) _
      (try simp only [Act.put, List.getElem_toArray, List.getElem_cons_succ, List.getElem_cons_zero, List.setIfInBounds_toArray, List.set_cons_zero, List.set_cons_succ])
      refine' wpAnyH_take (i := 10) rfl (by kernel_rfl) (by kernel_rfl) (by kernel_rfl) (fun _ _ _ h => h) (Or.inl ⟨by rfl, by (intro wS hSw; (try dsimp only at hSw); go_simp <;> with_reducible rfl)⟩) (by assumption) _
      (try simp only [Act.put, List.getElem_toArray, List.getElem_cons_succ, List.getElem_cons_zero, List.setIfInBounds_toArray, List.set_cons_zero, List.set_cons_succ])
      refine' wpAnyH_take (i := 11) rfl (by kernel_rfl) (by kernel_rfl) (by kernel_rfl) (fun _ _ _ h => h) (Or.inl ⟨by rfl, by (intro wS hSw; (try dsimp only at hSw); go_simp <;> with_reducible rfl)⟩) (by assumption) _
      (try simp only [Act.put, List.getElem_toArray, List.getElem_cons_succ, List.getElem_cons_zero, List.setIfInBounds_toArray, List.set_cons_zero, List.set_cons_succ])
      refine' wpAnyH_take (i := 12) rfl (by kernel_rfl) (by kernel_rfl) (by kernel_rfl) (fun _ _ _ h => h) (Or.inl ⟨by rfl, by (intro wS hSw; (try dsimp only at hSw); go_simp <;> with_reducible rfl)⟩) (by assumption) _
      (try simp only [Act.put, List.getElem_toArray, List.getElem_cons_succ, List.getElem_cons_zero, List.setIfInBounds_toArray, List.set_cons_zero, List.set_cons_succ])
      refine' wpAnyH_take (i := 13) rfl (by kernel_rfl) (by kernel_rfl) (by kernel_rfl) (fun _ _ _ h => h) (Or.inl ⟨by rfl, by (intro wS hSw; (try dsimp only at hSw); go_simp <;> with_reducible rfl)⟩) (by assumption) _
      (try simp only [Act.put, List.getElem_toArray, List.getElem_cons_succ, List.getElem_cons_zero, List.setIfInBounds_toArray, List.set_cons_zero, List.set_cons_succ])
      refine' wpAnyH_take (i := 14) rfl (by kernel_rfl) (by kernel_rfl) (by kernel_rfl) (fun _ _ _ h => h) (Or.inl ⟨by rfl, by (intro wS hSw; (try dsimp only at hSw); go_simp <;> with_reducible rfl)⟩) (by assumption) _
      (try simp only [Act.put, List.getElem_toArray, List.getElem_cons_succ, List.getElem_cons_zero, List.setIfInBounds_toArray, List.set_cons_zero, List.set_cons_succ])
      refine' wpAnyH_take (i := 15) rfl (by kernel_rfl) (by kernel_rfl) (by kernel_rfl) (fun _ _ _ h => h) (Or.inl ⟨by rfl, by (intro wS hSw; (try dsimp only at hSw); go_simp <;> with_reducible rfl)⟩) (by assumption) _
      (try simp only [Act.put, List.getElem_toArray, List.getElem_cons_succ, List.getElem_cons_zero, List.setIfInBounds_toArray, List.set_cons_zero, List.set_cons_succ])
      refine' wpAnyH_take (i := 16) rfl (by kernel_rfl) (by kernel_rfl) (by kernel_rfl) (fun _ _ _ h => h) (Or.inl ⟨by rfl, by (intro wS hSw; (try dsimp only at hSw); go_simp <;> with_reducible rfl)⟩) (by assumption) _
      (try simp only [Act.put, List.getElem_toArray, List.getElem_cons_succ, List.getElem_cons_zero, List.setIfInBounds_toArray, List.set_cons_zero, List.set_cons_succ])
      refine' wpAnyH_take (i := 17) rfl (by kernel_rfl) (by kernel_rfl) (by kernel_rfl) (fun _ _ _ h => h) (Or.inl ⟨by rfl, by (intro wS hSw; (try dsimp only at hSw); go_simp <;> with_reducible rfl)⟩) (by assumption) _
      (try simp only [Act.put, List.getElem_toArray, List.getElem_cons_succ, List.getElem_cons_zero, List.setIfInBounds_toArray, List.set_cons_zero, List.set_cons_succ])
      refine' wpAnyH_take (i := 18) rfl (by kernel_rfl) (by kernel_rfl) (by kernel_rfl) (fun _ _ _ h => h) (Or.inl ⟨by rfl, by (intro wS hSw; (try dsimp only at hSw); go_simp <;> with_reducible rfl)⟩) (by assumption) _
      (try simp only [Act.put, List.getElem_toArray, List.getElem_cons_succ, List.getElem_cons_zero, List.setIfInBounds_toArray, List.set_cons_zero, List.set_cons_succ])
      refine' wpAnyH_take (i := 19) rfl (by kernel_rfl) (by kernel_rfl) (by kernel_rfl) (fun _ _ _ h => h) (Or.inl ⟨by rfl, by (intro wS hSw; (try dsimp only at hSw); go_simp <;> with_reducible rfl)⟩) (by assumption) _
      (try simp only [Act.put, List.getElem_toArray, List.getElem_cons_succ, List.getElem_cons_zero, List.setIfInBounds_toArray, List.set_cons_zero, List.set_cons_succ])
      refine' wpAnyH_take (i := 20) rfl (by kernel_rfl) (by kernel_rfl) (by kernel_rfl) (fun _ _ _ h => h) (Or.inl ⟨by rfl, by (intro wS hSw; (try dsimp only at hSw); go_simp <;> with_reducible rfl)⟩) (by assumption) _
      (try simp only [Act.put, List.getElem_toArray, List.getElem_cons_succ, List.getElem_cons_zero, List.setIfInBounds_toArray, List.set_cons_zero, List.set_cons_succ])
      refine wpAnyH_ready (rs := [3, 5]) (by kernel_rfl) (by simp) ?_
      refine AllReadyH.cons rfl (fun K hK => ?_) ?_
      · go_simp
        (go_at_call 44; (with_reducible_and_instances refine (G1.out _).mono ?_); rintro e w1 ⟨rfl, hb⟩)
        (try go_wp2_with fail)
        refine hK.out _ _ ?_ (fun hHeld2 => ?_)
        · exact ⟨row_on hHeld.1 hb (by have := hHeld.2.2.2.2.s; omega), row_on hHeld.2.1 hb hHeld.2.2.1, Nat.lt_of_lt_of_le hHeld.2.2.1 hb.size, hHeld.2.2.2.1, hHeld.2.2.2.2.on hb⟩
        clear hK K hHeld; have hHeld := hHeld2; clear hHeld2
        (try simp only [Act.put, List.getElem_toArray, List.getElem_cons_succ, List.getElem_cons_zero, List.setIfInBounds_toArray, List.set_cons_zero, List.set_cons_succ])
        refine wpAnyH_ready (rs := [5]) (by kernel_rfl) (by simp) ?_
        refine AllReadyH.cons rfl (fun K hK => ?_) AllReadyH.nil
        go_simp
        refine hK.out _ _ ?_ (fun hHeld2 => ?_)
        · exact ⟨row_al hHeld.1 _ (by have := hHeld.2.2.2.2.s; omega), row_al hHeld.2.1 _ hHeld.2.2.1, Nat.lt_of_lt_of_le hHeld.2.2.1 (by simp), hHeld.2.2.2.1, hHeld.2.2.2.2.al _⟩
        clear hK K hHeld; have hHeld := hHeld2; clear hHeld2
        (try simp only [Act.put, List.getElem_toArray, List.getElem_cons_succ, List.getElem_cons_zero, List.setIfInBounds_toArray, List.set_cons_zero, List.set_cons_succ])
        refine wpAnyH_ready (rs := [6]) (by kernel_rfl) (by simp) ?_
        refine AllReadyH.cons rfl (fun K hK => ?_) AllReadyH.nil
        go_simp
        (go_at_call 49; (with_reducible_and_instances refine (G4.out _ _ (by first | (go_simp; done) | exact (hb.cell (by simp)).trans (by go_simp))).mono ?_); rintro e w1 ⟨rfl, hb⟩)
        (try go_wp2_with fail)
        refine hK.out _ _ ?_ (fun hHeld2 => ?_)
        · exact ⟨row_on hHeld.1 hb (by have := hHeld.2.2.2.2.s; omega), row_on hHeld.2.1 hb hHeld.2.2.1, Nat.lt_of_lt_of_le hHeld.2.2.1 hb.size, hHeld.2.2.2.1, hHeld.2.2.2.2.on hb⟩
        clear hK K hHeld; have hHeld := hHeld2; clear hHeld2
        (try simp only [Act.put, List.getElem_toArray, List.getElem_cons_succ, List.getElem_cons_zero, List.setIfInBounds_toArray, List.set_cons_zero, List.set_cons_succ])
        refine wpAnyH_ready (rs := [21]) (by kernel_rfl) (by simp) ?_
        refine AllReadyH.cons rfl (fun K hK => ?_) AllReadyH.nil
        go_simp
        (go_at_call 51; (with_reducible_and_instances refine (G5.out _).mono ?_); rintro e w1 ⟨rfl, hb⟩; obtain ⟨z0, z1, z2, z3, z4, qc, qf⟩ := (hHeld.2.2.2.2.r.on hb hHeld.2.2.2.2.s).cells; unfold abVal)
        (try go_wp2_with fail)
        refine hK.out _ _ ?_ (fun hHeld2 => ?_)
        · exact ⟨row_on hHeld.1 hb (by have := hHeld.2.2.2.2.s; omega), row_on hHeld.2.1 hb hHeld.2.2.1, Nat.lt_of_lt_of_le hHeld.2.2.1 hb.size, hHeld.2.2.2.1, hHeld.2.2.2.2.on hb⟩
        clear hK K hHeld; have hHeld := hHeld2; clear hHeld2
        (try simp only [Act.put, List.getElem_toArray, List.getElem_cons_succ, List.getElem_cons_zero, List.setIfInBounds_toArray, List.set_cons_zero, List.set_cons_succ])
        refine wpAnyH_ready (rs := [22]) (by kernel_rfl) (by simp) ?_
        refine AllReadyH.cons rfl (fun K hK => ?_) AllReadyH.nil
        go_simp
        refine hK.out _ _ ?_ (fun hHeld2 => ?_)
        · exact ⟨row_set5 hHeld.1 _ _ _ _ _ (by omega), row_set5 hHeld.2.1 _ _ _ _ _ (by have := hHeld.2.2.2.1; omega), by simpa [World.setCell] using hHeld.2.2.1, hHeld.2.2.2.1, hHeld.2.2.2.2.set5 _ _ _ _ _⟩
        clear hK K hHeld; have hHeld := hHeld2; clear hHeld2
        (try simp only [Act.put, List.getElem_toArray, List.getElem_cons_succ, List.getElem_cons_zero, List.setIfInBounds_toArray, List.set_cons_zero, List.set_cons_succ])
        refine wpAnyH_done (by kernel_rfl) ?_ _
        go_wp2_with fail
        exact bodyPost_ret (v := abVal z) (by simp [results, Try.results78, go_sem, abVal, qc]) rfl ⟨rfl, hHeld.2.2.2.2.b⟩
      refine AllReadyH.cons rfl (fun K hK => ?_) ?_
      · go_simp
        refine hK.out _ _ ?_ (fun hHeld2 => ?_)
        · exact ⟨row_al hHeld.1 _ (by have := hHeld.2.2.2.2.s; omega), row_al hHeld.2.1 _ hHeld.2.2.1, Nat.lt_of_lt_of_le hHeld.2.2.1 (by simp), hHeld.2.2.2.1, hHeld.2.2.2.2.al _⟩
        clear hK K hHeld; have hHeld := hHeld2; clear hHeld2
        (try simp only [Act.put, List.getElem_toArray, List.getElem_cons_succ, List.getElem_cons_zero, List.setIfInBounds_toArray, List.set_cons_zero, List.set_cons_succ])
        refine wpAnyH_ready (rs := [3]) (by kernel_rfl) (by simp) ?_
        refine AllReadyH.cons rfl (fun K hK => ?_) AllReadyH.nil
        go_simp
        (go_at_call 44; (with_reducible_and_instances refine (G1.out _).mono ?_); rintro e w1 ⟨rfl, hb⟩)
        (try go_wp2_with fail)
        refine hK.out _ _ ?_ (fun hHeld2 => ?_)
        · exact ⟨row_on hHeld.1 hb (by have := hHeld.2.2.2.2.s; omega), row_on hHeld.2.1 hb hHeld.2.2.1, Nat.lt_of_lt_of_le hHeld.2.2.1 hb.size, hHeld.2.2.2.1, hHeld.2.2.2.2.on hb⟩
        clear hK K hHeld; have hHeld := hHeld2; clear hHeld2
        (try simp only [Act.put, List.getElem_toArray, List.getElem_cons_succ, List.getElem_cons_zero, List.setIfInBounds_toArray, List.set_cons_zero, List.set_cons_succ])
        refine wpAnyH_ready (rs := [6]) (by kernel_rfl) (by simp) ?_
        refine AllReadyH.cons rfl (fun K hK => ?_) AllReadyH.nil
        go_simp
        (go_at_call 49; (with_reducible_and_instances refine (G4.out _ _ (by first | (go_simp; done) | exact (hb.cell (by simp)).trans (by go_simp))).mono ?_); rintro e w1 ⟨rfl, hb⟩)
        (try go_wp2_with fail)
        refine hK.out _ _ ?_ (fun hHeld2 => ?_)
        · exact ⟨row_on hHeld.1 hb (by have := hHeld.2.2.2.2.s; omega), row_on hHeld.2.1 hb hHeld.2.2.1, Nat.lt_of_lt_of_le hHeld.2.2.1 hb.size, hHeld.2.2.2.1, hHeld.2.2.2.2.on hb⟩
        clear hK K hHeld; have hHeld := hHeld2; clear hHeld2
        (try simp only [Act.put, List.getElem_toArray, List.getElem_cons_succ, List.getElem_cons_zero, List.setIfInBounds_toArray, List.set_cons_zero, List.set_cons_succ])
        refine wpAnyH_ready (rs := [21]) (by kernel_rfl) (by simp) ?_
        refine AllReadyH.cons rfl (fun K hK => ?_) AllReadyH.nil
        go_simp
        (go_at_call 51; (with_reducible_and_instances refine (G5.out _).mono ?_); rintro e w1 ⟨rfl, hb⟩; obtain ⟨z0, z1, z2, z3, z4, qc, qf⟩ := (hHeld.2.2.2.2.r.on hb hHeld.2.2.2.2.s).cells; unfold abVal)
        (try go_wp2_with fail)
        refine hK.out _ _ ?_ (fun hHeld2 => ?_)
        · exact ⟨row_on hHeld.1 hb (by have := hHeld.2.2.2.2.s; omega), row_on hHeld.2.1 hb hHeld.2.2.1, Nat.lt_of_lt_of_le hHeld.2.2.1 hb.size, hHeld.2.2.2.1, hHeld.2.2.2.2.on hb⟩
        clear hK K hHeld; have hHeld := hHeld2; clear hHeld2
        (try simp only [Act.put, List.getElem_toArray, List.getElem_cons_succ, List.getElem_cons_zero, List.setIfInBounds_toArray, List.set_cons_zero, List.set_cons_succ])
        refine wpAnyH_ready (rs := [22]) (by kernel_rfl) (by simp) ?_
        refine AllReadyH.cons rfl (fun K hK => ?_) AllReadyH.nil
        go_simp
        refine hK.out _ _ ?_ (fun hHeld2 => ?_)
        · exact ⟨row_set5 hHeld.1 _ _ _ _ _ (by omega), row_set5 hHeld.2.1 _ _ _ _ _ (by have := hHeld.2.2.2.1; omega), by simpa [World.setCell] using hHeld.2.2.1, hHeld.2.2.2.1, hHeld.2.2.2.2.set5 _ _ _ _ _⟩
        clear hK K hHeld; have hHeld := hHeld2; clear hHeld2
        (try simp only [Act.put, List.getElem_toArray, List.getElem_cons_succ, List.getElem_cons_zero, List.setIfInBounds_toArray, List.set_cons_zero, List.set_cons_succ])
        refine wpAnyH_done (by kernel_rfl) ?_ _
        go_wp2_with fail
        exact bodyPost_ret (v := abVal z) (by simp [results, Try.results78, go_sem, abVal, qc]) rfl ⟨rfl, hHeld.2.2.2.2.b⟩
      exact AllReadyH.nil

end Go.Proofs.Ytlokjiniigfaiaa
