/- Contracts of paroleref01.Wrap, of paroleref10.by and Made, and of parolelaw10.made. -/
import Derived.Test.YtlokjiniigfaiaaSpKeep
set_option linter.unusedVariables false
set_option linter.unusedSimpArgs false
namespace Go.Proofs.Ytlokjiniigfaiaa
open Go.ChangeShapes Go.WideShapes Go.ChangeAt Go.RowKit

set_option maxHeartbeats 1000000 in
theorem rwrap_is (v : Int) (hv : -9223372036854775808 ≤ v ∧ v ≤ 9223372036854775807) (w : World) : Calls Try.prog 21 #[.int .i64 v] w fun e w' => e = .returned (.int .i64 (wrap32 v)) ∧ Below w.heap.size w w' := by
  have h := tmod_bd v 4294967296 (by omega)
  have e := Int.mul_tdiv_add_tmod v 4294967296
  generalize v.tdiv 4294967296 = q at *
  have hx : wrap32 v = wrap32 (v.tmod 4294967296) := by unfold wrap32; omega
  have HX := Lib.hid hx
  clear e hx
  generalize hr : v.tmod 4294967296 = r at *
  have HR := Lib.hid hr
  by_cases h1 : r < -2147483648
  · go_enter Try.func21, Try.ntmps21
    go_wp2
    go_ret
    exact ⟨ret_int (by rw [HX.out]; unfold wrap32; omega), Below.refl _ _⟩
  · by_cases h2 : 2147483647 < r
    · go_enter Try.func21, Try.ntmps21
      go_wp2
      go_ret
      exact ⟨ret_int (by rw [HX.out]; unfold wrap32; omega), Below.refl _ _⟩
    · go_enter Try.func21, Try.ntmps21
      go_wp2
      go_ret
      exact ⟨ret_int (by rw [HX.out]; unfold wrap32; omega), Below.refl _ _⟩

theorem rmod_G (a m n : Int) (hm : 0 < m) (hm2 : m ≤ 4611686018427387904) (hn : a % m = n) : Hid (∀ w, Calls Try.prog 42 #[.int .i64 a, .int .i64 m] w fun e w' => e = .returned (.int .i64 n) ∧ Below w.heap.size w w') :=
  Lib.hid fun w => (rmod_is a m hm hm2 w).mono fun e w' ⟨h1, h2⟩ => ⟨hn ▸ h1, h2 ▸ Below.refl _ _⟩

set_option maxRecDepth 100000 in
set_option maxHeartbeats 1000000 in
theorem rby_is (lo hi m k : Int) (h1 : -4294967296 ≤ lo) (h2 : lo ≤ hi) (h3 : hi ≤ 4294967296) (hm : 0 < m) (hm2 : m ≤ 4294967296) (w : World) :
    Calls Try.prog 54 #[.int .i64 lo, .int .i64 hi, .int .i64 m, .int .i64 k] w fun e w' => e = .returned (abVal (byS lo hi m k)) ∧ Below w.heap.size w w' := by
  have hb := by_dec lo hi m k hm h2
  have h5 : ¬ m = 0 := by omega
  have e1 : (hi - lo) / m * m = hi - lo - (hi - lo) % m := by have := Int.mul_ediv_add_emod (hi - lo) m; rw [Int.mul_comm]; omega
  have e0 : 0 ≤ (hi - lo) / m ∧ (hi - lo) / m ≤ hi - lo := ⟨Int.ediv_nonneg (by omega) (by omega), Int.ediv_le_self _ (by omega)⟩
  have GM := rmod_G lo m (lo % m) hm (by omega) rfl
  have E : byS lo hi m k = if lo = lo + (hi - lo) / m * m then ⟨lo, lo, 1, 0, k⟩ else ⟨lo, lo + (hi - lo) / m * m, m, lo % m, k⟩ := by
    unfold byS; rw [if_pos hm, e1]
    have : lo + (hi - lo - (hi - lo) % m) = hi - (hi - lo) % m := by omega
    rw [this]
  obtain ⟨p, hpp⟩ : ∃ p, p = (hi - lo) / m * m := ⟨_, rfl⟩
  have hp : 0 ≤ p ∧ p ≤ hi - lo := by omega
  rw [← hpp] at E
  have hw : wrap64 ((hi - lo) / m * m) = p := by rw [← hpp, IntWalk.wrap64_in _ (by omega)]
  have hdm : 0 ≤ hi - lo := by omega
  clear e1 hb hpp e0
  by_cases he : lo = lo + p
  · have ht : (lo == lo + p) = true := by simpa using he
    have HE := Lib.hid (E.trans (if_pos he))
    clear E he
    go_enter Try.func54, Try.ntmps54
    go_wp2_with fail
    exact bodyPost_ret (v := abVal ⟨lo, lo, 1, 0, k⟩) (by simp [results, Try.results54, go_sem, abVal]) rfl ⟨by rw [HE.out], (Below.refl _ _).alloc (Nat.le_refl _) _⟩
  · have ht : (lo == lo + p) = false := by simpa using he
    have HE := Lib.hid (E.trans (if_neg he))
    clear E he
    generalize lo % m = r at *
    go_enter Try.func54, Try.ntmps54
    go_wp2_with (go_at_call 42; (with_reducible_and_instances refine (GM.out _).mono ?_); rintro e w1 ⟨rfl, hb⟩; have hK := (Kept.new (Below.refl w.heap.size w) rfl _ _ _ _ _ _).on hb; obtain ⟨z0, z1, z2, z3, z4, qc, qf⟩ := hK.r.cells)
    exact bodyPost_ret (v := abVal ⟨lo, lo + p, m, r, k⟩) (by simp [results, Try.results54, go_sem, abVal, qc]) rfl ⟨by rw [HE.out], (hK.set5 _ _ _ _ _).b⟩

/-- What Made answers. -/
def madeS (a b c d : Int) : Ab := byS (wrap32 a) (min (wrap32 a + (b % 2147483648) / (1 + c % 1048576) * (1 + c % 1048576)) (2147483647 - (2147483647 - wrap32 a) % (1 + c % 1048576))) (1 + c % 1048576) (d % 256)

set_option maxRecDepth 100000 in
set_option maxHeartbeats 4000000 in
theorem rmade_is (a b c d : Int) (ha : -9223372036854775808 ≤ a ∧ a ≤ 9223372036854775807) (w : World) :
    Calls Try.prog 41 #[.agg #[.int .i64 a, .int .i64 b, .int .i64 c, .int .i64 d]] w fun e w' => e = .returned (abVal (madeS a b c d)) ∧ Below w.heap.size w w' := by
  have GW : Hid (∀ w, Calls Try.prog 21 #[.int .i64 a] w fun e w' => e = .returned (.int .i64 (wrap32 a)) ∧ Below w.heap.size w w') := Lib.hid (rwrap_is a ha)
  have G1 := rmod_G c 1048576 _ (by omega) (by omega) rfl
  have G2 := rmod_G b 2147483648 _ (by omega) (by omega) rfl
  have G3 := rmod_G d 256 _ (by omega) (by omega) rfl
  have b1 := wrap32_bd a
  have b2 : 0 ≤ c % 1048576 ∧ c % 1048576 < 1048576 := by omega
  have b3 : 0 ≤ b % 2147483648 ∧ b % 2147483648 < 2147483648 := by omega
  have HE := Lib.hid (show madeS a b c d = byS (wrap32 a) (min (wrap32 a + (b % 2147483648) / (1 + c % 1048576) * (1 + c % 1048576)) (2147483647 - (2147483647 - wrap32 a) % (1 + c % 1048576))) (1 + c % 1048576) (d % 256) from rfl)
  generalize wrap32 a = lo at *
  generalize hM : c % 1048576 = M at *
  generalize hn : b % 2147483648 = n at *
  generalize hk : d % 256 = k at *
  clear hM hn hk
  have h0 : ¬ (1 + M) = 0 := by omega
  have GV := rmod_G (2147483647 - lo) (1 + M) _ (by omega) (by omega) rfl
  have bv : 0 ≤ (2147483647 - lo) % (1 + M) ∧ (2147483647 - lo) % (1 + M) ≤ 2147483647 - lo := ⟨Int.emod_nonneg _ h0, by
    have h1 := Int.mul_ediv_add_emod (2147483647 - lo) (1 + M)
    have h2 := Int.mul_nonneg (show 0 ≤ 1 + M by omega) (Int.ediv_nonneg (show 0 ≤ 2147483647 - lo by omega) (show 0 ≤ 1 + M by omega))
    omega⟩
  generalize hv : (2147483647 - lo) % (1 + M) = v at *
  have e1 : n / (1 + M) * (1 + M) = n - n % (1 + M) := by have := Int.mul_ediv_add_emod n (1 + M); rw [Int.mul_comm]; omega
  have e2 : 0 ≤ n % (1 + M) ∧ n % (1 + M) ≤ n := ⟨Int.emod_nonneg _ h0, by
    have h2 := Int.mul_nonneg (show 0 ≤ 1 + M by omega) (Int.ediv_nonneg (show 0 ≤ n by omega) (show 0 ≤ 1 + M by omega))
    have h3 := Int.mul_comm (n / (1 + M)) (1 + M)
    omega⟩
  have e3 : 0 ≤ n / (1 + M) ∧ n / (1 + M) ≤ n := ⟨Int.ediv_nonneg (by omega) (by omega), Int.ediv_le_self _ (by omega)⟩
  obtain ⟨q, hq⟩ : ∃ q, q = n / (1 + M) := ⟨_, rfl⟩
  obtain ⟨p, hp⟩ : ∃ p, p = n / (1 + M) * (1 + M) := ⟨_, rfl⟩
  have bp : 0 ≤ p ∧ p ≤ n := by omega
  have f1 : IntKind.i64.wrap (n.tdiv (1 + M)) = q := by rw [Int.tdiv_eq_ediv_of_nonneg b3.1, ← hq, IntWalk.i64_in _ (by omega)]
  have f1' : IntKind.i64.wrap (n / (1 + M)) = q := by rw [← hq, IntWalk.i64_in _ (by omega)]
  have f1'' : n / (1 + M) = q := hq.symm
  have f2 : IntKind.i64.wrap (q * (1 + M)) = p := by rw [hq, ← hp, IntWalk.i64_in _ (by omega)]
  have f3 : IntKind.i64.wrap (lo + p) = lo + p := IntWalk.i64_in _ (by omega)
  have f4 : IntKind.i64.wrap (2147483647 - lo) = 2147483647 - lo := IntWalk.i64_in _ (by omega)
  have f5 : IntKind.i64.wrap (2147483647 - v) = 2147483647 - v := IntWalk.i64_in _ (by omega)
  obtain ⟨hi, hhi⟩ : ∃ hi, hi = (if 2147483647 - v < lo + p then 2147483647 - v else lo + p) := ⟨_, rfl⟩
  have hm1 : min (lo + p) (2147483647 - v) = hi := by rw [hhi]; split <;> omega
  have bh : lo ≤ hi ∧ hi ≤ 2147483647 := by omega
  have GB : Hid (∀ w, Calls Try.prog 54 #[.int .i64 lo, .int .i64 hi, .int .i64 (1 + M), .int .i64 k] w fun e w' => e = .returned (abVal (byS lo hi (1 + M) k)) ∧ Below w.heap.size w w') := Lib.hid fun w => rby_is lo hi (1 + M) k (by omega) bh.1 (by omega) (by omega) (by omega) w
  have f6 := hhi.symm
  rw [← hp, hm1] at HE
  generalize byS lo hi (1 + M) k = z at *
  clear hv e1 e2 e3 hp hq hhi hm1 bh bv bp
  go_enter Try.func41, Try.ntmps41
  go_wp2_with fail
  refine (GW.out _).mono ?_
  rintro e w1 ⟨rfl, hb⟩
  have kR : Kept w (w.heap.size + 1) w1 := (Kept.new ((Below.refl _ _).alloc (Nat.le_refl _) _) (by simp) _ _ _ _ _ _).on hb
  have rb := row_on (row_al (row_new w #[Value.int .i64 a, .int .i64 b, .int .i64 c, .int .i64 d] 23) _ (by simp)) hb (by simp; omega)
  clear hb
  go_wp2_with fail
  refine (G1.out _).mono ?_
  rintro e w2 ⟨rfl, hb⟩
  have rb := row_on rb hb (by have := kR.s; omega)
  have kR := kR.on hb
  clear hb
  go_wp2_with fail
  refine (G2.out _).mono ?_
  rintro e w3 ⟨rfl, hb⟩
  have rb := row_on rb hb (by have := kR.s; omega)
  have kR := kR.on hb
  clear hb
  go_upto_region 4 with fail
  refine wp_region_held_drew (S := (fun w' => (∀ i, w'.cell? ⟨w.heap.size, i, none⟩ = #[Value.int .i64 a, .int .i64 b, .int .i64 c, .int .i64 d][i]?) ∧ Kept w (w.heap.size + 1) w')) (by kernel_rfl) ?_ (fun hHeld => ?_)
  · exact ⟨row_drew rb, kR.drew⟩
  refine' wpAnyH_take (i := 0) rfl (by kernel_rfl) (by kernel_rfl) (by kernel_rfl) (fun _ _ _ h => h) (Or.inl ⟨by rfl, by (intro wS hSw; (try dsimp only at hSw); go_simp <;> with_reducible rfl)⟩) (by assumption) _
  (try simp only [Act.put, List.getElem_toArray, List.getElem_cons_succ, List.getElem_cons_zero, List.setIfInBounds_toArray, List.set_cons_zero, List.set_cons_succ])
  refine' wpAnyH_take (i := 1) rfl (by kernel_rfl) (by kernel_rfl) (by kernel_rfl) (fun _ _ _ h => h) (Or.inl ⟨by rfl, by (intro wS hSw; (try dsimp only at hSw); go_simp <;> with_reducible rfl)⟩) (by assumption) _
  (try simp only [Act.put, List.getElem_toArray, List.getElem_cons_succ, List.getElem_cons_zero, List.setIfInBounds_toArray, List.set_cons_zero, List.set_cons_succ])
  refine' wpAnyH_take (i := 2) rfl (by kernel_rfl) (by kernel_rfl) (by kernel_rfl) (fun _ _ _ h => h) (Or.inl ⟨by rfl, by (intro wS hSw; (try dsimp only at hSw); go_simp <;> with_reducible rfl)⟩) (by assumption) _
  (try simp only [Act.put, List.getElem_toArray, List.getElem_cons_succ, List.getElem_cons_zero, List.setIfInBounds_toArray, List.set_cons_zero, List.set_cons_succ])
  refine' wpAnyH_take (i := 3) rfl (by kernel_rfl) (by kernel_rfl) (by kernel_rfl) (fun _ _ _ h => h) (Or.inl ⟨by rfl, by (intro wS hSw; (try dsimp only at hSw); go_simp <;> with_reducible rfl)⟩) (by assumption) _
  (try simp only [Act.put, List.getElem_toArray, List.getElem_cons_succ, List.getElem_cons_zero, List.setIfInBounds_toArray, List.set_cons_zero, List.set_cons_succ])
  refine' wpAnyH_take (i := 4) rfl (by kernel_rfl) (by kernel_rfl) (by kernel_rfl) (fun _ _ _ h => h) (Or.inl ⟨by rfl, by (intro wS hSw; (try dsimp only at hSw); go_simp <;> with_reducible rfl)⟩) (by assumption) _
  (try simp only [Act.put, List.getElem_toArray, List.getElem_cons_succ, List.getElem_cons_zero, List.setIfInBounds_toArray, List.set_cons_zero, List.set_cons_succ])
  refine' wpAnyH_take (i := 5) rfl (by kernel_rfl) (by kernel_rfl) (by kernel_rfl) (fun _ _ _ h => h) (Or.inl ⟨by rfl, by (intro wS hSw; (try dsimp only at hSw); go_simp <;> with_reducible rfl)⟩) (by assumption) _
  (try simp only [Act.put, List.getElem_toArray, List.getElem_cons_succ, List.getElem_cons_zero, List.setIfInBounds_toArray, List.set_cons_zero, List.set_cons_succ])
  refine' wpAnyH_take (i := 6) rfl (by kernel_rfl) (by kernel_rfl) (by kernel_rfl) (fun _ _ _ h => h) (Or.inl ⟨by rfl, by (intro wS hSw; (try dsimp only at hSw); go_simp <;> with_reducible rfl)⟩) (by assumption) _
  (try simp only [Act.put, List.getElem_toArray, List.getElem_cons_succ, List.getElem_cons_zero, List.setIfInBounds_toArray, List.set_cons_zero, List.set_cons_succ])
  refine' wpAnyH_take (i := 7) rfl (by kernel_rfl) (by kernel_rfl) (by kernel_rfl) (fun _ _ _ h => h) (Or.inl ⟨by rfl, by (intro wS hSw; (try dsimp only at hSw); go_simp <;> with_reducible rfl)⟩) (by assumption) _
  (try simp only [Act.put, List.getElem_toArray, List.getElem_cons_succ, List.getElem_cons_zero, List.setIfInBounds_toArray, List.set_cons_zero, List.set_cons_succ])
  refine' wpAnyH_take (i := 8) rfl (by kernel_rfl) (by kernel_rfl) (by kernel_rfl) (fun _ _ _ h => h) (Or.inl ⟨by rfl, by (intro wS hSw; (try dsimp only at hSw); go_simp <;> with_reducible rfl)⟩) (by assumption) _
  (try simp only [Act.put, List.getElem_toArray, List.getElem_cons_succ, List.getElem_cons_zero, List.setIfInBounds_toArray, List.set_cons_zero, List.set_cons_succ])
  refine' wpAnyH_take (i := 9) rfl (by kernel_rfl) (by kernel_rfl) (by kernel_rfl) (fun _ _ _ h => h) (Or.inl ⟨by rfl, by (intro wS hSw; (try dsimp only at hSw); go_simp <;> with_reducible rfl)⟩) (by assumption) _
  (try simp only [Act.put, List.getElem_toArray, List.getElem_cons_succ, List.getElem_cons_zero, List.setIfInBounds_toArray, List.set_cons_zero, List.set_cons_succ])
  refine wpAnyH_ready (rs := [10]) (by kernel_rfl) (by simp) ?_
  refine AllReadyH.cons rfl (fun K hK => ?_) AllReadyH.nil
  go_simp
  (go_at_call 42; (with_reducible_and_instances refine (GV.out _).mono ?_); rintro e w5 ⟨rfl, hb⟩)
  (try go_wp2_with fail)
  refine hK.out _ _ ?_ (fun hHeld2 => ?_)
  · exact ⟨row_on hHeld.1 hb (by have := hHeld.2.s; omega), hHeld.2.on hb⟩
  clear hK K hHeld; have hHeld := hHeld2; clear hHeld2
  (try simp only [Act.put, List.getElem_toArray, List.getElem_cons_succ, List.getElem_cons_zero, List.setIfInBounds_toArray, List.set_cons_zero, List.set_cons_succ])
  refine' wpAnyH_take (i := 11) rfl (by kernel_rfl) (by kernel_rfl) (by kernel_rfl) (fun _ _ _ h => h) (Or.inl ⟨by rfl, by (intro wS hSw; (try dsimp only at hSw); go_simp <;> with_reducible rfl)⟩) (by assumption) _
  (try simp only [Act.put, List.getElem_toArray, List.getElem_cons_succ, List.getElem_cons_zero, List.setIfInBounds_toArray, List.set_cons_zero, List.set_cons_succ])
  refine' wpAnyH_take (i := 12) rfl (by kernel_rfl) (by kernel_rfl) (by kernel_rfl) (fun _ _ _ h => h) (Or.inl ⟨by rfl, by (intro wS hSw; (try dsimp only at hSw); go_simp <;> with_reducible rfl)⟩) (by assumption) _
  (try simp only [Act.put, List.getElem_toArray, List.getElem_cons_succ, List.getElem_cons_zero, List.setIfInBounds_toArray, List.set_cons_zero, List.set_cons_succ])
  refine' wpAnyH_take (i := 13) rfl (by kernel_rfl) (by kernel_rfl) (by kernel_rfl) (fun _ _ _ h => h) (Or.inl ⟨by rfl, by (intro wS hSw; (try dsimp only at hSw); go_simp <;> with_reducible rfl)⟩) (by assumption) _
  (try simp only [Act.put, List.getElem_toArray, List.getElem_cons_succ, List.getElem_cons_zero, List.setIfInBounds_toArray, List.set_cons_zero, List.set_cons_succ])
  refine wpAnyH_done (by kernel_rfl) ?_ _
  obtain ⟨rb, kR⟩ := hHeld
  go_wp2_with fail
  refine (G3.out _).mono ?_
  rintro e w6 ⟨rfl, hb⟩
  have rb := row_on rb hb (by have := kR.s; omega)
  have kR := kR.on hb
  clear hb
  go_wp2_with fail
  refine (GB.out _).mono ?_
  rintro e w7 ⟨rfl, hb⟩
  have kR := kR.on hb
  obtain ⟨z0, z1, z2, z3, z4, qc, qf⟩ := kR.r.cells
  unfold abVal
  go_wp2_with fail
  exact bodyPost_ret (v := abVal z) (by simp [results, Try.results41, go_sem, abVal, qc]) rfl ⟨by rw [HE.out], (kR.set5 _ _ _ _ _).b⟩

set_option maxHeartbeats 1000000 in
theorem made_is (a b c d : Int) (ha : -9223372036854775808 ≤ a ∧ a ≤ 9223372036854775807) (w : World) :
    Calls Try.prog 11 #[.agg #[.int .i64 a, .int .i64 b, .int .i64 c, .int .i64 d]] w fun e w' => e = .returned (abVal (madeS a b c d)) ∧ Below w.heap.size w w' := by
  have G := Lib.hid (rmade_is a b c d ha)
  generalize madeS a b c d = z at *
  go_enter Try.func11, Try.ntmps11
  go_wp2_with (go_at_call 41; (with_reducible_and_instances refine (G.out _).mono ?_); rintro e w1 ⟨rfl, hb⟩; have hK := (Kept.new ((Below.refl w.heap.size w).alloc (Nat.le_refl _) _) (n := w.heap.size + 1) (by simp) _ _ _ _ _ _).on hb; obtain ⟨z0, z1, z2, z3, z4, qc, qf⟩ := hK.r.cells; unfold abVal)
  exact bodyPost_ret (v := abVal z) (by simp [results, Try.results11, go_sem, abVal, qc]) rfl ⟨rfl, (hK.set5 _ _ _ _ _).b⟩

end Go.Proofs.Ytlokjiniigfaiaa
