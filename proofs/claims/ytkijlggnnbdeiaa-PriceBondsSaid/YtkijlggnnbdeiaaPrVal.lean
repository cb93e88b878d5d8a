/- Sums of fractions in lowest terms, bonds of right things. No program. -/
import Derived.Test.YtkijlggnnbdeiaaPrAcM
import Derived.Test.YtkijlggnnbdeiaaPrRef
import Derived.Test.YtkijlggnnbdeiaaProg
set_option linter.unusedVariables false
set_option linter.unusedSimpArgs false
namespace Go.Proofs.Ytkijlggnnbdeiaa
open Go.RowKit
set_option maxRecDepth 100000

/-- A fraction in lowest terms, small enough. -/
structure Rd (n d : Int) : Prop where
  frc : Frc n d
  red : Int.gcd n d = 1
theorem Rd.d0 {n d : Int} (h : Rd n d) : 0 < d := by have := h.frc; unfold Frc at this; omega
theorem Rd.rv {n d : Int} (h : Rd n d) : RV n d n d := ⟨h.d0, h.red, rfl⟩
theorem rd_int {n : Int} (h : -4611686018427387904 ≤ n ∧ n ≤ 4611686018427387904) : Rd n 1 := ⟨by unfold Frc; omega, by simp⟩
theorem valid_rd {n d : Int} (h : validI n d = true) : Rd n d := ⟨valid_frc h, by
  have := (of_decide_eq_true h).2
  have e : Int.gcd (absI n) d = Int.gcd n d := by unfold absI; split <;> simp [Int.neg_gcd]
  rw [e] at this; omega⟩
theorem rd_valid {n d : Int} (h : Rd n d) : validI n d = true := by
  have f := h.frc
  unfold Frc at f
  have e : Int.gcd (absI n) d = Int.gcd n d := by unfold absI; split <;> simp [Int.neg_gcd]
  exact decide_eq_true ⟨by omega, by rw [e, h.red]; rfl⟩
theorem Rd.neg {n d : Int} (h : Rd n d) : Rd (-n) d := ⟨frc_neg h.frc, by rw [Int.neg_gcd]; exact h.red⟩
/-- A sum that fits is the sum. -/
theorem add_is {a b c d : Int} (h : Rd a b) (k : Rd c d) (he : addE a b c d = 0) : Rd (addN a b c d) (addD a b c d) ∧ RV (addN a b c d) (addD a b c d) (a * d + c * b) (b * d) := by
  have hb := h.d0
  have hd := k.d0
  have f := frc_add h.frc k.frc he
  have r : RV (addN a b c d) (addD a b c d) (a * d + c * b) (b * d) := by
    by_cases ht : tA a b c d = 0
    · unfold addN addD
      rw [if_pos ht, if_pos ht]
      have ed := Int.mul_ediv_cancel' (Int.gcd_dvd_right (a := b) (b := d))
      have eb := Int.mul_ediv_cancel' (Int.gcd_dvd_left (a := b) (b := d))
      unfold tA gA at ht
      have t0 : a * d + c * b = 0 := by
        have : (Int.gcd b d : Int) * (a * (d / (Int.gcd b d : Int)) + c * (b / (Int.gcd b d : Int))) = 0 := by rw [ht, Int.mul_zero]
        rw [Int.mul_add, Int.mul_left_comm, ed, Int.mul_left_comm, eb] at this
        exact this
      rw [t0]
      exact ⟨by omega, by simp, by simp⟩
    · have rr := rv_add hb hd h.rv k.rv ht
      have hh := (hA_bd h.frc k.frc).1.1
      have hdv : hA a b c d ∣ tA a b c d := by rw [hA_is a b c d hb]; exact Int.gcd_dvd_left ..
      have ha := div_abs hh hdv
      unfold addE madE at he
      rw [if_neg ht, ha] at he
      split at he
      · rename_i hc
        obtain ⟨e1, e2, _⟩ := add_rv h.frc k.frc hb hd h.rv k.rv rr hc.1 hc.2
        rw [e1, e2]; exact rr
      · exact absurd he (by decide)
  exact ⟨⟨f, r.red⟩, r⟩
theorem add_to {a b c d n e : Int} (h : Rd a b) (k : Rd c d) (r : Rd n e) (v : n * (b * d) = (a * d + c * b) * e) : addN a b c d = n ∧ addD a b c d = e ∧ addE a b c d = 0 := by
  have f := r.frc
  unfold Frc at f
  exact add_rv h.frc k.frc h.d0 k.d0 h.rv k.rv ⟨r.d0, r.red, v⟩ (by unfold absI; split <;> omega) (by omega)
theorem add_zero {a b : Int} (h : Rd a b) : addN a b 0 1 = a ∧ addD a b 0 1 = b ∧ addE a b 0 1 = 0 :=
  add_to h (rd_int (by omega)) h (by simp)
theorem cmp_lt0 {a b c d : Int} (h : Rd a b) (k : Rd c d) : cmpI a b c d < 0 ↔ a * d < c * b := by
  have := cmp_rv h.d0 k.d0 h.rv k.rv
  rcases Int.lt_trichotomy (a * d) (c * b) with x | x | x
  · rw [this.1 x]; exact ⟨fun _ => x, fun _ => by decide⟩
  · rw [this.2.2 x]; exact ⟨fun h => absurd h (by decide), fun h => by omega⟩
  · rw [this.2.1 x]; exact ⟨fun h => absurd h (by decide), fun h => by omega⟩
theorem cmp_le0 {a b c d : Int} (h : Rd a b) (k : Rd c d) : cmpI a b c d ≤ 0 ↔ a * d ≤ c * b := by
  have := cmp_rv h.d0 k.d0 h.rv k.rv
  rcases Int.lt_trichotomy (a * d) (c * b) with x | x | x
  · rw [this.1 x]; exact ⟨fun _ => by omega, fun _ => by decide⟩
  · rw [this.2.2 x]; exact ⟨fun _ => by omega, fun h => by decide⟩
  · rw [this.2.1 x]; exact ⟨fun h => absurd h (by decide), fun h => by omega⟩
theorem rd_eq {a b c d : Int} (h : Rd a b) (k : Rd c d) (e : a * d = c * b) : a = c ∧ b = d := (h.rv.to h.d0 e).uniq k.d0 k.rv
theorem le_tr {a b c d e f : Int} (hb : 0 < b) (hd : 0 < d) (hf : 0 < f) (h : a * d ≤ c * b) (k : c * f ≤ e * d) : a * f ≤ e * b := by
  have h1 := Int.mul_le_mul_of_nonneg_right h (show 0 ≤ f by omega)
  have h2 := Int.mul_le_mul_of_nonneg_right k (show 0 ≤ b by omega)
  have : a * f * d ≤ e * b * d := by
    calc a * f * d = a * d * f := by rw [Int.mul_right_comm]
      _ ≤ c * b * f := h1
      _ = c * f * b := by rw [Int.mul_right_comm]
      _ ≤ e * d * b := h2
      _ = e * b * d := by rw [Int.mul_right_comm]
  exact Int.le_of_mul_le_mul_right this hd
/-- What is added and is not negative makes a sum not smaller; what is greater than 0, greater. -/
theorem add_ge {a b c d : Int} (h : Rd a b) (k : Rd c d) (he : addE a b c d = 0) : (0 ≤ c → a * addD a b c d ≤ addN a b c d * b) ∧ (0 < c → a * addD a b c d < addN a b c d * b) := by
  obtain ⟨r, v⟩ := add_is h k he
  have hb := h.d0
  have hd := k.d0
  have e0 := r.d0
  have v := v.val
  generalize addN a b c d = n at *
  generalize addD a b c d = e at *
  have key : n * b * d = a * e * d + c * b * e := by
    calc n * b * d = n * (b * d) := by rw [Int.mul_assoc]
      _ = (a * d + c * b) * e := v
      _ = a * e * d + c * b * e := by rw [Int.add_mul, Int.mul_right_comm a]
  refine ⟨fun hc => ?_, fun hc => ?_⟩
  · have := Int.mul_nonneg (Int.mul_nonneg hc (show 0 ≤ b by omega)) (show 0 ≤ e by omega)
    exact Int.le_of_mul_le_mul_right (show a * e * d ≤ n * b * d by omega) hd
  · have := Int.mul_pos (Int.mul_pos hc hb) e0
    exact Int.lt_of_mul_lt_mul_right (show a * e * d < n * b * d by omega) (by omega)
theorem pre_rd {x : An} {fi k c : Int} (h : Cnt x) (hw : wrongR fi k c = false) : Rd (preN x fi k c) (preD x fi k c) ∧ 0 ≤ preN x fi k c ∧ (0 < c → 0 < preN x fi k c) := by
  obtain ⟨_, r⟩ := pre_rv h hw
  have hb := wrongR_f (show ¬ wrongR fi k c = true by rw [hw]; decide)
  unfold Cnt at h
  have hP := Int.mul_nonneg (show 0 ≤ x.right + 1 by omega) (show 0 ≤ c by omega)
  have s := r.sgn (by omega)
  exact ⟨⟨pre_frc (by unfold Cnt; omega) hw, r.red⟩, s.1 hP, fun hc => s.2.1 (Int.mul_pos (by omega) hc)⟩
theorem bondS_ge {l : List An} (hl : RightP l) : ∀ (M : List Rk) (n d : Int), (∀ r ∈ M, wrongR r.fi r.k r.c = false) → Rd n d → (bondS l M n d).2.2 = 0 →
    Rd (bondS l M n d).1 (bondS l M n d).2.1 ∧ n * (bondS l M n d).2.1 ≤ (bondS l M n d).1 * d
  | [], n, d, _, h, _ => ⟨h, Int.le_refl _⟩
  | r :: t, n, d, hw, h, he => by
    obtain ⟨p, p0, _⟩ := pre_rd (x := cntQ l r.k) (cnt_ok hl _) (hw r (List.mem_cons_self ..))
    unfold bondS at *
    by_cases ha : addE n d (preN (cntQ l r.k) r.fi r.k r.c) (preD (cntQ l r.k) r.fi r.k r.c) = 0
    · rw [if_pos ha] at *
      have a1 := (add_is h p ha).1
      obtain ⟨i1, i2⟩ := bondS_ge hl t _ _ (fun x hx => hw x (List.mem_cons_of_mem _ hx)) a1 he
      exact ⟨i1, le_tr h.d0 a1.d0 i1.d0 ((add_ge h p ha).1 p0) i2⟩
    · rw [if_neg ha] at he
      exact absurd he ha
theorem bondS_app {l : List An} (r : Rk) : ∀ (M : List Rk) (n d : Int), bondS l (M ++ [r]) n d = if (bondS l M n d).2.2 = 0 then (addN (bondS l M n d).1 (bondS l M n d).2.1 (preN (cntQ l r.k) r.fi r.k r.c) (preD (cntQ l r.k) r.fi r.k r.c), addD (bondS l M n d).1 (bondS l M n d).2.1 (preN (cntQ l r.k) r.fi r.k r.c) (preD (cntQ l r.k) r.fi r.k r.c), addE (bondS l M n d).1 (bondS l M n d).2.1 (preN (cntQ l r.k) r.fi r.k r.c) (preD (cntQ l r.k) r.fi r.k r.c)) else bondS l M n d
  | [], n, d => by
    simp only [List.nil_append]
    rw [show bondS l [] n d = (n, d, 0) from rfl, if_pos rfl]
    conv => lhs; unfold bondS
    split
    · rename_i h; rw [show bondS l [] (addN n d (preN (cntQ l r.k) r.fi r.k r.c) (preD (cntQ l r.k) r.fi r.k r.c)) (addD n d (preN (cntQ l r.k) r.fi r.k r.c) (preD (cntQ l r.k) r.fi r.k r.c)) = (addN n d (preN (cntQ l r.k) r.fi r.k r.c) (preD (cntQ l r.k) r.fi r.k r.c), addD n d (preN (cntQ l r.k) r.fi r.k r.c) (preD (cntQ l r.k) r.fi r.k r.c), 0) from rfl, h]
    · rfl
  | x :: t, n, d => by
    rw [List.cons_append]
    unfold bondS
    split
    · exact bondS_app r t _ _
    · rfl
theorem ofF_app (f : Int) (L : List Rk) (r : Rk) : ofF f (L ++ [r]) = if r.fi = f then ofF f L ++ [r] else ofF f L := by
  unfold ofF
  rw [List.filter_append]
  split
  · rename_i h; simp [h]
  · rename_i h; simp [h]
theorem idx_app {L : List Rk} {r : Rk} (h : idxF wrongK L = -1) (hr : wrongK r = false) : idxF wrongK (L ++ [r]) = -1 := idx_neg' fun x hx => by
  rcases List.mem_append.1 hx with hx | hx
  · exact idx_neg (by omega) x hx
  · simp at hx; subst hx; exact hr
/-- A bond of right things. -/
theorem bon_is {l : List An} {L : List Rk} {f base : Int} (hf : 0 ≤ f ∧ f ≤ 7) (hb : 0 ≤ base ∧ base ≤ 1000000000) (hn : L.length ≤ 100) (hw : idxF wrongK L = -1) : bonN l L f base = (bondS l (ofF f L) base 1).1 ∧ bonD l L f base = (bondS l (ofF f L) base 1).2.1 ∧ bonE l L f base = (bondS l (ofF f L) base 1).2.2 := by
  unfold bonN bonD bonE
  rw [if_neg (by omega), if_neg (by omega), if_neg (by omega)]; exact ⟨rfl, rfl, rfl⟩
theorem of_wr {L : List Rk} (hw : idxF wrongK L = -1) (f : Int) : ∀ r ∈ ofF f L, wrongR r.fi r.k r.c = false := fun r hr => idx_neg (p := wrongK) (l := L) (by omega) r (List.mem_filter.1 hr).1
theorem bon_ge {l : List An} (hl : RightP l) {L : List Rk} {f base : Int} (hf : 0 ≤ f ∧ f ≤ 7) (hb : 0 ≤ base ∧ base ≤ 1000000000) (hn : L.length ≤ 100) (hw : idxF wrongK L = -1) (he : bonE l L f base = 0) : Rd (bonN l L f base) (bonD l L f base) ∧ base * bonD l L f base ≤ bonN l L f base := by
  obtain ⟨e1, e2, e3⟩ := bon_is (l := l) hf hb hn hw
  rw [e3] at he
  rw [e1, e2]
  have := bondS_ge hl (ofF f L) base 1 (of_wr hw f) (rd_int (by omega)) he
  rw [Int.mul_one] at this
  exact this
theorem bon_nil {l : List An} {f base : Int} (hf : 0 ≤ f ∧ f ≤ 7) (hb : 0 ≤ base ∧ base ≤ 1000000000) : bonN l [] f base = base ∧ bonD l [] f base = 1 ∧ bonE l [] f base = 0 := by
  obtain ⟨e1, e2, e3⟩ := bon_is (l := l) (L := []) hf hb (by simp) (idx_neg' (by simp))
  exact ⟨e1, e2, e3⟩
theorem bon_other {l : List An} {L : List Rk} {f base : Int} {r : Rk} (hf : 0 ≤ f ∧ f ≤ 7) (hb : 0 ≤ base ∧ base ≤ 1000000000) (hn : L.length ≤ 99) (hw : idxF wrongK L = -1) (hr : wrongK r = false) (h : ¬ r.fi = f) : bonN l (L ++ [r]) f base = bonN l L f base ∧ bonD l (L ++ [r]) f base = bonD l L f base ∧ bonE l (L ++ [r]) f base = bonE l L f base := by
  obtain ⟨e1, e2, e3⟩ := bon_is (l := l) (L := L) hf hb (by omega) hw
  obtain ⟨g1, g2, g3⟩ := bon_is (l := l) (L := L ++ [r]) hf hb (by simp; omega) (idx_app hw hr)
  rw [ofF_app, if_neg h] at g1 g2 g3
  rw [e1, e2, e3, g1, g2, g3]; exact ⟨rfl, rfl, rfl⟩
theorem bon_more {l : List An} (hl : RightP l) {L : List Rk} {f base : Int} {r : Rk} (hf : 0 ≤ f ∧ f ≤ 7) (hb : 0 ≤ base ∧ base ≤ 1000000000) (hn : L.length ≤ 99) (hw : idxF wrongK L = -1) (hr : wrongK r = false) (h : r.fi = f) :
    (bonE l L f base = 0 → bonN l (L ++ [r]) f base = addN (bonN l L f base) (bonD l L f base) (preN (cntQ l r.k) r.fi r.k r.c) (preD (cntQ l r.k) r.fi r.k r.c) ∧ bonD l (L ++ [r]) f base = addD (bonN l L f base) (bonD l L f base) (preN (cntQ l r.k) r.fi r.k r.c) (preD (cntQ l r.k) r.fi r.k r.c) ∧ bonE l (L ++ [r]) f base = addE (bonN l L f base) (bonD l L f base) (preN (cntQ l r.k) r.fi r.k r.c) (preD (cntQ l r.k) r.fi r.k r.c)) ∧
    (¬ bonE l L f base = 0 → bonE l L f base = 2 ∧ bonE l (L ++ [r]) f base = 2) := by
  obtain ⟨e1, e2, e3⟩ := bon_is (l := l) (L := L) hf hb (by omega) hw
  obtain ⟨g1, g2, g3⟩ := bon_is (l := l) (L := L ++ [r]) hf hb (by simp; omega) (idx_app hw hr)
  rw [ofF_app, if_pos h, bondS_app] at g1 g2 g3
  rw [e1, e2, e3, g1, g2, g3]
  refine ⟨fun he => ?_, fun he => ?_⟩
  · rw [if_pos he]; exact ⟨rfl, rfl, rfl⟩
  · rw [if_neg he]
    have := (bondS_ok hl (ofF f L) base 1 (of_wr hw f) (by unfold Frc; omega)).2 he
    rw [this]; exact ⟨rfl, rfl⟩

end Go.Proofs.Ytkijlggnnbdeiaa
