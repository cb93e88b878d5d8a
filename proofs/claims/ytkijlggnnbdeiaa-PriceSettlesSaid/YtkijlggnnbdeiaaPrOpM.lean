/- Sums, settlements, accounts of an office, and who is short. No program. -/
import Derived.Test.YtkijlggnnbdeiaaPrRef
import Derived.Test.YtkijlggnnbdeiaaPrStl
import Derived.Test.YtkijlggnnbdeiaaProg
set_option linter.unusedVariables false
set_option linter.unusedSimpArgs false
namespace Go.Proofs.Ytkijlggnnbdeiaa
open Go.RowKit
set_option maxRecDepth 100000

/-- A fraction in lowest terms, small enough. -/
structure Rd (n d : Int) : Prop where
  frc : Frc n d
  red : Int.gcd n d = 1
theorem Rd.d0 {n d : Int} (h : Rd n d) : 0 < d := by have := h.frc; unfold Frc at this; omega
theorem Rd.rv {n d : Int} (h : Rd n d) : RV n d n d := ⟨h.d0, h.red, rfl⟩
theorem rd_int {n : Int} (h : -4611686018427387904 ≤ n ∧ n ≤ 4611686018427387904) : Rd n 1 := ⟨by unfold Frc; omega, by simp⟩
theorem valid_rd {n d : Int} (h : validI n d = true) : Rd n d := ⟨valid_frc h, by
  have := (of_decide_eq_true h).2
  have e : Int.gcd (absI n) d = Int.gcd n d := by unfold absI; split <;> simp [Int.neg_gcd]
  rw [e] at this; omega⟩
theorem rd_valid {n d : Int} (h : Rd n d) : validI n d = true := by
  have f := h.frc
  unfold Frc at f
  have e : Int.gcd (absI n) d = Int.gcd n d := by unfold absI; split <;> simp [Int.neg_gcd]
  exact decide_eq_true ⟨by omega, by rw [e, h.red]; rfl⟩
theorem Rd.neg {n d : Int} (h : Rd n d) : Rd (-n) d := ⟨frc_neg h.frc, by rw [Int.neg_gcd]; exact h.red⟩
/-- A sum that fits is the sum. -/
theorem add_is {a b c d : Int} (h : Rd a b) (k : Rd c d) (he : addE a b c d = 0) : Rd (addN a b c d) (addD a b c d) ∧ RV (addN a b c d) (addD a b c d) (a * d + c * b) (b * d) := by
  have hb := h.d0
  have hd := k.d0
  have f := frc_add h.frc k.frc he
  have r : RV (addN a b c d) (addD a b c d) (a * d + c * b) (b * d) := by
    by_cases ht : tA a b c d = 0
    · unfold addN addD
      rw [if_pos ht, if_pos ht]
      have ed := Int.mul_ediv_cancel' (Int.gcd_dvd_right (a := b) (b := d))
      have eb := Int.mul_ediv_cancel' (Int.gcd_dvd_left (a := b) (b := d))
      unfold tA gA at ht
      have t0 : a * d + c * b = 0 := by
        have : (Int.gcd b d : Int) * (a * (d / (Int.gcd b d : Int)) + c * (b / (Int.gcd b d : Int))) = 0 := by rw [ht, Int.mul_zero]
        rw [Int.mul_add, Int.mul_left_comm, ed, Int.mul_left_comm, eb] at this
        exact this
      rw [t0]
      exact ⟨by omega, by simp, by simp⟩
    · have rr := rv_add hb hd h.rv k.rv ht
      have hh := (hA_bd h.frc k.frc).1.1
      have hdv : hA a b c d ∣ tA a b c d := by rw [hA_is a b c d hb]; exact Int.gcd_dvd_left ..
      have ha := div_abs hh hdv
      unfold addE madE at he
      rw [if_neg ht, ha] at he
      split at he
      · rename_i hc
        obtain ⟨e1, e2, _⟩ := add_rv h.frc k.frc hb hd h.rv k.rv rr hc.1 hc.2
        rw [e1, e2]; exact rr
      · exact absurd he (by decide)
  exact ⟨⟨f, r.red⟩, r⟩
theorem add_to {a b c d n e : Int} (h : Rd a b) (k : Rd c d) (r : Rd n e) (v : n * (b * d) = (a * d + c * b) * e) : addN a b c d = n ∧ addD a b c d = e ∧ addE a b c d = 0 := by
  have f := r.frc
  unfold Frc at f
  exact add_rv h.frc k.frc h.d0 k.d0 h.rv k.rv ⟨r.d0, r.red, v⟩ (by unfold absI; split <;> omega) (by omega)
theorem add_zero {a b : Int} (h : Rd a b) : addN a b 0 1 = a ∧ addD a b 0 1 = b ∧ addE a b 0 1 = 0 :=
  add_to h (rd_int (by omega)) h (by simp)
theorem cmp_lt0 {a b c d : Int} (h : Rd a b) (k : Rd c d) : cmpI a b c d < 0 ↔ a * d < c * b := by
  have := cmp_rv h.d0 k.d0 h.rv k.rv
  rcases Int.lt_trichotomy (a * d) (c * b) with x | x | x
  · rw [this.1 x]; exact ⟨fun _ => x, fun _ => by decide⟩
  · rw [this.2.2 x]; exact ⟨fun h => absurd h (by decide), fun h => by omega⟩
  · rw [this.2.1 x]; exact ⟨fun h => absurd h (by decide), fun h => by omega⟩
theorem cmp_le0 {a b c d : Int} (h : Rd a b) (k : Rd c d) : cmpI a b c d ≤ 0 ↔ a * d ≤ c * b := by
  have := cmp_rv h.d0 k.d0 h.rv k.rv
  rcases Int.lt_trichotomy (a * d) (c * b) with x | x | x
  · rw [this.1 x]; exact ⟨fun _ => by omega, fun _ => by decide⟩
  · rw [this.2.2 x]; exact ⟨fun _ => by omega, fun h => by decide⟩
  · rw [this.2.1 x]; exact ⟨fun h => absurd h (by decide), fun h => by omega⟩
theorem rd_eq {a b c d : Int} (h : Rd a b) (k : Rd c d) (e : a * d = c * b) : a = c ∧ b = d := (h.rv.to h.d0 e).uniq k.d0 k.rv
theorem le_tr {a b c d e f : Int} (hb : 0 < b) (hd : 0 < d) (hf : 0 < f) (h : a * d ≤ c * b) (k : c * f ≤ e * d) : a * f ≤ e * b := by
  have h1 := Int.mul_le_mul_of_nonneg_right h (show 0 ≤ f by omega)
  have h2 := Int.mul_le_mul_of_nonneg_right k (show 0 ≤ b by omega)
  have : a * f * d ≤ e * b * d := by
    calc a * f * d = a * d * f := by rw [Int.mul_right_comm]
      _ ≤ c * b * f := h1
      _ = c * f * b := by rw [Int.mul_right_comm]
      _ ≤ e * d * b := h2
      _ = e * b * d := by rw [Int.mul_right_comm]
  exact Int.le_of_mul_le_mul_right this hd
/-- What is added and is not negative makes a sum not smaller; what is greater than 0, greater. -/
theorem add_ge {a b c d : Int} (h : Rd a b) (k : Rd c d) (he : addE a b c d = 0) : (0 ≤ c → a * addD a b c d ≤ addN a b c d * b) ∧ (0 < c → a * addD a b c d < addN a b c d * b) := by
  obtain ⟨r, v⟩ := add_is h k he
  have hb := h.d0
  have hd := k.d0
  have e0 := r.d0
  have v := v.val
  generalize addN a b c d = n at *
  generalize addD a b c d = e at *
  have key : n * b * d = a * e * d + c * b * e := by
    calc n * b * d = n * (b * d) := by rw [Int.mul_assoc]
      _ = (a * d + c * b) * e := v
      _ = a * e * d + c * b * e := by rw [Int.add_mul, Int.mul_right_comm a]
  refine ⟨fun hc => ?_, fun hc => ?_⟩
  · have := Int.mul_nonneg (Int.mul_nonneg hc (show 0 ≤ b by omega)) (show 0 ≤ e by omega)
    exact Int.le_of_mul_le_mul_right (show a * e * d ≤ n * b * d by omega) hd
  · have := Int.mul_pos (Int.mul_pos hc hb) e0
    exact Int.lt_of_mul_lt_mul_right (show a * e * d < n * b * d by omega) (by omega)
theorem pre_rd {x : An} {fi k c : Int} (h : Cnt x) (hw : wrongR fi k c = false) : Rd (preN x fi k c) (preD x fi k c) ∧ 0 ≤ preN x fi k c ∧ (0 < c → 0 < preN x fi k c) := by
  obtain ⟨_, r⟩ := pre_rv h hw
  have hb := wrongR_f (show ¬ wrongR fi k c = true by rw [hw]; decide)
  unfold Cnt at h
  have hP := Int.mul_nonneg (show 0 ≤ x.right + 1 by omega) (show 0 ≤ c by omega)
  have s := r.sgn (by omega)
  exact ⟨⟨pre_frc (by unfold Cnt; omega) hw, r.red⟩, s.1 hP, fun hc => s.2.1 (Int.mul_pos (by omega) hc)⟩
theorem bondS_ge {l : List An} (hl : RightP l) : ∀ (M : List Rk) (n d : Int), (∀ r ∈ M, wrongR r.fi r.k r.c = false) → Rd n d → (bondS l M n d).2.2 = 0 →
    Rd (bondS l M n d).1 (bondS l M n d).2.1 ∧ n * (bondS l M n d).2.1 ≤ (bondS l M n d).1 * d
  | [], n, d, _, h, _ => ⟨h, Int.le_refl _⟩
  | r :: t, n, d, hw, h, he => by
    obtain ⟨p, p0, _⟩ := pre_rd (x := cntQ l r.k) (cnt_ok hl _) (hw r (List.mem_cons_self ..))
    unfold bondS at *
    by_cases ha : addE n d (preN (cntQ l r.k) r.fi r.k r.c) (preD (cntQ l r.k) r.fi r.k r.c) = 0
    · rw [if_pos ha] at *
      have a1 := (add_is h p ha).1
      obtain ⟨i1, i2⟩ := bondS_ge hl t _ _ (fun x hx => hw x (List.mem_cons_of_mem _ hx)) a1 he
      exact ⟨i1, le_tr h.d0 a1.d0 i1.d0 ((add_ge h p ha).1 p0) i2⟩
    · rw [if_neg ha] at he
      exact absurd he ha
theorem bondS_app {l : List An} (r : Rk) : ∀ (M : List Rk) (n d : Int), bondS l (M ++ [r]) n d = if (bondS l M n d).2.2 = 0 then (addN (bondS l M n d).1 (bondS l M n d).2.1 (preN (cntQ l r.k) r.fi r.k r.c) (preD (cntQ l r.k) r.fi r.k r.c), addD (bondS l M n d).1 (bondS l M n d).2.1 (preN (cntQ l r.k) r.fi r.k r.c) (preD (cntQ l r.k) r.fi r.k r.c), addE (bondS l M n d).1 (bondS l M n d).2.1 (preN (cntQ l r.k) r.fi r.k r.c) (preD (cntQ l r.k) r.fi r.k r.c)) else bondS l M n d
  | [], n, d => by
    simp only [List.nil_append]
    rw [show bondS l [] n d = (n, d, 0) from rfl, if_pos rfl]
    conv => lhs; unfold bondS
    split
    · rename_i h; rw [show bondS l [] (addN n d (preN (cntQ l r.k) r.fi r.k r.c) (preD (cntQ l r.k) r.fi r.k r.c)) (addD n d (preN (cntQ l r.k) r.fi r.k r.c) (preD (cntQ l r.k) r.fi r.k r.c)) = (addN n d (preN (cntQ l r.k) r.fi r.k r.c) (preD (cntQ l r.k) r.fi r.k r.c), addD n d (preN (cntQ l r.k) r.fi r.k r.c) (preD (cntQ l r.k) r.fi r.k r.c), 0) from rfl, h]
    · rfl
  | x :: t, n, d => by
    rw [List.cons_append]
    unfold bondS
    split
    · exact bondS_app r t _ _
    · rfl
theorem ofF_app (f : Int) (L : List Rk) (r : Rk) : ofF f (L ++ [r]) = if r.fi = f then ofF f L ++ [r] else ofF f L := by
  unfold ofF
  rw [List.filter_append]
  split
  · rename_i h; simp [h]
  · rename_i h; simp [h]
theorem idx_app {L : List Rk} {r : Rk} (h : idxF wrongK L = -1) (hr : wrongK r = false) : idxF wrongK (L ++ [r]) = -1 := idx_neg' fun x hx => by
  rcases List.mem_append.1 hx with hx | hx
  · exact idx_neg (by omega) x hx
  · simp at hx; subst hx; exact hr
def riskM (R : List Int) (x : Rk) : List Rk := riskF R ++ [x]
/-- A bond of right things. -/
theorem bon_is {l : List An} {L : List Rk} {f base : Int} (hf : 0 ≤ f ∧ f ≤ 7) (hb : 0 ≤ base ∧ base ≤ 1000000000) (hn : L.length ≤ 100) (hw : idxF wrongK L = -1) : bonN l L f base = (bondS l (ofF f L) base 1).1 ∧ bonD l L f base = (bondS l (ofF f L) base 1).2.1 ∧ bonE l L f base = (bondS l (ofF f L) base 1).2.2 := by
  unfold bonN bonD bonE
  rw [if_neg (by omega), if_neg (by omega), if_neg (by omega)]; exact ⟨rfl, rfl, rfl⟩
theorem of_wr {L : List Rk} (hw : idxF wrongK L = -1) (f : Int) : ∀ r ∈ ofF f L, wrongR r.fi r.k r.c = false := fun r hr => idx_neg (p := wrongK) (l := L) (by omega) r (List.mem_filter.1 hr).1
theorem bon_ge {l : List An} (hl : RightP l) {L : List Rk} {f base : Int} (hf : 0 ≤ f ∧ f ≤ 7) (hb : 0 ≤ base ∧ base ≤ 1000000000) (hn : L.length ≤ 100) (hw : idxF wrongK L = -1) (he : bonE l L f base = 0) : Rd (bonN l L f base) (bonD l L f base) ∧ base * bonD l L f base ≤ bonN l L f base := by
  obtain ⟨e1, e2, e3⟩ := bon_is (l := l) hf hb hn hw
  rw [e3] at he
  rw [e1, e2]
  have := bondS_ge hl (ofF f L) base 1 (of_wr hw f) (rd_int (by omega)) he
  rw [Int.mul_one] at this
  exact this
theorem bon_nil {l : List An} {f base : Int} (hf : 0 ≤ f ∧ f ≤ 7) (hb : 0 ≤ base ∧ base ≤ 1000000000) : bonN l [] f base = base ∧ bonD l [] f base = 1 ∧ bonE l [] f base = 0 := by
  obtain ⟨e1, e2, e3⟩ := bon_is (l := l) (L := []) hf hb (by simp) (idx_neg' (by simp))
  exact ⟨e1, e2, e3⟩
theorem bon_other {l : List An} {L : List Rk} {f base : Int} {r : Rk} (hf : 0 ≤ f ∧ f ≤ 7) (hb : 0 ≤ base ∧ base ≤ 1000000000) (hn : L.length ≤ 99) (hw : idxF wrongK L = -1) (hr : wrongK r = false) (h : ¬ r.fi = f) : bonN l (L ++ [r]) f base = bonN l L f base ∧ bonD l (L ++ [r]) f base = bonD l L f base ∧ bonE l (L ++ [r]) f base = bonE l L f base := by
  obtain ⟨e1, e2, e3⟩ := bon_is (l := l) (L := L) hf hb (by omega) hw
  obtain ⟨g1, g2, g3⟩ := bon_is (l := l) (L := L ++ [r]) hf hb (by simp; omega) (idx_app hw hr)
  rw [ofF_app, if_neg h] at g1 g2 g3
  rw [e1, e2, e3, g1, g2, g3]; exact ⟨rfl, rfl, rfl⟩
theorem bon_more {l : List An} (hl : RightP l) {L : List Rk} {f base : Int} {r : Rk} (hf : 0 ≤ f ∧ f ≤ 7) (hb : 0 ≤ base ∧ base ≤ 1000000000) (hn : L.length ≤ 99) (hw : idxF wrongK L = -1) (hr : wrongK r = false) (h : r.fi = f) :
    (bonE l L f base = 0 → bonN l (L ++ [r]) f base = addN (bonN l L f base) (bonD l L f base) (preN (cntQ l r.k) r.fi r.k r.c) (preD (cntQ l r.k) r.fi r.k r.c) ∧ bonD l (L ++ [r]) f base = addD (bonN l L f base) (bonD l L f base) (preN (cntQ l r.k) r.fi r.k r.c) (preD (cntQ l r.k) r.fi r.k r.c) ∧ bonE l (L ++ [r]) f base = addE (bonN l L f base) (bonD l L f base) (preN (cntQ l r.k) r.fi r.k r.c) (preD (cntQ l r.k) r.fi r.k r.c)) ∧
    (¬ bonE l L f base = 0 → bonE l L f base = 2 ∧ bonE l (L ++ [r]) f base = 2) := by
  obtain ⟨e1, e2, e3⟩ := bon_is (l := l) (L := L) hf hb (by omega) hw
  obtain ⟨g1, g2, g3⟩ := bon_is (l := l) (L := L ++ [r]) hf hb (by simp; omega) (idx_app hw hr)
  rw [ofF_app, if_pos h, bondS_app] at g1 g2 g3
  rw [e1, e2, e3, g1, g2, g3]
  refine ⟨fun he => ?_, fun he => ?_⟩
  · rw [if_pos he]; exact ⟨rfl, rfl, rfl⟩
  · rw [if_neg he]
    have := (bondS_ok hl (ofF f L) base 1 (of_wr hw f) (by unfold Frc; omega)).2 he
    rw [this]; exact ⟨rfl, rfl⟩

/-! ### Values -/
def vR (n d : Int) : Rat := Rat.divInt n d
theorem vR_add {a b c d : Int} (hb : 0 < b) (hd : 0 < d) : vR a b + vR c d = vR (a * d + c * b) (b * d) := Rat.divInt_add_divInt a c (by omega) (by omega)
theorem vR_iff {a b c d : Int} (hb : 0 < b) (hd : 0 < d) : vR a b = vR c d ↔ a * d = c * b := Rat.divInt_eq_divInt_iff (by omega) (by omega)
theorem vR_neg (n d : Int) : vR (-n) d = -vR n d := (Rat.neg_divInt n d).symm
theorem vR_nonneg {n d : Int} (hd : 0 < d) : 0 ≤ vR n d ↔ 0 ≤ n := Rat.divInt_nonneg_iff_of_pos_right hd
theorem vR_le {a b c d : Int} (hb : 0 < b) (hd : 0 < d) : vR a b ≤ vR c d ↔ a * d ≤ c * b := by
  have h : 0 ≤ vR c d + vR (-a) b ↔ 0 ≤ c * b + -a * d := by rw [vR_add hd hb]; exact vR_nonneg (Int.mul_pos hd hb)
  rw [vR_neg, show c * b + -a * d = c * b - a * d by rw [Int.neg_mul]; omega] at h
  constructor
  · intro k; have := h.1 (by grind); omega
  · intro k; have := h.2 (by omega); grind
theorem vR_eq {a b c d : Int} (h : Rd a b) (k : Rd c d) (e : vR a b = vR c d) : a = c ∧ b = d := rd_eq h k ((vR_iff h.d0 k.d0).1 e)
theorem add_v {a b c d : Int} (h : Rd a b) (k : Rd c d) (he : addE a b c d = 0) : Rd (addN a b c d) (addD a b c d) ∧ vR (addN a b c d) (addD a b c d) = vR a b + vR c d := by
  obtain ⟨r, v⟩ := add_is h k he
  refine ⟨r, ?_⟩
  rw [vR_add h.d0 k.d0]
  exact (vR_iff r.d0 (Int.mul_pos h.d0 k.d0)).2 v.val
theorem add_to_v {a b c d n e : Int} (h : Rd a b) (k : Rd c d) (r : Rd n e) (v : vR n e = vR a b + vR c d) : addN a b c d = n ∧ addD a b c d = e ∧ addE a b c d = 0 := by
  rw [vR_add h.d0 k.d0] at v
  exact add_to h k r ((vR_iff r.d0 (Int.mul_pos h.d0 k.d0)).1 v)
theorem cmp_v {a b c d : Int} (h : Rd a b) (k : Rd c d) : cmpI a b c d < 0 ↔ vR a b < vR c d := by
  rw [cmp_lt0 h k]
  have := vR_le (a := c) (b := d) (c := a) (d := b) k.d0 h.d0
  constructor
  · intro e; have n : ¬ vR c d ≤ vR a b := fun x => by have := this.1 x; omega
    grind
  · intro e
    have n : ¬ c * b ≤ a * d := fun x => by have := this.2 x; grind
    omega
theorem min_v {a b c d : Int} (h : Rd a b) (k : Rd c d) (ha : 0 ≤ a) (hc : 0 ≤ c) : Rd (minN a b c d) (minD a b c d) ∧ 0 ≤ minN a b c d ∧ vR (minN a b c d) (minD a b c d) ≤ vR a b ∧ vR (minN a b c d) (minD a b c d) ≤ vR c d := by
  have := cmp_v k h
  unfold minN minD
  split
  · rename_i e; have := this.1 e; exact ⟨k, hc, by grind, by grind⟩
  · rename_i e; have : ¬ vR c d < vR a b := fun x => e (this.2 x); exact ⟨h, ha, by grind, by grind⟩
theorem min_r {a b c d : Int} (h : Rd a b) (k : Rd c d) (e : vR c d ≤ vR a b) : minN a b c d = c ∧ minD a b c d = d := by
  have := cmp_v k h
  unfold minN minD
  split
  · exact ⟨rfl, rfl⟩
  · rename_i n
    have : ¬ vR c d < vR a b := fun x => n (this.2 x)
    exact vR_eq h k (by grind)
/-! ### Accounts of the firms 0 to 3 -/
def G4 (a : List Ac) : Prop := a.length = 4 ∧ ∀ i : Nat, i < 4 → (a.getD i c0).fi = i ∧ Rd (a.getD i c0).n (a.getD i c0).d ∧ 0 ≤ (a.getD i c0).n
theorem g4_right {a : List Ac} (h : G4 a) : rightB a = true := rightB_t.2 ⟨fun n hn => by
  have x := h.2 n (by have := h.1; omega)
  refine ⟨by have := h.1; omega, fun h0 => ?_, rd_valid x.2.1, x.2.2⟩
  have y := h.2 (n - 1) (by have := h.1; omega)
  omega, by have := h.1; omega⟩
theorem g4_idx {a : List Ac} (h : G4 a) {f : Int} (hf : 0 ≤ f ∧ f ≤ 3) : idxF (isC f) a = f := by
  have : ((f.toNat : Nat) : Int) = idxF (isC f) a := idx_at (d := c0) (by have := h.1; omega) (fun j hj => by
    have x := h.2 j (by omega)
    unfold isC; simp only [decide_eq_true_eq]; omega) (by
    have x := h.2 f.toNat (by omega)
    unfold isC; simp only [decide_eq_true_eq]; omega)
  omega
theorem g4_bd {a : List Ac} (h : G4 a) : ∀ x ∈ a, BdC x := fun x hx => by
  obtain ⟨n, hn, rfl⟩ := List.getElem_of_mem hx
  have y := h.2 n (by have := h.1; omega)
  rw [getD_is hn] at y
  have f := y.2.1.frc
  have := h.1
  unfold Frc at f
  unfold BdC; omega
theorem ac_ext {x y : Ac} (h : x.fi = y.fi) (k : x.n = y.n) (e : x.d = y.d) : x = y := by cases x; cases y; simp_all
theorem ext4 {a b : List Ac} (ha : a.length = 4) (hb : b.length = 4) (h : ∀ i : Nat, i < 4 → a.getD i c0 = b.getD i c0) : a = b := List.ext_getElem (by omega) fun i h1 h2 => by
  have := h i (by omega)
  rwa [getD_is h1, getD_is h2] at this
theorem g4_set {a : List Ac} (h : G4 a) {i : Nat} (hi : i < 4) {n d : Int} (r : Rd n d) (h0 : 0 ≤ n) : G4 (setC a i n d) := ⟨by rw [setC_len]; exact h.1, fun j hj => by
  rw [setC_get (by have := h.1; omega)]
  split
  · rename_i e; subst e; exact ⟨(h.2 i hi).1, r, h0⟩
  · exact h.2 j hj⟩
/-- What a settlement does: `s` from `a`, `v` pays `p / q` to `w`. -/
structure Stl (a s : List Ac) (v w p q : Int) : Prop where
  g : G4 s
  pq : Rd p q ∧ 0 ≤ p
  low : vR p q ≤ vR (a.getD v.toNat c0).n (a.getD v.toNat c0).d
  sub : addE (a.getD v.toNat c0).n (a.getD v.toNat c0).d (-p) q = 0
  other : ∀ i : Nat, i < 4 → (i : Int) ≠ v → (i : Int) ≠ w → s.getD i c0 = a.getD i c0
  same : v = w → s = a
  frm : v ≠ w → vR (s.getD v.toNat c0).n (s.getD v.toNat c0).d = vR (a.getD v.toNat c0).n (a.getD v.toNat c0).d - vR p q
  tow : v ≠ w → vR (s.getD w.toNat c0).n (s.getD w.toNat c0).d = vR (a.getD w.toNat c0).n (a.getD w.toNat c0).d + vR p q
theorem stl_is {a : List Ac} (h : G4 a) {v w ln ld : Int} (hv : 0 ≤ v ∧ v ≤ 3) (hw : 0 ≤ w ∧ w ≤ 3) (hl : Rd ln ld) (h0 : 0 ≤ ln) :
    (¬ (stl a v w ln ld).2.2.2 = 0 → (stl a v w ln ld).2.2.2 = 2) ∧
    ((stl a v w ln ld).2.2.2 = 0 → (stl a v w ln ld).2.1 = minN (a.getD v.toNat c0).n (a.getD v.toNat c0).d ln ld ∧ (stl a v w ln ld).2.2.1 = minD (a.getD v.toNat c0).n (a.getD v.toNat c0).d ln ld ∧ Stl a (stl a v w ln ld).1 v w (stl a v w ln ld).2.1 (stl a v w ln ld).2.2.1) := by
  have h1 := g4_right h
  have h2 := rd_valid hl
  have h3 : ¬ ln < 0 := by omega
  have iv := g4_idx h hv
  have iw := g4_idx h hw
  have h4 : ¬ (idxF (isC v) a < 0 ∨ idxF (isC w) a < 0) := by omega
  have hvn : v.toNat < 4 := by omega
  have hwn : w.toNat < 4 := by omega
  have hal := h.1
  obtain ⟨xf, xr, x0⟩ := h.2 v.toNat hvn
  obtain ⟨yf, yr, y0⟩ := h.2 w.toNat hwn
  obtain ⟨pr, p0, pl, _⟩ := min_v xr hl x0 h0
  have eX : sX a v = a.getD v.toNat c0 := by unfold sX; rw [iv]
  have eP : sP a v ln ld = minN (a.getD v.toNat c0).n (a.getD v.toNat c0).d ln ld := by unfold sP; rw [eX]
  have eQ : sQ a v ln ld = minD (a.getD v.toNat c0).n (a.getD v.toNat c0).d ln ld := by unfold sQ; rw [eX]
  by_cases h5 : addE (sX a v).n (sX a v).d (-sP a v ln ld) (sQ a v ln ld) = 0
  · have b5 := h5
    rw [eX, eP, eQ] at b5
    obtain ⟨sr, sv⟩ := add_v xr pr.neg b5
    rw [vR_neg] at sv
    have s0 : 0 ≤ addN (a.getD v.toNat c0).n (a.getD v.toNat c0).d (-minN (a.getD v.toNat c0).n (a.getD v.toNat c0).d ln ld) (minD (a.getD v.toNat c0).n (a.getD v.toNat c0).d ln ld) := (vR_nonneg sr.d0).1 (by rw [sv]; grind)
    have eB : sB a v ln ld = setC a v.toNat (addN (a.getD v.toNat c0).n (a.getD v.toNat c0).d (-minN (a.getD v.toNat c0).n (a.getD v.toNat c0).d ln ld) (minD (a.getD v.toNat c0).n (a.getD v.toNat c0).d ln ld)) (addD (a.getD v.toNat c0).n (a.getD v.toNat c0).d (-minN (a.getD v.toNat c0).n (a.getD v.toNat c0).d ln ld) (minD (a.getD v.toNat c0).n (a.getD v.toNat c0).d ln ld)) := by
      unfold sB; rw [eX, eP, eQ, iv]
    have gB := g4_set h hvn sr s0
    rw [← eB] at gB
    have eY : sY a v w ln ld = (sB a v ln ld).getD w.toNat c0 := by unfold sY; rw [iw]
    obtain ⟨zf, zr, z0⟩ := gB.2 w.toNat hwn
    by_cases h6 : addE (sY a v w ln ld).n (sY a v w ln ld).d (sP a v ln ld) (sQ a v ln ld) = 0
    · have e := stl_ok h1 h2 h3 h4 h5 h6
      have b6 := h6
      rw [eY, eP, eQ] at b6
      obtain ⟨tr, tv⟩ := add_v zr pr b6
      have t0 := (vR_nonneg tr.d0).1 (by
        rw [tv]
        have k1 := (vR_nonneg zr.d0).2 z0
        have k2 := (vR_nonneg pr.d0).2 p0
        grind)
      have gS := g4_set gB hwn tr t0
      rw [e, eY, eP, eQ, iw]
      refine ⟨fun k => absurd rfl k, fun _ => ⟨rfl, rfl, ⟨gS, ⟨pr, p0⟩, pl, b5, ?_, ?_, ?_, ?_⟩⟩⟩
      · intro i hi n1 n2
        rw [setC_get (by rw [gB.1]; exact hwn), if_neg (by omega), eB, setC_get (by omega), if_neg (by omega)]
      · intro hvw
        subst hvw
        refine ext4 gS.1 hal fun i hi => ?_
        rw [setC_get (by rw [gB.1]; exact hwn)]
        have eZ : (sB a v ln ld).getD v.toNat c0 = ⟨(a.getD v.toNat c0).fi, addN (a.getD v.toNat c0).n (a.getD v.toNat c0).d (-minN (a.getD v.toNat c0).n (a.getD v.toNat c0).d ln ld) (minD (a.getD v.toNat c0).n (a.getD v.toNat c0).d ln ld), addD (a.getD v.toNat c0).n (a.getD v.toNat c0).d (-minN (a.getD v.toNat c0).n (a.getD v.toNat c0).d ln ld) (minD (a.getD v.toNat c0).n (a.getD v.toNat c0).d ln ld)⟩ := by
          rw [eB, setC_get (by omega), if_pos rfl]
        rw [eZ] at tv tr
        obtain ⟨u1, u2⟩ := vR_eq tr xr (by rw [tv]; simp only; rw [sv]; grind)
        split
        · rename_i e; subst e
          rw [eZ]
          exact ac_ext rfl u1 u2
        · rename_i n
          rw [eB, setC_get (by omega), if_neg n]
      · intro hvw
        rw [setC_get (by rw [gB.1]; exact hwn), if_neg (by omega), eB, setC_get (by omega), if_pos rfl]
        simp only
        rw [sv]; grind
      · intro hvw
        have eZ : (sB a v ln ld).getD w.toNat c0 = a.getD w.toNat c0 := by rw [eB, setC_get (by omega), if_neg (by omega)]
        rw [setC_get (by rw [gB.1]; exact hwn), if_pos rfl]
        simp only
        rw [tv, eZ]
    · have e := stl_e2 h1 h2 h3 h4 h5 h6
      rw [e]
      exact ⟨fun _ => (addE_two h6).1, fun k => absurd k h6⟩
  · have e := stl_e1 (w := w) h1 h2 h3 h4 h5
    rw [e]
    exact ⟨fun _ => (addE_two h5).1, fun k => absurd k h5⟩
/-- What was paid can be paid back. -/
theorem stl_back {a s : List Ac} (h : G4 a) {v w p q : Int} (hv : 0 ≤ v ∧ v ≤ 3) (hw : 0 ≤ w ∧ w ≤ 3) (k : Stl a s v w p q) : stl s w v p q = (a, p, q, 0) := by
  have hs := k.g
  have h1 := g4_right hs
  have h2 := rd_valid k.pq.1
  have h3 : ¬ p < 0 := by have := k.pq.2; omega
  have iv := g4_idx hs hv
  have iw := g4_idx hs hw
  have h4 : ¬ (idxF (isC w) s < 0 ∨ idxF (isC v) s < 0) := by omega
  have hvn : v.toNat < 4 := by omega
  have hwn : w.toNat < 4 := by omega
  have hal := h.1
  have hsl := hs.1
  obtain ⟨xf, xr, x0⟩ := h.2 v.toNat hvn
  obtain ⟨yf, yr, y0⟩ := h.2 w.toNat hwn
  obtain ⟨xf', xr', x0'⟩ := hs.2 v.toNat hvn
  obtain ⟨yf', yr', y0'⟩ := hs.2 w.toNat hwn
  have pv := (vR_nonneg k.pq.1.d0).2 k.pq.2
  have yv := (vR_nonneg yr.d0).2 y0
  have low : vR p q ≤ vR (s.getD w.toNat c0).n (s.getD w.toNat c0).d := by
    by_cases hvw : v = w
    · have e := k.same hvw; rw [e, ← hvw]; exact k.low
    · rw [k.tow hvw]; grind
  obtain ⟨m1, m2⟩ := min_r yr' k.pq.1 low
  have eX : sX s w = s.getD w.toNat c0 := by unfold sX; rw [iw]
  have eP : sP s w p q = p := by unfold sP; rw [eX]; exact m1
  have eQ : sQ s w p q = q := by unfold sQ; rw [eX]; exact m2
  by_cases hvw : v = w
  · have e := k.same hvw
    subst hvw
    subst e
    have b5 := k.sub
    have h5 : addE (sX s v).n (sX s v).d (-sP s v p q) (sQ s v p q) = 0 := by rw [eX, eP, eQ]; exact b5
    obtain ⟨sr, sv⟩ := add_v xr k.pq.1.neg b5
    rw [vR_neg] at sv
    have eB : sB s v p q = setC s v.toNat (addN (s.getD v.toNat c0).n (s.getD v.toNat c0).d (-p) q) (addD (s.getD v.toNat c0).n (s.getD v.toNat c0).d (-p) q) := by unfold sB; rw [eX, eP, eQ, iw]
    have eY : sY s v v p q = ⟨(s.getD v.toNat c0).fi, addN (s.getD v.toNat c0).n (s.getD v.toNat c0).d (-p) q, addD (s.getD v.toNat c0).n (s.getD v.toNat c0).d (-p) q⟩ := by
      unfold sY; rw [iw, eB, setC_get (by omega), if_pos rfl]
    obtain ⟨t1, t2, t3⟩ := add_to_v sr k.pq.1 xr (by rw [sv]; grind)
    have h6 : addE (sY s v v p q).n (sY s v v p q).d (sP s v p q) (sQ s v p q) = 0 := by rw [eY, eP, eQ]; exact t3
    rw [stl_ok h1 h2 h3 h4 h5 h6, eY, eP, eQ, iw]
    simp only
    rw [t1, t2, eB]
    have : setC (setC s v.toNat (addN (s.getD v.toNat c0).n (s.getD v.toNat c0).d (-p) q) (addD (s.getD v.toNat c0).n (s.getD v.toNat c0).d (-p) q)) v.toNat (s.getD v.toNat c0).n (s.getD v.toNat c0).d = s := by
      refine ext4 (by rw [setC_len, setC_len]; exact hsl) hsl fun i hi => ?_
      rw [setC_get (by rw [setC_len]; omega)]
      split
      · rename_i e; subst e
        rw [setC_get (by omega), if_pos rfl]
      · rename_i n; rw [setC_get (by omega), if_neg n]
    rw [this]
  · have tw := k.tow hvw
    have fr := k.frm hvw
    obtain ⟨t1, t2, t3⟩ := add_to_v yr' k.pq.1.neg yr (by rw [vR_neg, tw]; grind)
    have h5 : addE (sX s w).n (sX s w).d (-sP s w p q) (sQ s w p q) = 0 := by rw [eX, eP, eQ]; exact t3
    have eB : sB s w p q = setC s w.toNat (a.getD w.toNat c0).n (a.getD w.toNat c0).d := by unfold sB; rw [eX, eP, eQ, iw, t1, t2]
    have eY : sY s w v p q = s.getD v.toNat c0 := by unfold sY; rw [iv, eB, setC_get (by omega), if_neg (by omega)]
    obtain ⟨u1, u2, u3⟩ := add_to_v xr' k.pq.1 xr (by rw [fr]; grind)
    have h6 : addE (sY s w v p q).n (sY s w v p q).d (sP s w p q) (sQ s w p q) = 0 := by rw [eY, eP, eQ]; exact u3
    rw [stl_ok h1 h2 h3 h4 h5 h6, eY, eP, eQ, iv, u1, u2, eB]
    have : setC (setC s w.toNat (a.getD w.toNat c0).n (a.getD w.toNat c0).d) v.toNat (a.getD v.toNat c0).n (a.getD v.toNat c0).d = a := by
      refine ext4 (by rw [setC_len, setC_len]; exact hsl) hal fun i hi => ?_
      rw [setC_get (by rw [setC_len]; omega)]
      split
      · rename_i e; subst e
        rw [setC_get (by omega), if_neg (by omega)]
        exact ac_ext (by rw [xf, xf']) rfl rfl
      · rename_i n; rw [setC_get (by omega)]
        split
        · rename_i e; subst e; exact ac_ext (by rw [yf, yf']) rfl rfl
        · rename_i n2; exact k.other i hi (by omega) (by omega)
    rw [this]
/-! ### Totals -/
def sumR : List Fq → Rat
  | [] => 0
  | x :: t => vR x.n x.d + sumR t
theorem sum_v : ∀ (M : List Fq) (n d : Int), (∀ x ∈ M, Rd x.n x.d) → Rd n d → (sumS M n d).2.2 = 0 → Rd (sumS M n d).1 (sumS M n d).2.1 ∧ vR (sumS M n d).1 (sumS M n d).2.1 = vR n d + sumR M
  | [], n, d, _, h, _ => ⟨h, by show vR n d = vR n d + 0; grind⟩
  | x :: t, n, d, hx, h, he => by
    have p := hx x (List.mem_cons_self ..)
    unfold sumS at *
    by_cases ha : addE n d x.n x.d = 0
    · rw [if_pos ha] at *
      obtain ⟨a1, a2⟩ := add_v h p ha
      obtain ⟨i1, i2⟩ := sum_v t _ _ (fun y hy => hx y (List.mem_cons_of_mem _ hy)) a1 he
      refine ⟨i1, ?_⟩
      rw [i2, a2]
      show _ = vR n d + (vR x.n x.d + sumR t)
      grind
    · rw [if_neg ha] at he
      exact absurd he ha
def tot4 (a : List Ac) : Rat := vR (a.getD 0 c0).n (a.getD 0 c0).d + vR (a.getD 1 c0).n (a.getD 1 c0).d + vR (a.getD 2 c0).n (a.getD 2 c0).d + vR (a.getD 3 c0).n (a.getD 3 c0).d
theorem list4 {a : List Ac} (h : a.length = 4) : a = [a.getD 0 c0, a.getD 1 c0, a.getD 2 c0, a.getD 3 c0] := by
  match a, h with
  | [x, y, z, t], _ => rfl
theorem tot_v {a : List Ac} (h : G4 a) (he : totE a = 0) : Rd (totN a) (totD a) ∧ vR (totN a) (totD a) = tot4 a := by
  have hr := g4_right h
  unfold totE at he
  unfold totN totD
  rw [if_pos hr] at *
  rw [if_pos hr]
  obtain ⟨r, v⟩ := sum_v (a.map frC) 0 1 (fun x hx => by
    obtain ⟨y, hy, rfl⟩ := List.mem_map.1 hx
    obtain ⟨n, hn, rfl⟩ := List.getElem_of_mem hy
    have := h.2 n (by have := h.1; omega)
    rw [getD_is hn] at this
    exact this.2.1) (rd_int (by omega)) he
  refine ⟨r, ?_⟩
  rw [v]
  have z : vR 0 1 = 0 := by
    have : vR 0 1 + vR 0 1 = vR 0 1 := by rw [vR_add (by omega) (by omega)]; rfl
    grind
  have e : sumR (a.map frC) = tot4 a := by
    have l := list4 h.1
    generalize a.getD 0 c0 = x0 at l
    generalize a.getD 1 c0 = x1 at l
    generalize a.getD 2 c0 = x2 at l
    generalize a.getD 3 c0 = x3 at l
    subst l
    show vR x0.n x0.d + (vR x1.n x1.d + (vR x2.n x2.d + (vR x3.n x3.d + 0))) = vR x0.n x0.d + vR x1.n x1.d + vR x2.n x2.d + vR x3.n x3.d
    grind
  rw [z, e]; grind
theorem nat4 {v : Int} (h : 0 ≤ v ∧ v ≤ 3) : v = 0 ∨ v = 1 ∨ v = 2 ∨ v = 3 := by omega
theorem stl_tot {a s : List Ac} {v w p q : Int} (hv : 0 ≤ v ∧ v ≤ 3) (hw : 0 ≤ w ∧ w ≤ 3) (k : Stl a s v w p q) : tot4 s = tot4 a := by
  by_cases hvw : v = w
  · rw [k.same hvw]
  · have f := k.frm hvw
    have t := k.tow hvw
    have o := k.other
    have o0 := o 0 (by omega)
    have o1 := o 1 (by omega)
    have o2 := o 2 (by omega)
    have o3 := o 3 (by omega)
    clear o k
    unfold tot4
    rcases nat4 hv with rfl | rfl | rfl | rfl <;> rcases nat4 hw with rfl | rfl | rfl | rfl <;> first | exact absurd rfl hvw | skip
    all_goals
      simp only [show (0 : Int).toNat = 0 from rfl, show (1 : Int).toNat = 1 from rfl, show (2 : Int).toNat = 2 from rfl, show (3 : Int).toNat = 3 from rfl] at f t
      rw [f, t]
      first
      | rw [o2 (by omega) (by omega), o3 (by omega) (by omega)]; grind
      | rw [o1 (by omega) (by omega), o3 (by omega) (by omega)]; grind
      | rw [o1 (by omega) (by omega), o2 (by omega) (by omega)]; grind
      | rw [o0 (by omega) (by omega), o3 (by omega) (by omega)]; grind
      | rw [o0 (by omega) (by omega), o2 (by omega) (by omega)]; grind
      | rw [o0 (by omega) (by omega), o1 (by omega) (by omega)]; grind
theorem stl_totals {a s : List Ac} {v w p q : Int} (h : G4 a) (hv : 0 ≤ v ∧ v ≤ 3) (hw : 0 ≤ w ∧ w ≤ 3) (k : Stl a s v w p q) (h1 : totE a = 0) (h2 : totE s = 0) : totN a = totN s ∧ totD a = totD s := by
  obtain ⟨r1, v1⟩ := tot_v h h1
  obtain ⟨r2, v2⟩ := tot_v k.g h2
  exact vR_eq r1 r2 (by rw [v1, v2, stl_tot hv hw k])

theorem opnF_get (l : List An) (L : List Rk) (base : Int) : ∀ n i, i < n → (opnF l L base n).getD i c0 = ⟨i, bonN l L i base, bonD l L i base⟩
  | 0, i, h => by omega
  | n + 1, i, h => by
    have hl := opn_len l L base n
    rw [opnF, List.getD_eq_getElem?_getD, List.getElem?_append]
    split
    · have := opnF_get l L base n i (by omega)
      rwa [List.getD_eq_getElem?_getD] at this
    · have e : i = n := by omega
      subst e
      rw [hl, Nat.sub_self]; rfl
theorem opn_zero (l : List An) (L : List Rk) (base : Int) : ∀ n, opnBad l L base n = 0 → ∀ i : Nat, i < n → bonE l L i base = 0
  | 0, _, i, h => by omega
  | n + 1, hb, i, h => by
    rw [opnBad] at hb
    split at hb
    · by_cases e : i = n
      · subst e; exact hb
      · exact opn_zero l L base n (by assumption) i (by omega)
    · exact absurd hb (by assumption)
theorem bonE_02 {l : List An} (hl : RightP l) {L : List Rk} {f base : Int} (hf : 0 ≤ f ∧ f ≤ 7) (hb : 0 ≤ base ∧ base ≤ 1000000000) (hn : L.length ≤ 100) (hw : idxF wrongK L = -1) : bonE l L f base = 0 ∨ bonE l L f base = 2 := by
  rw [(bon_is (l := l) hf hb hn hw).2.2]
  by_cases h : (bondS l (ofF f L) base 1).2.2 = 0
  · exact .inl h
  · right
    rw [(bondS_ok hl (ofF f L) base 1 (of_wr hw f) (by unfold Frc; omega)).2 h]
theorem opn_02 {l : List An} (hl : RightP l) {L : List Rk} {base : Int} (hb : 0 ≤ base ∧ base ≤ 1000000000) (hn : L.length ≤ 100) (hw : idxF wrongK L = -1) : ∀ n : Nat, n ≤ 8 → opnBad l L base n = 0 ∨ opnBad l L base n = 2
  | 0, _ => .inl rfl
  | n + 1, h => by
    rw [opnBad]
    split
    · exact bonE_02 hl (by omega) hb hn hw
    · exact opn_02 hl hb hn hw n (by omega)
/-! ### Small books and risks: no sum is too big -/
theorem bk_small {B : List Int} (h : U8L B) : ∀ x ∈ bookF B, (0 ≤ x.right ∧ x.right ≤ 7) ∧ 0 ≤ x.wrong ∧ x.wrong ≤ 7 := fun x hx => by
  obtain ⟨i, hi, rfl⟩ := List.getElem_of_mem hx
  have hb := hi
  unfold bookF at hb
  rw [book_len] at hb
  have e := book_get B (bookC B) i hb
  have g : (bookF B)[i] = (bookF B).getD i q0 := by rw [List.getD_eq_getElem?_getD, List.getElem?_eq_getElem hi]; rfl
  rw [g]
  unfold bookF
  rw [e]
  have h1 := u8_get h (2 * i)
  have h2 := u8_get h (2 * i + 1)
  simp only
  omega
theorem cnt_small {B : List Int} (h : U8L B) (k : Int) : (0 ≤ (cntQ (bookF B) k).right ∧ (cntQ (bookF B) k).right ≤ 7) ∧ 0 ≤ (cntQ (bookF B) k).wrong ∧ (cntQ (bookF B) k).wrong ≤ 7 := by
  unfold cntQ
  cases hx : lk (bookF B) k with
  | none => simp
  | some x => exact bk_small h x (lk_kind hx).2
theorem dvd_small {q : Int} (h : 2 ≤ q ∧ q ≤ 16) : 720720 / q * q = 720720 ∧ 0 ≤ 720720 / q ∧ 720720 / q ≤ 360360 := by
  have : q = 2 ∨ q = 3 ∨ q = 4 ∨ q = 5 ∨ q = 6 ∨ q = 7 ∨ q = 8 ∨ q = 9 ∨ q = 10 ∨ q = 11 ∨ q = 12 ∨ q = 13 ∨ q = 14 ∨ q = 15 ∨ q = 16 := by omega
  rcases this with rfl | rfl | rfl | rfl | rfl | rfl | rfl | rfl | rfl | rfl | rfl | rfl | rfl | rfl | rfl <;> decide
theorem pre_small {x : An} {fi k c : Int} (h : (0 ≤ x.right ∧ x.right ≤ 7) ∧ 0 ≤ x.wrong ∧ x.wrong ≤ 7) (hw : wrongR fi k c = false) (hc : c ≤ 256) : ∃ M, RV (preN x fi k c) (preD x fi k c) M 720720 ∧ 0 ≤ M ∧ M ≤ 738017280 := by
  obtain ⟨_, r⟩ := pre_rv (x := x) (by unfold Cnt; omega) hw
  have hb := wrongR_f (show ¬ wrongR fi k c = true by rw [hw]; decide)
  have d := dvd_small (q := x.right + x.wrong + 2) (by omega)
  have m := Int.mul_nonneg (show 0 ≤ x.right + 1 by omega) (show 0 ≤ c by omega)
  have m2 := Int.mul_le_mul (show x.right + 1 ≤ 8 by omega) hc (by omega) (by omega)
  refine ⟨(x.right + 1) * c * (720720 / (x.right + x.wrong + 2)), r.to (by omega) (by rw [Int.mul_assoc ((x.right + 1) * c), d.1]), Int.mul_nonneg m d.2.1, ?_⟩
  have := Int.mul_le_mul m2 d.2.2 d.2.1 (by omega)
  omega
theorem bondS_small {l : List An} (hl : RightP l) (hs : ∀ k, (0 ≤ (cntQ l k).right ∧ (cntQ l k).right ≤ 7) ∧ 0 ≤ (cntQ l k).wrong ∧ (cntQ l k).wrong ≤ 7) : ∀ (M : List Rk) (n d P : Int), (∀ r ∈ M, wrongR r.fi r.k r.c = false ∧ r.c ≤ 256) → Rd n d → RV n d P 720720 → 0 ≤ P → P + 738017280 * (M.length : Int) ≤ 2305843009213693952 → (bondS l M n d).2.2 = 0
  | [], n, d, P, _, _, _, _, _ => rfl
  | r :: t, n, d, P, hw, h, hv, h0, hb => by
    have w := hw r (List.mem_cons_self ..)
    obtain ⟨p, _⟩ := pre_rd (x := cntQ l r.k) (cnt_ok hl _) w.1
    obtain ⟨M, mv, m0, m1⟩ := pre_small (hs r.k) w.1 w.2
    rw [List.length_cons] at hb
    have nw := rv_new (P := P + M) (Q := 720720) (by omega)
    have le := nw.le (by omega)
    have ab := absI_pos (n := P + M) (by omega)
    obtain ⟨e1, e2, e3⟩ := add_rv h.frc p.frc (by omega) (by omega) hv mv (nw.to (by omega) (by rw [Int.add_mul, Int.add_mul, Int.mul_assoc, Int.mul_assoc])) (by omega) (by omega)
    unfold bondS
    rw [if_pos e3]
    have a1 := (add_is h p e3).1
    rw [← e1, ← e2] at nw
    exact bondS_small hl hs t _ _ (P + M) (fun x hx => hw x (List.mem_cons_of_mem _ hx)) a1 nw (by omega) (by omega)
theorem bon_small {B : List Int} {L : List Rk} {f bs : Int} (hB : U8L B) (hbs : 0 ≤ bs ∧ bs ≤ 65535) (hf : 0 ≤ f ∧ f ≤ 7) (hn : L.length ≤ 13) (hw : ∀ r ∈ L, wrongK r = false ∧ r.c ≤ 256) : bonE (bookF B) L f bs = 0 := by
  have hi : idxF wrongK L = -1 := idx_neg' fun x hx => (hw x hx).1
  rw [(bon_is (l := bookF B) hf (by omega) (by omega) hi).2.2]
  have ln : (ofF f L).length ≤ L.length := List.length_filter_le ..
  exact bondS_small (book_right hB) (cnt_small hB) (ofF f L) bs 1 (bs * 720720) (fun r hr => hw r (List.mem_filter.1 hr).1) (rd_int (by omega)) ((rv_int bs).to (by omega) (by omega)) (by omega) (by omega)
theorem risk_small {R : List Int} (hR : U8L R) : ∀ r ∈ riskF R, wrongK r = false ∧ r.c ≤ 256 := fun r hr => by
  have := risk_ok hR r hr
  refine ⟨?_, by omega⟩
  unfold wrongK wrongR; rw [decide_eq_false]; omega
def opA (B R : List Int) (bs : Int) : List Ac := opnL (bookF B) (riskF R) 4 bs
def opE (B R : List Int) (bs : Int) : Int := opnE (bookF B) (riskF R) 4 bs
theorem op_is {B R : List Int} {bs : Int} (hB : U8L B) (hR : U8L R) (hbs : 0 ≤ bs ∧ bs ≤ 65535) : (¬ opE B R bs = 0 → opE B R bs = 2) ∧ (opE B R bs = 0 → G4 (opA B R bs) ∧ ∀ i : Nat, i < 4 → bonE (bookF B) (riskF R) i bs = 0 ∧ (opA B R bs).getD i c0 = ⟨i, bonN (bookF B) (riskF R) i bs, bonD (bookF B) (riskF R) i bs⟩) := by
  have hn := riskF_len R
  have hw := risk_right hR
  have hl := book_right hB
  have e : opE B R bs = opnBad (bookF B) (riskF R) bs 4 := by unfold opE opnE; rw [if_neg (by omega)]; rfl
  refine ⟨fun h => ?_, fun h => ?_⟩
  · rw [e] at *
    rcases opn_02 hl (by omega : 0 ≤ bs ∧ bs ≤ 1000000000) (by omega) hw 4 (by omega) with k | k
    · exact absurd k h
    · exact k
  · rw [e] at h
    have z := opn_zero (bookF B) (riskF R) bs 4 h
    have a : opA B R bs = opnF (bookF B) (riskF R) bs 4 := by unfold opA opnL; rw [if_neg (by omega), show (4 : Int).toNat = 4 from rfl, if_pos h]
    rw [a]
    refine ⟨⟨opn_len .., fun i hi => ?_⟩, fun i hi => ⟨z i hi, opnF_get _ _ _ 4 i hi⟩⟩
    rw [opnF_get _ _ _ 4 i hi]
    obtain ⟨r, g⟩ := bon_ge hl (L := riskF R) (f := i) (base := bs) (by omega) (by omega) (by omega) hw (z i hi)
    refine ⟨rfl, r, ?_⟩
    have := Int.mul_nonneg hbs.1 (show 0 ≤ bonD (bookF B) (riskF R) i bs by have := r.d0; omega)
    simp only; omega
theorem op_zero {B R : List Int} {bs : Int} (hB : U8L B) (hR : U8L R) (hbs : 0 ≤ bs ∧ bs ≤ 65535) : opE B R bs = 0 := by
  have hn := riskF_len R
  unfold opE opnE
  rw [if_neg (by omega)]
  have z : ∀ i : Nat, i < 4 → bonE (bookF B) (riskF R) i bs = 0 := fun i hi => bon_small hB hbs (by omega) (by omega) (risk_small hR)
  show opnBad (bookF B) (riskF R) bs 4 = 0
  exact opn_s0 (opn_s0 (opn_s0 (opn_s0 rfl (z 0 (by omega))) (z 1 (by omega))) (z 2 (by omega))) (z 3 (by omega))
theorem op_bd {B R : List Int} {bs : Int} (hB : U8L B) (hR : U8L R) (hbs : 0 ≤ bs ∧ bs ≤ 65535) (h : opE B R bs = 0) : ∀ x ∈ opA B R bs, BdC x := g4_bd ((op_is hB hR hbs).2 h).1
theorem op_len {B R : List Int} {bs : Int} (hB : U8L B) (hR : U8L R) (hbs : 0 ≤ bs ∧ bs ≤ 65535) (h : opE B R bs = 0) : (opA B R bs).length = 4 := ((op_is hB hR hbs).2 h).1.1
def stA (B R : List Int) (bs v w ln ld : Int) : List Ac := (stl (opA B R bs) v w ln ld).1
def stP (B R : List Int) (bs v w ln ld : Int) : Int := (stl (opA B R bs) v w ln ld).2.1
def stQ (B R : List Int) (bs v w ln ld : Int) : Int := (stl (opA B R bs) v w ln ld).2.2.1
def stE (B R : List Int) (bs v w ln ld : Int) : Int := (stl (opA B R bs) v w ln ld).2.2.2
theorem st_e {B R : List Int} {bs v w ln ld : Int} (hB : U8L B) (hR : U8L R) (hbs : 0 ≤ bs ∧ bs ≤ 65535) (h : opE B R bs = 0) (hv : 0 ≤ v ∧ v ≤ 3) (hw : 0 ≤ w ∧ w ≤ 3) (hl : Rd ln ld) (h0 : 0 ≤ ln) (k : ¬ stE B R bs v w ln ld = 0) : stE B R bs v w ln ld = 2 := (stl_is ((op_is hB hR hbs).2 h).1 hv hw hl h0).1 k
theorem st_ok {B R : List Int} {bs v w ln ld : Int} (hB : U8L B) (hR : U8L R) (hbs : 0 ≤ bs ∧ bs ≤ 65535) (h : opE B R bs = 0) (hv : 0 ≤ v ∧ v ≤ 3) (hw : 0 ≤ w ∧ w ≤ 3) (hl : Rd ln ld) (h0 : 0 ≤ ln) (k : stE B R bs v w ln ld = 0) :
    stP B R bs v w ln ld = minN ((opA B R bs).getD v.toNat c0).n ((opA B R bs).getD v.toNat c0).d ln ld ∧ stQ B R bs v w ln ld = minD ((opA B R bs).getD v.toNat c0).n ((opA B R bs).getD v.toNat c0).d ln ld ∧ Stl (opA B R bs) (stA B R bs v w ln ld) v w (stP B R bs v w ln ld) (stQ B R bs v w ln ld) := (stl_is ((op_is hB hR hbs).2 h).1 hv hw hl h0).2 k
theorem st_g {B R : List Int} {bs v w ln ld : Int} (hB : U8L B) (hR : U8L R) (hbs : 0 ≤ bs ∧ bs ≤ 65535) (h : opE B R bs = 0) (hv : 0 ≤ v ∧ v ≤ 3) (hw : 0 ≤ w ∧ w ≤ 3) (hl : Rd ln ld) (h0 : 0 ≤ ln) (k : stE B R bs v w ln ld = 0) : G4 (stA B R bs v w ln ld) := (st_ok hB hR hbs h hv hw hl h0 k).2.2.g
/-! ### Who is short -/
theorem shrt_nil (l : List An) (L : List Rk) (base : Int) (t : List Ac) (h : ¬ (shrt l L base t).2 = 0) : (shrt l L base t).1 = [] := by
  cases t with
  | nil => exact absurd rfl h
  | cons x t =>
    unfold shrt at *
    split at h
    · split at h
      · exact absurd rfl h
      · rw [if_pos (by assumption), if_neg (by assumption)]
    · rw [if_neg (by assumption)]
theorem shrt_skip {l : List An} {L : List Rk} {base : Int} {x : Ac} {t : List Ac} (h : bonE l L x.fi base = 0) (hc : ¬ cmpI x.n x.d (bonN l L x.fi base) (bonD l L x.fi base) < 0) : shrt l L base (x :: t) = shrt l L base t := by
  conv => lhs; unfold shrt
  rw [if_pos h, if_neg hc]
  split
  · rename_i e; rw [← e]
  · rename_i e; rw [← shrt_nil _ _ _ _ e]
theorem shrt_skips {l : List An} {L : List Rk} {base : Int} (t : List Ac) : ∀ p : List Ac, (∀ x ∈ p, bonE l L x.fi base = 0 ∧ ¬ cmpI x.n x.d (bonN l L x.fi base) (bonD l L x.fi base) < 0) → shrt l L base (p ++ t) = shrt l L base t
  | [], _ => rfl
  | x :: p, h => by
    have := h x (List.mem_cons_self ..)
    rw [List.cons_append, shrt_skip this.1 this.2, shrt_skips t p (fun y hy => h y (List.mem_cons_of_mem _ hy))]
theorem cut_at {a : List Ac} {k : Nat} (hk : k < a.length) : a = a.take k ++ a.getD k c0 :: a.drop (k + 1) := by
  rw [getD_is hk, ← List.drop_eq_getElem_cons hk, List.take_append_drop]
theorem mem_take {a : List Ac} {k : Nat} {x : Ac} (h : x ∈ a.take k) : ∃ i, i < k ∧ i < a.length ∧ x = a.getD i c0 := by
  obtain ⟨i, hi, rfl⟩ := List.getElem_of_mem h
  simp at hi
  exact ⟨i, by omega, by omega, by rw [getD_is (by omega)]; simp⟩
theorem mem_drop {a : List Ac} {k : Nat} {x : Ac} (h : x ∈ a.drop k) : ∃ i, k ≤ i ∧ i < a.length ∧ x = a.getD i c0 := by
  obtain ⟨i, hi, rfl⟩ := List.getElem_of_mem h
  simp at hi
  exact ⟨k + i, by omega, by omega, by rw [getD_is (by omega)]; simp⟩
theorem shrt_none4 {l : List An} {L : List Rk} {base : Int} {s : List Ac} (hf : ∀ i : Nat, i < s.length → (s.getD i c0).fi = i ∧ bonE l L i base = 0 ∧ ¬ cmpI (s.getD i c0).n (s.getD i c0).d (bonN l L i base) (bonD l L i base) < 0) : shrt l L base s = ([], 0) := by
  have := shrt_skips (l := l) (L := L) (base := base) [] s (fun x hx => by
    obtain ⟨i, hi, rfl⟩ := List.getElem_of_mem hx
    have k := hf i hi
    rw [getD_is hi] at k
    rw [k.1]; exact k.2)
  rw [List.append_nil] at this
  rw [this]; rfl
theorem shrt_one4 {l : List An} {L : List Rk} {base : Int} {s : List Ac} {k : Nat} (hk : k < s.length) (hf : ∀ i : Nat, i < s.length → (s.getD i c0).fi = i ∧ bonE l L i base = 0) (hc : ∀ i : Nat, i < s.length → i ≠ k → ¬ cmpI (s.getD i c0).n (s.getD i c0).d (bonN l L i base) (bonD l L i base) < 0) (h : cmpI (s.getD k c0).n (s.getD k c0).d (bonN l L k base) (bonD l L k base) < 0) : shrt l L base s = ([(k : Int)], 0) := by
  rw [cut_at hk, shrt_skips _ _ (fun x hx => by
    obtain ⟨i, h1, h2, rfl⟩ := mem_take hx
    have e := hf i h2
    rw [e.1]; exact ⟨e.2, hc i h2 (by omega)⟩)]
  have t : shrt l L base (s.drop (k + 1)) = ([], 0) := by
    have := shrt_skips (l := l) (L := L) (base := base) [] (s.drop (k + 1)) (fun x hx => by
      obtain ⟨i, h1, h2, rfl⟩ := mem_drop hx
      have e := hf i h2
      rw [e.1]; exact ⟨e.2, hc i h2 (by omega)⟩)
    rw [List.append_nil] at this
    rw [this]; rfl
  have e := hf k hk
  unfold shrt
  rw [e.1, if_pos e.2, t, if_pos rfl, if_pos h]
theorem shrt_bad4 {l : List An} {L : List Rk} {base : Int} {s : List Ac} {k : Nat} (hk : k < s.length) (hf : ∀ i : Nat, i < s.length → (s.getD i c0).fi = i) (he : ∀ i : Nat, i < k → bonE l L i base = 0) (hc : ∀ i : Nat, i < k → ¬ cmpI (s.getD i c0).n (s.getD i c0).d (bonN l L i base) (bonD l L i base) < 0) (h : ¬ bonE l L k base = 0) : shrt l L base s = ([], bonE l L k base) := by
  rw [cut_at hk, shrt_skips _ _ (fun x hx => by
    obtain ⟨i, h1, h2, rfl⟩ := mem_take hx
    rw [hf i h2]; exact ⟨he i h1, hc i h1⟩)]
  unfold shrt
  rw [hf k hk, if_neg h]
def sameI (a b : List Int) : Bool := decide (a = b)
def one1 (x : Int) : List Int := [x]
def nil1 : List Int := []
theorem sho_first {B R : List Int} {bs : Int} (hB : U8L B) (hR : U8L R) (hbs : 0 ≤ bs ∧ bs ≤ 65535) (h : opE B R bs = 0) : shoE (opA B R bs) (bookF B) (riskF R) bs = 0 ∧ shoL (opA B R bs) (bookF B) (riskF R) bs = [] := by
  obtain ⟨g, k⟩ := (op_is hB hR hbs).2 h
  have hr := g4_right g
  have s : shrt (bookF B) (riskF R) bs (opA B R bs) = ([], 0) := shrt_none4 fun i hi => by
    have := g.1
    obtain ⟨k1, k2⟩ := k i (by omega)
    have x := (g.2 i (by omega)).2.1
    rw [k2] at x ⊢
    refine ⟨rfl, k1, fun c => ?_⟩
    have := (cmp_v x x).1 c
    grind
  unfold shoE shoL
  rw [if_pos hr, if_pos hr, s]; exact ⟨rfl, rfl⟩
theorem sho_then {B R : List Int} {bs v w c : Int} (hB : U8L B) (hR : U8L R) (hbs : 0 ≤ bs ∧ bs ≤ 65535) (h : opE B R bs = 0) (hv : 0 ≤ v ∧ v ≤ 3) (hw : 0 ≤ w ∧ w ≤ 3) (hc : 0 ≤ c ∧ c ≤ 255) (k : stE B R bs v w c 1 = 0) :
    shoE (stA B R bs v w c 1) (bookF B) (riskF R) bs = 0 ∧ (v ≠ w → 0 < stP B R bs v w c 1 → shoL (stA B R bs v w c 1) (bookF B) (riskF R) bs = [v]) ∧ (v = w ∨ stP B R bs v w c 1 ≤ 0 → shoL (stA B R bs v w c 1) (bookF B) (riskF R) bs = []) := by
  obtain ⟨g, f⟩ := (op_is hB hR hbs).2 h
  obtain ⟨_, _, t⟩ := st_ok hB hR hbs h hv hw (rd_int (by omega)) hc.1 k
  have gs := t.g
  have hr := g4_right gs
  have pv := (vR_nonneg t.pq.1.d0).2 t.pq.2
  have al := g.1
  have sl := gs.1
  unfold shoE shoL
  rw [if_pos hr, if_pos hr]
  generalize stP B R bs v w c 1 = p at *
  generalize stQ B R bs v w c 1 = q at *
  generalize stA B R bs v w c 1 = s at *
  have bd : ∀ i : Nat, i < 4 → Rd (bonN (bookF B) (riskF R) i bs) (bonD (bookF B) (riskF R) i bs) ∧ vR (bonN (bookF B) (riskF R) i bs) (bonD (bookF B) (riskF R) i bs) = vR ((opA B R bs).getD i c0).n ((opA B R bs).getD i c0).d := fun i hi => by
    have r := (g.2 i hi).2.1
    rw [(f i hi).2] at r ⊢
    exact ⟨r, rfl⟩
  have no : ∀ i : Nat, i < 4 → (i : Int) ≠ v ∨ v = w ∨ p ≤ 0 → ¬ cmpI (s.getD i c0).n (s.getD i c0).d (bonN (bookF B) (riskF R) i bs) (bonD (bookF B) (riskF R) i bs) < 0 := fun i hi hn hx => by
    have x := (cmp_v (gs.2 i hi).2.1 (bd i hi).1).1 hx
    rw [(bd i hi).2] at x
    by_cases e : v = w
    · rw [t.same e] at x; grind
    · by_cases e1 : (i : Int) = v
      · have e2 : p = 0 := by have := t.pq.2; omega
        have := t.frm e
        rw [show v.toNat = i by omega] at this
        have z : vR p q = 0 := by
          have := (vR_nonneg (n := -p) t.pq.1.d0).2 (by omega)
          rw [vR_neg] at this
          grind
        rw [this, z] at x
        grind
      · by_cases e2 : (i : Int) = w
        · have := t.tow e
          rw [show w.toNat = i by omega] at this
          rw [this] at x
          grind
        · rw [t.other i hi e1 e2] at x; grind
  by_cases hs : v ≠ w ∧ 0 < p
  · have hk : cmpI (s.getD v.toNat c0).n (s.getD v.toNat c0).d (bonN (bookF B) (riskF R) (v.toNat : Nat) bs) (bonD (bookF B) (riskF R) (v.toNat : Nat) bs) < 0 := by
      have hvn : v.toNat < 4 := by omega
      refine (cmp_v (gs.2 _ hvn).2.1 (bd _ hvn).1).2 ?_
      rw [(bd _ hvn).2, t.frm hs.1]
      have z : ¬ vR p q ≤ 0 := fun z => by
        have := (vR_nonneg (n := -p) t.pq.1.d0).1 (by rw [vR_neg]; grind)
        omega
      grind
    have e := shrt_one4 (l := bookF B) (L := riskF R) (base := bs) (s := s) (k := v.toNat) (by omega) (fun i hi => ⟨(gs.2 i (by omega)).1, (f i (by omega)).1⟩) (fun i hi hn => no i (by omega) (.inl (by omega))) hk
    rw [e, show ((v.toNat : Nat) : Int) = v by omega]
    exact ⟨rfl, fun _ _ => rfl, fun z => absurd z (by omega)⟩
  · have e := shrt_none4 (l := bookF B) (L := riskF R) (base := bs) (s := s) (fun i hi => ⟨(gs.2 i (by omega)).1, (f i (by omega)).1, no i (by omega) (.inr (by omega))⟩)
    rw [e]
    exact ⟨rfl, fun a b => absurd ⟨a, b⟩ hs, fun _ => rfl⟩
theorem sho_core {l : List An} {L : List Rk} {base v : Int} {a : List Ac} (g : G4 a) (hv : 0 ≤ v ∧ v ≤ 3) (E : ∀ i : Nat, i < 4 → (i : Int) ≠ v → bonE l L i base = 0 ∧ ¬ cmpI (a.getD i c0).n (a.getD i c0).d (bonN l L i base) (bonD l L i base) < 0) :
    (bonE l L v base = 0 → cmpI (a.getD v.toNat c0).n (a.getD v.toNat c0).d (bonN l L v base) (bonD l L v base) < 0 → shrt l L base a = ([v], 0)) ∧ (¬ bonE l L v base = 0 → shrt l L base a = ([], bonE l L v base)) := by
  have al := g.1
  have ve : ((v.toNat : Nat) : Int) = v := by omega
  refine ⟨fun h c => ?_, fun h => ?_⟩
  · have e := shrt_one4 (l := l) (L := L) (base := base) (s := a) (k := v.toNat) (by omega) (fun i hi => by
      have k := g.2 i (by omega)
      refine ⟨k.1, ?_⟩
      by_cases hi2 : (i : Int) = v
      · rw [hi2]; exact h
      · have := E i (by omega) hi2; exact this.1) (fun i hi hn => by have := E i (by omega) (by omega); exact this.2) (by rw [ve]; exact c)
    rw [e, ve]
  · have e := shrt_bad4 (l := l) (L := L) (base := base) (s := a) (k := v.toNat) (by omega) (fun i hi => by have k := g.2 i (by omega); exact k.1) (fun i hi => by have := E i (by omega) (by omega); exact this.1) (fun i hi => by have := E i (by omega) (by omega); exact this.2) (by rw [ve]; exact h)
    rw [e, ve]
theorem sho_more {B R : List Int} {bs v c : Int} (hB : U8L B) (hR : U8L R) (hbs : 0 ≤ bs ∧ bs ≤ 65535) (h : opE B R bs = 0) (hv : 0 ≤ v ∧ v ≤ 3) (hc : 1 ≤ c ∧ c ≤ 256) : (¬ shoE (opA B R bs) (bookF B) (riskM R ⟨v, 3, c⟩) bs = 0 → shoE (opA B R bs) (bookF B) (riskM R ⟨v, 3, c⟩) bs = 2 ∧ shoL (opA B R bs) (bookF B) (riskM R ⟨v, 3, c⟩) bs = []) ∧ (shoE (opA B R bs) (bookF B) (riskM R ⟨v, 3, c⟩) bs = 0 → shoL (opA B R bs) (bookF B) (riskM R ⟨v, 3, c⟩) bs = [v]) ∧ (bonE (bookF B) (riskM R ⟨v, 3, c⟩) v bs = 0 → shoE (opA B R bs) (bookF B) (riskM R ⟨v, 3, c⟩) bs = 0) := by
  obtain ⟨g, f⟩ := (op_is hB hR hbs).2 h
  have hr := g4_right g
  have al := g.1
  have hl := riskF_len R
  have wr : wrongK ⟨v, 3, c⟩ = false := by unfold wrongK wrongR; rw [decide_eq_false]; simp only; omega
  have hw := risk_right hR
  have hBr := book_right hB
  unfold shoE shoL riskM
  rw [if_pos hr, if_pos hr]
  have bd : ∀ i : Nat, i < 4 → Rd (bonN (bookF B) (riskF R) i bs) (bonD (bookF B) (riskF R) i bs) := fun i hi => by
    have r := (g.2 i hi).2.1
    rw [(f i hi).2] at r
    exact r
  have ot : ∀ i : Nat, i < 4 → (i : Int) ≠ v → bonE (bookF B) (riskF R ++ [⟨v, 3, c⟩]) i bs = 0 ∧ ¬ cmpI ((opA B R bs).getD i c0).n ((opA B R bs).getD i c0).d (bonN (bookF B) (riskF R ++ [⟨v, 3, c⟩]) i bs) (bonD (bookF B) (riskF R ++ [⟨v, 3, c⟩]) i bs) < 0 := fun i hi hn => by
    obtain ⟨e1, e2, e3⟩ := bon_other (l := bookF B) (L := riskF R) (f := (i : Int)) (base := bs) (r := ⟨v, 3, c⟩) (by omega) (by omega) (by omega) hw wr (by simp only; omega)
    rw [e1, e2, e3, (f i hi).2]
    refine ⟨(f i hi).1, fun x => ?_⟩
    have := (cmp_v (bd i hi) (bd i hi)).1 x
    grind
  have hvn : v.toNat < 4 := by omega
  have ve : ((v.toNat : Nat) : Int) = v := by omega
  obtain ⟨m1, m2, m3⟩ := (bon_more (l := bookF B) hBr (L := riskF R) (f := v) (base := bs) (r := ⟨v, 3, c⟩) (by omega) (by omega) (by omega) hw wr rfl).1 (by have := (f _ hvn).1; rwa [ve] at this)
  have b0 := bd _ hvn
  have a0 := (f _ hvn).2
  rw [ve] at b0 a0
  obtain ⟨p1, p2, p3⟩ := pre_rd (x := cntQ (bookF B) 3) (fi := v) (k := 3) (c := c) (cnt_ok hBr _) wr
  by_cases he : bonE (bookF B) (riskF R ++ [⟨v, 3, c⟩]) v bs = 0
  · have hk : cmpI ((opA B R bs).getD v.toNat c0).n ((opA B R bs).getD v.toNat c0).d (bonN (bookF B) (riskF R ++ [⟨v, 3, c⟩]) (v.toNat : Nat) bs) (bonD (bookF B) (riskF R ++ [⟨v, 3, c⟩]) (v.toNat : Nat) bs) < 0 := by
      rw [ve, a0, m1, m2]
      rw [m3] at he
      obtain ⟨r, s⟩ := add_v b0 p1 he
      refine (cmp_v b0 r).2 ?_
      rw [show vR (bonN (bookF B) (riskF R) v bs) (bonD (bookF B) (riskF R) v bs) < vR (addN (bonN (bookF B) (riskF R) v bs) (bonD (bookF B) (riskF R) v bs) (preN (cntQ (bookF B) 3) v 3 c) (preD (cntQ (bookF B) 3) v 3 c)) (addD (bonN (bookF B) (riskF R) v bs) (bonD (bookF B) (riskF R) v bs) (preN (cntQ (bookF B) 3) v 3 c) (preD (cntQ (bookF B) 3) v 3 c)) ↔ vR (bonN (bookF B) (riskF R) v bs) (bonD (bookF B) (riskF R) v bs) < vR (bonN (bookF B) (riskF R) v bs) (bonD (bookF B) (riskF R) v bs) + vR (preN (cntQ (bookF B) 3) v 3 c) (preD (cntQ (bookF B) 3) v 3 c) by rw [← s]]
      have z : ¬ vR (preN (cntQ (bookF B) 3) v 3 c) (preD (cntQ (bookF B) 3) v 3 c) ≤ 0 := fun z => by
        have := (vR_nonneg (n := -preN (cntQ (bookF B) 3) v 3 c) p1.d0).1 (by rw [vR_neg]; grind)
        have := p3 (by omega)
        omega
      grind
    have e := (sho_core g hv ot).1 he (by rw [ve] at hk; exact hk)
    rw [e]
    exact ⟨fun x => absurd rfl x, fun _ => rfl, fun _ => rfl⟩
  · have he2 : bonE (bookF B) (riskF R ++ [⟨v, 3, c⟩]) v bs = 2 := by
      rw [m3] at he ⊢
      exact (addE_two he).1
    have e := (sho_core g hv ot).2 he
    rw [e, he2]
    exact ⟨fun _ => ⟨rfl, rfl⟩, fun x => absurd x (by decide), fun x => absurd x (by decide)⟩

end Go.Proofs.Ytkijlggnnbdeiaa
