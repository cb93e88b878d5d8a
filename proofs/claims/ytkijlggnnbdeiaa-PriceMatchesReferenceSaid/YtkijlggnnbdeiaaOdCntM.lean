/- What a book says of a kind; joining by the reference; searching by halves; fractions in lowest terms. No program. -/
import Derived.Test.YtkijlggnnbdeiaaOdMad
set_option linter.unusedVariables false
set_option linter.unusedSimpArgs false
namespace Go.Proofs.Ytkijlggnnbdeiaa
open Go.RowKit

def cntQ (l : List An) (k : Int) : An := (lk l k).getD ⟨k, 0, 0⟩
theorem cnt_kind (l : List An) (k : Int) : (cntQ l k).kind = k := by
  unfold cntQ
  cases h : lk l k with
  | none => rfl
  | some x => exact (lk_kind h).1
theorem cnt_bd {l : List An} (h : RightP l) (k : Int) : (0 ≤ (cntQ l k).right ∧ (cntQ l k).right ≤ 1073741824) ∧ 0 ≤ (cntQ l k).wrong ∧ (cntQ l k).wrong ≤ 1073741824 := by
  unfold cntQ
  cases hx : lk l k with
  | none => simp
  | some x =>
    have := h.ok x (lk_kind hx).2
    unfold okQ at this
    simp only [Option.getD_some]; omega
theorem cnt_none {l : List An} {k : Int} (h : ¬ (lk l k).isSome = true) : lk l k = none := by simpa using h
theorem cnt_some {l : List An} {k : Int} (h : (lk l k).isSome = true) : lk l k = some (cntQ l k) := by
  obtain ⟨x, hx⟩ := Option.isSome_iff_exists.1 h
  rw [cntQ, hx]; rfl
theorem lk_at {l : List An} {k : Int} {i : Nat} (hi : i < l.length) (h : ∀ j, j < i → ¬ (l.getD j q0).kind = k) (he : (l.getD i q0).kind = k) : lk l k = some (l.getD i q0) := by
  induction l generalizing i with
  | nil => simp at hi
  | cons x l ih =>
    cases i with
    | zero =>
      have he : x.kind = k := by simpa using he
      rw [lk, if_pos he]; simp
    | succ i =>
      have h0 := h 0 (by omega)
      simp only [List.getD_cons_zero] at h0
      rw [lk, if_neg h0]
      exact ih (by simpa using hi) (fun j hj => by simpa using h (j + 1) (by omega)) (by simpa using he)
theorem lk_no {l : List An} {k : Int} (h : ∀ j, j < l.length → ¬ (l.getD j q0).kind = k) : lk l k = none := lk_none fun x hx => by
  obtain ⟨n, hn, rfl⟩ := List.getElem_of_mem hx
  have := h n hn
  rwa [getD_get hn] at this
theorem sumQ_zero {x : An} : sumQ ⟨x.kind, 0, 0⟩ x = x := by cases x; simp [sumQ]
theorem sumQ_zero' {x : An} {k : Int} : sumQ x ⟨k, 0, 0⟩ = x := by cases x; simp [sumQ]
theorem merge_cnt {a b : List An} (ha : RightP a) (hb : RightP b) {k : Int} (h : (lk a k).isSome = true ∨ (lk b k).isSome = true) : lk (mergeF a b) k = some (sumQ (cntQ a k) (cntQ b k)) := by
  rw [merge_lk _ _ ha.srt hb.srt]
  cases h1 : lk a k with
  | none =>
    cases h2 : lk b k with
    | none => simp [h1, h2] at h
    | some y =>
      have : k = y.kind := (lk_kind h2).1.symm
      simp only [cntQ, h1, h2, Option.getD, comb]
      rw [this, sumQ_zero]
  | some x =>
    cases h2 : lk b k with
    | none => simp only [cntQ, h1, h2, Option.getD, comb]; rw [sumQ_zero']
    | some y => simp only [cntQ, h1, h2, Option.getD, comb]
theorem merge_cnt0 {a b : List An} (ha : RightP a) (hb : RightP b) {k : Int} (h1 : ¬ (lk a k).isSome = true) (h2 : ¬ (lk b k).isSome = true) : lk (mergeF a b) k = none := by
  rw [merge_lk _ _ ha.srt hb.srt, cnt_none h1, cnt_none h2]; rfl
def JF (m : List An) (n : Int) : List An := m.filter fun x => decide (x.kind ≤ n)
theorem jf_lt {m : List An} {n : Int} (h : ∀ x ∈ m, n < x.kind) : JF m n = [] := by
  unfold JF
  rw [List.filter_eq_nil_iff]
  intro x hx
  have := h x hx
  simp; omega
theorem jf_le {m : List An} {n : Int} (h : ∀ x ∈ m, x.kind ≤ n) : JF m n = m := by
  unfold JF
  rw [List.filter_eq_self]
  intro x hx
  have := h x hx
  simpa using this
theorem jf_no : ∀ {m : List An} {n : Int}, lk m (n + 1) = none → JF m (n + 1) = JF m n
  | [], n, _ => rfl
  | x :: m, n, h => by
    simp only [lk] at h
    split at h
    · cases h
    · have ih := jf_no h
      unfold JF at ih ⊢
      simp only [List.filter_cons]
      rw [ih]
      by_cases hx : x.kind ≤ n
      · simp [hx]; omega
      · rw [decide_eq_false (by omega : ¬ x.kind ≤ n + 1), decide_eq_false hx]
theorem jf_yes : ∀ {m : List An} {n : Int} {x : An}, Srt m → lk m (n + 1) = some x → JF m (n + 1) = JF m n ++ [x]
  | [], n, x, _, h => by simp [lk] at h
  | y :: m, n, x, hs, h => by
    obtain ⟨h1, h2⟩ := List.pairwise_cons.1 hs
    simp only [lk] at h
    split at h
    · rename_i hy
      cases h
      have e1 := jf_lt (m := m) (n := n + 1) (fun z hz => by have := h1 z hz; omega)
      have e2 := jf_lt (m := m) (n := n) (fun z hz => by have := h1 z hz; omega)
      unfold JF at e1 e2 ⊢
      simp only [List.filter_cons]
      rw [e1, e2, decide_eq_true (by omega : y.kind ≤ n + 1), decide_eq_false (by omega : ¬ y.kind ≤ n)]
      rfl
    · have ih := jf_yes h2 h
      have hk := lk_kind h
      have := h1 x hk.2
      unfold JF at ih ⊢
      simp only [List.filter_cons]
      rw [ih, decide_eq_true (by omega : y.kind ≤ n + 1), decide_eq_true (by omega : y.kind ≤ n)]
      rfl
def JOk (m : List An) (n : Int) : Prop := ∀ x ∈ JF m n, x.right ≤ 1073741824 ∧ x.wrong ≤ 1073741824
theorem merge_kinds14 {a b : List An} (ha : RightP a) (hb : RightP b) : ∀ x ∈ mergeF a b, kindQ x := merge_kindQ _ _ (fun x hx => (ha.ok x hx).kindQ) (fun x hx => (hb.ok x hx).kindQ)
theorem jf_zero {a b : List An} (ha : RightP a) (hb : RightP b) : JF (mergeF a b) 0 = [] := jf_lt fun x hx => by have := merge_kinds14 ha hb x hx; unfold kindQ at this; omega
theorem jf_all {a b : List An} (ha : RightP a) (hb : RightP b) : JF (mergeF a b) 14 = mergeF a b := jf_le fun x hx => (merge_kinds14 ha hb x hx).2.1
theorem j_fin {a b : List An} (ha : RightP a) (hb : RightP b) (h : JOk (mergeF a b) 14) : rightE (mergeF a b) = 0 := by
  unfold JOk at h
  rw [jf_all ha hb] at h
  rw [rightE, if_pos (right_iff.2 ⟨merge_srt _ _ ha.srt hb.srt, fun x hx => ?_⟩)]
  have := merge_kinds14 ha hb x hx
  have := h x hx
  unfold kindQ at *
  unfold okQ; omega
theorem j_big {a b : List An} (ha : RightP a) (hb : RightP b) {k : Int} (h : (cntQ a k).right + (cntQ b k).right > 1073741824 ∨ (cntQ a k).wrong + (cntQ b k).wrong > 1073741824) : ¬ rightE (mergeF a b) = 0 := by
  intro he
  have hr : RightP (mergeF a b) := by
    unfold rightE at he
    split at he
    · assumption
    · exact absurd he (by decide)
  have hs : (lk a k).isSome = true ∨ (lk b k).isSome = true := by
    cases h1 : lk a k with
    | some x => exact .inl rfl
    | none =>
      cases h2 : lk b k with
      | some x => exact .inr rfl
      | none => simp [cntQ, h1, h2] at h
  have := hr.ok _ (lk_kind (merge_cnt ha hb hs)).2
  unfold okQ sumQ at this
  simp only at this
  omega
theorem jok_step {m : List An} {n : Int} {x : An} (hs : Srt m) (h : JOk m n) (hx : lk m (n + 1) = some x) (hb : x.right ≤ 1073741824 ∧ x.wrong ≤ 1073741824) : JOk m (n + 1) := by
  unfold JOk at *
  rw [jf_yes hs hx]
  intro z hz
  rcases List.mem_append.1 hz with hz | hz
  · exact h z hz
  · simp at hz; subst hz; exact hb
theorem jok_no {m : List An} {n : Int} (h : JOk m n) (hx : lk m (n + 1) = none) : JOk m (n + 1) := by
  unfold JOk at *
  rw [jf_no hx]; exact h
theorem jf_len {a b : List An} (ha : RightP a) (hb : RightP b) (n : Int) : (JF (mergeF a b) n).length ≤ 28 := by
  have h1 := List.length_filter_le (fun x : An => decide (x.kind ≤ n)) (mergeF a b)
  have h2 := merge_len a b
  have := ha.len
  have := hb.len
  unfold JF; omega

/-! ### Searching by halves -/

def bsF (p : Nat → Prop) [DecidablePred p] (i j : Nat) : Nat :=
  if h : i < j then if p ((i + j) / 2) then bsF p ((i + j) / 2 + 1) j else bsF p i ((i + j) / 2) else i
  termination_by j - i
theorem bsF_lo {p : Nat → Prop} [DecidablePred p] {i j : Nat} (h : i < j) (k : p ((i + j) / 2)) : bsF p ((i + j) / 2 + 1) j = bsF p i j := by
  conv => rhs; rw [bsF, dif_pos h, if_pos k]
theorem bsF_hi {p : Nat → Prop} [DecidablePred p] {i j : Nat} (h : i < j) (k : ¬ p ((i + j) / 2)) : bsF p i ((i + j) / 2) = bsF p i j := by
  conv => rhs; rw [bsF, dif_pos h, if_neg k]
theorem bsF_end {p : Nat → Prop} [DecidablePred p] {i j : Nat} (h : ¬ i < j) : bsF p i j = i := by rw [bsF, dif_neg h]
theorem bsF_spec {p : Nat → Prop} [DecidablePred p] (i j : Nat) (hij : i ≤ j) : i ≤ bsF p i j ∧ bsF p i j ≤ j ∧ (i < bsF p i j → p (bsF p i j - 1)) ∧ (bsF p i j < j → ¬ p (bsF p i j)) := by
  by_cases h : i < j
  · by_cases k : p ((i + j) / 2)
    · rw [← bsF_lo h k]
      obtain ⟨h1, h2, h3, h4⟩ := bsF_spec (p := p) ((i + j) / 2 + 1) j (by omega)
      refine ⟨by omega, h2, fun _ => ?_, h4⟩
      by_cases he : (i + j) / 2 + 1 < bsF p ((i + j) / 2 + 1) j
      · exact h3 he
      · rw [show bsF p ((i + j) / 2 + 1) j = (i + j) / 2 + 1 by omega]; exact k
    · rw [← bsF_hi h k]
      obtain ⟨h1, h2, h3, h4⟩ := bsF_spec (p := p) i ((i + j) / 2) (by omega)
      refine ⟨h1, by omega, h3, fun _ => ?_⟩
      by_cases he : bsF p i ((i + j) / 2) < (i + j) / 2
      · exact h4 he
      · rw [show bsF p i ((i + j) / 2) = (i + j) / 2 by omega]; exact k
  · rw [bsF_end h]; exact ⟨Nat.le_refl _, hij, fun h => by omega, fun h => by omega⟩
  termination_by j - i
/-- What the order of a book says. -/
abbrev ordQ (l : List An) (k : Int) (n : Nat) : Prop := IntKind.wrap .i64 ((l.getD n q0).kind - k) < 0
def bsQ (l : List An) (k : Int) : Nat := bsF (ordQ l k) 0 l.length
theorem wrap_in {x : Int} (h1 : -9223372036854775808 ≤ x) (h2 : x ≤ 9223372036854775807) : IntKind.wrap .i64 x = x := w64 h1 h2
theorem bs_hit {l : List An} {k : Int} (h : RightP l) (hi : bsQ l k < l.length) (he : (l.getD (bsQ l k) q0).kind = k) : cntQ l k = l.getD (bsQ l k) q0 := by
  have := lk_mem h.srt (getD_mem hi)
  rw [he] at this
  rw [cntQ, this]; rfl
theorem bs_miss {l : List An} {k : Int} (h : RightP l) (hk : -9223372036854775808 ≤ k ∧ k ≤ 9223372036854775807) (he : ¬ (bsQ l k < l.length ∧ (l.getD (bsQ l k) q0).kind = k)) : cntQ l k = ⟨k, 0, 0⟩ := by
  have hn : lk l k = none := by
    cases hx : lk l k with
    | none => rfl
    | some x =>
      exfalso
      obtain ⟨e1, e2⟩ := lk_kind hx
      have ok := h.ok x e2
      unfold okQ at ok
      obtain ⟨m, hm, rfl⟩ := List.getElem_of_mem e2
      have hw : ∀ n, n < l.length → IntKind.wrap .i64 ((l.getD n q0).kind - k) = (l.getD n q0).kind - k := fun n hn => by
        have := h.ok _ (getD_mem hn)
        unfold okQ at this
        exact wrap_in (by omega) (by omega)
      have lt : ∀ a b, a < b → b < l.length → (l.getD a q0).kind < (l.getD b q0).kind := fun a b hab hb => by
        rw [getD_get hb, getD_get (by omega)]
        exact List.pairwise_iff_getElem.1 h.srt a b (by omega) hb hab
      obtain ⟨_, s2, s3, s4⟩ := bsF_spec (p := ordQ l k) 0 l.length (by omega)
      have em : (l.getD m q0).kind = k := by rw [getD_get hm]; exact e1
      change bsQ l k ≤ l.length at s2
      change 0 < bsQ l k → ordQ l k (bsQ l k - 1) at s3
      change bsQ l k < l.length → ¬ ordQ l k (bsQ l k) at s4
      rcases Nat.lt_trichotomy m (bsQ l k) with h1 | h1 | h1
      · have := s3 (by omega)
        unfold ordQ at this
        rw [hw _ (by omega)] at this
        by_cases h2 : m = bsQ l k - 1
        · rw [← h2] at this; omega
        · have := lt m (bsQ l k - 1) (by omega) (by omega); omega
      · subst h1; exact he ⟨hm, em⟩
      · have := s4 (by omega)
        unfold ordQ at this
        rw [hw _ (by omega)] at this
        have := lt (bsQ l k) m h1 hm
        omega
  rw [cntQ, hn]; rfl
theorem wrap_zero {k : Int} {x : Int} (h1 : 1 ≤ x ∧ x ≤ 14) (hk : -9223372036854775808 ≤ k ∧ k ≤ 9223372036854775807) : IntKind.wrap .i64 (x - k) = 0 ↔ x = k := by
  constructor
  · intro h
    by_cases hb : x - k ≤ 9223372036854775807
    · rw [wrap_in (by omega) hb] at h; omega
    · have : IntKind.wrap .i64 (x - k) = x - k - 18446744073709551616 := by
        simp [IntKind.wrap, IntKind.bits, IntKind.signed]; omega
      omega
  · intro h
    rw [h, Int.sub_self]; rfl

/-! ### Fractions in lowest terms -/

theorem gcd_half {a b : Int} (ha : a % 2 = 0) (hb : b % 2 = 0) : (Int.gcd a b : Int) = 2 * (Int.gcd (a / 2) (b / 2) : Int) := by
  have h : Int.gcd (2 * (a / 2)) (2 * (b / 2)) = Int.natAbs 2 * Int.gcd (a / 2) (b / 2) := Int.gcd_mul_left ..
  rw [show 2 * (a / 2) = a by omega, show 2 * (b / 2) = b by omega] at h
  rw [h]; simp
theorem div_half {a g : Int} (ha : a % 2 = 0) : a / (2 * g) = a / 2 / g := by
  rw [Int.ediv_ediv_of_nonneg (by omega)]
end Go.Proofs.Ytkijlggnnbdeiaa
