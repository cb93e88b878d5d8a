/- Numbers as lists of bits, the least first. No program. -/
import Derived.Test.YtkijlggnnbdeiaaPrMath
import Derived.Test.YtkijlggnnbdeiaaProg
set_option linter.unusedVariables false
set_option linter.unusedSimpArgs false
namespace Go.Proofs.Ytkijlggnnbdeiaa
open Go.RowKit
set_option maxRecDepth 100000

def val : List Int → Int
  | [] => 0
  | x :: t => x + 2 * val t
def B01 (l : List Int) : Prop := ∀ x ∈ l, x = 0 ∨ x = 1
def bitL (n : Nat) : List Int := if h : n = 0 then [] else ((n % 2 : Nat) : Int) :: bitL (n / 2)
termination_by n
decreasing_by omega
/-- The bits of a number, the least first. -/
def bl (n : Int) : List Int := bitL n.toNat
theorem bitL_pos {n : Nat} (h : 0 < n) : bitL n = ((n % 2 : Nat) : Int) :: bitL (n / 2) := by
  conv => lhs; unfold bitL
  rw [dif_neg (by omega)]
theorem bl_zero {n : Int} (h : n ≤ 0) : bl n = [] := by
  unfold bl bitL; rw [dif_pos (by omega)]
theorem bl_pos {n : Int} (h : 0 < n) : bl n = n % 2 :: bl (n / 2) := by
  unfold bl
  rw [bitL_pos (by omega), show ((n.toNat % 2 : Nat) : Int) = n % 2 by omega, show n.toNat / 2 = (n / 2).toNat by omega]
theorem bl_ind {p : Int → Prop} (h0 : ∀ n, n ≤ 0 → p n) (h : ∀ n, 0 < n → p (n / 2) → p n) (n : Int) : p n := by
  by_cases hn : n ≤ 0
  · exact h0 n hn
  · exact h n (by omega) (bl_ind h0 h (n / 2))
termination_by n.toNat
decreasing_by omega
theorem val_bl (n : Int) (h : 0 ≤ n) : val (bl n) = n := by
  revert h
  refine bl_ind (p := fun n => 0 ≤ n → val (bl n) = n) (fun n hn h => ?_) (fun n hn ih h => ?_) n
  · rw [bl_zero hn]; show (0 : Int) = n; omega
  · rw [bl_pos hn, val, ih (by omega)]; omega
theorem bl_01 (n : Int) : B01 (bl n) := by
  refine bl_ind (p := fun n => B01 (bl n)) (fun n hn => ?_) (fun n hn ih => ?_) n
  · rw [bl_zero hn]; intro x hx; cases hx
  · rw [bl_pos hn]; intro x hx
    rcases List.mem_cons.1 hx with rfl | hx
    · omega
    · exact ih x hx
theorem bl_len : ∀ (k : Nat) (n : Int), n < 2 ^ k → (bl n).length ≤ k
  | 0, n, h => by rw [bl_zero (by simpa using Int.lt_add_one_iff.1 (by simpa using h))]; simp
  | k + 1, n, h => by
    by_cases hn : n ≤ 0
    · rw [bl_zero hn]; simp
    · rw [bl_pos (by omega), List.length_cons]
      have := bl_len k (n / 2) (by rw [Int.pow_succ] at h; omega)
      omega
theorem bl_len0 {n : Int} (h : 0 ≤ n) : (bl n).length = 0 ↔ n = 0 := by
  constructor
  · intro e
    by_cases hn : n = 0
    · exact hn
    · rw [bl_pos (by omega)] at e; simp at e
  · intro e; rw [bl_zero (by omega)]; rfl
theorem getD_01 {l : List Int} (h : B01 l) (i : Nat) : l.getD i 0 = 0 ∨ l.getD i 0 = 1 := by
  by_cases hi : i < l.length
  · rw [getD_is hi]; exact h _ (List.getElem_mem hi)
  · rw [List.getD_eq_getElem?_getD, List.getElem?_eq_none (by omega)]; exact .inl rfl
theorem val_drop (l : List Int) (i : Nat) : val (l.drop i) = l.getD i 0 + 2 * val (l.drop (i + 1)) := by
  by_cases hi : i < l.length
  · rw [List.drop_eq_getElem_cons hi, val, getD_is hi]
  · rw [List.drop_eq_nil_iff.2 (by omega), List.drop_eq_nil_iff.2 (by omega), List.getD_eq_getElem?_getD, List.getElem?_eq_none (by omega)]; rfl
theorem val_end (l : List Int) {i : Nat} (h : l.length ≤ i) : val (l.drop i) = 0 := by rw [List.drop_eq_nil_iff.2 h]; rfl
theorem val_app : ∀ (l : List Int) (x : Int), val (l ++ [x]) = val l + 2 ^ l.length * x
  | [], x => by simp [val]
  | y :: t, x => by
    rw [List.cons_append, val, val_app t x, val, List.length_cons, Int.pow_succ, Int.mul_add, Int.mul_comm (2 ^ t.length) 2, Int.mul_assoc]; omega
theorem val_nonneg : ∀ {l : List Int}, B01 l → 0 ≤ val l
  | [], _ => Int.le_refl _
  | x :: t, h => by
    have := h x (List.mem_cons_self ..)
    have := val_nonneg (l := t) (fun y hy => h y (List.mem_cons_of_mem _ hy))
    rw [val]; omega
theorem pow_mono {i k : Nat} (h : i ≤ k) : (2 : Int) ^ i ≤ 2 ^ k := by
  induction h with
  | refl => exact Int.le_refl _
  | @step m _ ih =>
    rw [Int.pow_succ]
    have : (0 : Int) ≤ 2 ^ m := Int.pow_nonneg (by omega)
    omega
theorem val_lt : ∀ {l : List Int}, B01 l → val l < 2 ^ l.length
  | [], _ => by simp [val]
  | x :: t, h => by
    have := h x (List.mem_cons_self ..)
    have := val_lt (l := t) (fun y hy => h y (List.mem_cons_of_mem _ hy))
    rw [val, List.length_cons, Int.pow_succ]; omega
theorem b01_app {l : List Int} {x : Int} (h : B01 l) (hx : x = 0 ∨ x = 1) : B01 (l ++ [x]) := fun y hy => by
  rcases List.mem_append.1 hy with hy | hy
  · exact h y hy
  · obtain rfl := List.mem_singleton.1 hy; exact hx
theorem b01_tail {x : Int} {l : List Int} (h : B01 (x :: l)) : B01 l := fun y hy => h y (List.mem_cons_of_mem _ hy)
theorem b01_take {l : List Int} (h : B01 l) (n : Nat) : B01 (l.take n) := fun y hy => h y (List.mem_of_mem_take hy)
theorem b01_drop {l : List Int} (h : B01 l) (n : Nat) : B01 (l.drop n) := fun y hy => h y (List.mem_of_mem_drop hy)
theorem val_pos : ∀ {l : List Int}, B01 l → ∀ {i : Nat}, l.getD i 0 = 1 → 0 < val l
  | [], _, i, h => by simp at h
  | x :: t, hl, 0, h => by
    have := val_nonneg (b01_tail hl)
    have e : x = 1 := by simpa using h
    rw [val]; omega
  | x :: t, hl, i + 1, h => by
    have := val_pos (b01_tail hl) (i := i) (by simpa using h)
    have := hl x (List.mem_cons_self ..)
    rw [val]; omega
/-- A list of bits whose last one is 1 is that of its value. -/
theorem canon : ∀ {l : List Int}, B01 l → (l = [] ∨ l.getD (l.length - 1) 0 = 1) → l = bl (val l)
  | [], _, _ => by rw [bl_zero (by simp [val])]
  | x :: t, h, k => by
    have hx := h x (List.mem_cons_self ..)
    have ht := b01_tail h
    have v := val_nonneg ht
    rcases k with k | k
    · cases k
    · by_cases e : t = []
      · subst e
        have : x = 1 := by simpa using k
        subst this
        rw [val, bl_pos (by simp [val])]; simp [val, bl_zero]
      · have tl : 0 < t.length := List.length_pos_iff.2 e
        have k' : t.getD (t.length - 1) 0 = 1 := by
          rw [List.length_cons, show t.length + 1 - 1 = (t.length - 1) + 1 by omega, List.getD_cons_succ] at k; exact k
        have c := canon ht (.inr k')
        have p := val_pos ht k'
        rw [val, bl_pos (by omega), show (x + 2 * val t) % 2 = x by omega, show (x + 2 * val t) / 2 = val t by omega, ← c]
theorem val_take {l : List Int} : ∀ {n : Nat}, (∀ k, n ≤ k → l.getD k 0 = 0) → val (l.take n) = val l := by
  induction l with
  | nil => intro n _; simp
  | cons x t ih =>
    intro n h
    cases n with
    | zero =>
      have hx := h 0 (by omega)
      have e := ih (n := 0) (fun k _ => by have := h (k + 1) (by omega); simpa using this)
      have e : (0 : Int) = val t := e
      have : x = 0 := by simpa using hx
      show (0 : Int) = x + 2 * val t
      omega
    | succ n =>
      rw [List.take_succ_cons, val, val, ih (fun k hk => by have := h (k + 1) (by omega); simpa using this)]
/-- What `cut` leaves. -/
theorem cut_is {l : List Int} (h : B01 l) {n : Nat} (hn : n ≤ l.length) (hz : ∀ k, n ≤ k → l.getD k 0 = 0) (he : n = 0 ∨ ¬ l.getD (n - 1) 0 = 0) : l.take n = bl (val l) := by
  rw [← val_take hz]
  refine canon (b01_take h n) ?_
  rcases he with he | he
  · subst he; exact .inl (by simp)
  · right
    have ln : (l.take n).length = n := by simp; omega
    have n0 : n ≠ 0 := fun e => by
      subst e
      exact he (hz (0 - 1) (by omega))
    rw [ln]
    have e : (l.take n).getD (n - 1) 0 = l.getD (n - 1) 0 := by
      rw [List.getD_eq_getElem?_getD, List.getElem?_take, if_pos (by omega), List.getD_eq_getElem?_getD]
    rw [e]
    have := getD_01 h (n - 1)
    omega
theorem cut_step {l : List Int} {n : Nat} (hz : ∀ k, n ≤ k → l.getD k 0 = 0) (h : l.getD (n - 1) 0 = 0) : ∀ k, n - 1 ≤ k → l.getD k 0 = 0 := fun k hk => by
  by_cases e : n ≤ k
  · exact hz k e
  · rw [show k = n - 1 by omega]; exact h
theorem getD_end (l : List Int) : ∀ k, l.length ≤ k → l.getD k 0 = 0 := fun k hk => by rw [List.getD_eq_getElem?_getD, List.getElem?_eq_none hk]; rfl
/-! ### Sums -/
theorem plus_step {a b L : List Int} {c x y : Int} {i : Nat} {s : Int} (hL : L.length = i) (h : val L + 2 ^ i * (c + val (a.drop i) + val (b.drop i)) = s) (hx : x = (a.getD i 0 + b.getD i 0 + c) % 2) (hy : y = (a.getD i 0 + b.getD i 0 + c) / 2) :
    val (L ++ [x]) + 2 ^ (i + 1) * (y + val (a.drop (i + 1)) + val (b.drop (i + 1))) = s := by
  rw [val_app, hL, ← h, val_drop a i, val_drop b i, Int.pow_succ, Int.add_assoc, Int.mul_assoc, ← Int.mul_add]
  congr 2
  omega
theorem plus_end {a b L : List Int} {c : Int} {i : Nat} {s : Int} (h01 : B01 L) (ha : B01 a) (hb : B01 b) (hL : L.length = i) (hc : c = 0 ∨ c = 1) (hs : s = val a + val b) (h : val L + 2 ^ i * (c + val (a.drop i) + val (b.drop i)) = s) (ea : a.length < i) (eb : b.length < i) : val L = s := by
  rw [val_end a (by omega), val_end b (by omega)] at h
  rcases hc with rfl | rfl
  · simpa using h
  · exfalso
    have l1 := val_lt ha
    have l2 := val_lt hb
    have l0 := val_nonneg h01
    have p1 : (2 : Int) ^ a.length ≤ 2 ^ (i - 1) := pow_mono (by omega)
    have p2 : (2 : Int) ^ b.length ≤ 2 ^ (i - 1) := pow_mono (by omega)
    have p3 : (2 : Int) ^ i = 2 ^ (i - 1) * 2 := by conv => lhs; rw [show i = (i - 1) + 1 by omega, Int.pow_succ]
    simp at h
    omega
/-! ### Differences -/
theorem minus_step {a b L : List Int} {c x y : Int} {i : Nat} {s : Int} (hL : L.length = i) (h : val L + 2 ^ i * (val (a.drop i) - val (b.drop i) - c) = s) (hxy : a.getD i 0 - b.getD i 0 - c = x - 2 * y) :
    val (L ++ [x]) + 2 ^ (i + 1) * (val (a.drop (i + 1)) - val (b.drop (i + 1)) - y) = s := by
  rw [val_app, hL, ← h, val_drop a i, val_drop b i, Int.pow_succ, Int.add_assoc, Int.mul_assoc, ← Int.mul_add]
  congr 2
  omega
theorem minus_end {a b L : List Int} {c : Int} {i : Nat} {s : Int} (h01 : B01 L) (ha : B01 a) (hb : B01 b) (hL : L.length = i) (hc : c = 0 ∨ c = 1) (hs : s = val a - val b) (h0 : 0 ≤ s) (h : val L + 2 ^ i * (val (a.drop i) - val (b.drop i) - c) = s) (ea : a.length ≤ i) : val L = s := by
  rw [val_end a ea] at h
  have l1 := val_lt h01
  have l2 := val_nonneg (b01_drop hb i)
  rw [hL] at l1
  by_cases e : val (b.drop i) = 0 ∧ c = 0
  · rw [e.1, e.2] at h; simpa using h
  · exfalso
    have k : 0 - val (b.drop i) - c ≤ -1 := by omega
    have := Int.mul_le_mul_of_nonneg_left k (show (0 : Int) ≤ 2 ^ i from Int.pow_nonneg (by omega))
    rw [Int.mul_neg, Int.mul_one] at this
    omega
/-! ### Order -/
def cmpB (a b : Int) : Int := if a = b then 0 else if a < b then -1 else 1
theorem cmp_hi {a b : List Int} (ha : B01 a) (hb : B01 b) {i : Nat} (h : val (a.drop (i + 1)) = val (b.drop (i + 1))) (hne : ¬ a.getD i 0 = b.getD i 0) : a.getD i 0 - b.getD i 0 = cmpB (val a) (val b) := by
  have key : ∀ (l : List Int) (j : Nat), B01 l → ∃ r, 0 ≤ r ∧ r < 2 ^ j ∧ val l = r + 2 ^ j * val (l.drop j) := fun l j => by
    induction j with
    | zero => intro _; exact ⟨0, Int.le_refl _, by simp, by simp⟩
    | succ j ih =>
      intro hl
      obtain ⟨r, r0, r1, e⟩ := ih hl
      have g := getD_01 hl j
      have p : (0 : Int) ≤ 2 ^ j := Int.pow_nonneg (by omega)
      refine ⟨r + 2 ^ j * l.getD j 0, ?_, ?_, ?_⟩
      · rcases g with g | g <;> rw [g] <;> simp <;> omega
      · rw [Int.pow_succ]; rcases g with g | g <;> rw [g] <;> simp <;> omega
      · rw [e, val_drop l j, Int.pow_succ, Int.mul_add, Int.add_assoc, Int.mul_assoc]
  obtain ⟨r, r0, r1, e⟩ := key a i ha
  obtain ⟨s, s0, s1, f⟩ := key b i hb
  rw [val_drop a i, h] at e
  rw [val_drop b i] at f
  have g := getD_01 ha i
  have g' := getD_01 hb i
  rw [Int.mul_add] at e f
  generalize 2 ^ i * (2 * val (b.drop (i + 1))) = W at e f
  generalize (2 : Int) ^ i = P at *
  unfold cmpB
  rcases g with g | g <;> rcases g' with g' | g' <;> simp only [g, g', Int.mul_zero, Int.mul_one] at e f hne ⊢
  · exact absurd trivial hne
  · rw [if_neg (by omega), if_pos (by omega)]; rfl
  · rw [if_neg (by omega), if_neg (by omega)]; rfl
  · exact absurd trivial hne
theorem cmp_eqB {a b : List Int} (h : val (a.drop 0) = val (b.drop 0)) : (0 : Int) = cmpB (val a) (val b) := by
  simp only [List.drop_zero] at h
  unfold cmpB; rw [if_pos h]
theorem cmp_down {a b : List Int} {i : Nat} (h : val (a.drop (i + 1)) = val (b.drop (i + 1))) (e : a.getD i 0 = b.getD i 0) : val (a.drop i) = val (b.drop i) := by rw [val_drop a i, val_drop b i, h, e]
/-! ### Products -/
theorem val_take1 (l : List Int) (i : Nat) (hi : i < l.length) : val (l.take (i + 1)) = val (l.take i) + 2 ^ i * l.getD i 0 := by
  rw [List.take_add_one, List.getElem?_eq_getElem hi, Option.toList_some, val_app, getD_is hi, List.length_take, Nat.min_eq_left (by omega)]
/-! ### Quotients -/
theorem div_is {a m q r : Int} (hm : 0 < m) (h : q * m + r = a) (h0 : 0 ≤ r) (h1 : r < m) : a / m = q ∧ a % m = r := by
  subst h
  rw [Int.add_comm, Int.add_mul_ediv_right _ _ (by omega), Int.ediv_eq_zero_of_lt h0 h1, Int.add_mul_emod_self_right, Int.emod_eq_of_lt h0 h1]
  exact ⟨by omega, rfl⟩

end Go.Proofs.Ytkijlggnnbdeiaa
