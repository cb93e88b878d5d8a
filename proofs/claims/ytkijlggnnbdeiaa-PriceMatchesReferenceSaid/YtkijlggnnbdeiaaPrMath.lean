/- Risks, bonds: plain mathematics -/
import Derived.Test.YtkijlggnnbdeiaaPrPre
import Derived.Test.YtkijlggnnbdeiaaProg
set_option linter.unusedVariables false
set_option linter.unusedSimpArgs false
namespace Go.Proofs.Ytkijlggnnbdeiaa
open Go.RowKit
set_option maxRecDepth 100000

structure Rk where
  fi : Int
  k : Int
  c : Int
def k0 : Rk := ⟨0, 0, 0⟩
def encK (x : Rk) : AV := .agg [.int .i64 x.fi, .int .i64 x.k, .int .i64 x.c]
def BdK (x : Rk) : Prop := (-9223372036854775808 ≤ x.fi ∧ x.fi ≤ 9223372036854775807) ∧ (-9223372036854775808 ≤ x.k ∧ x.k ≤ 9223372036854775807) ∧ -9223372036854775808 ≤ x.c ∧ x.c ≤ 9223372036854775807
structure Ac where
  fi : Int
  n : Int
  d : Int
  deriving DecidableEq
def c0 : Ac := ⟨0, 0, 0⟩
def encC (x : Ac) : AV := .agg [.int .i64 x.fi, .int .i64 x.n, .int .i64 x.d]
def BdC (x : Ac) : Prop := (-9223372036854775808 ≤ x.fi ∧ x.fi ≤ 9223372036854775807) ∧ (-9223372036854775808 ≤ x.n ∧ x.n ≤ 9223372036854775807) ∧ -9223372036854775808 ≤ x.d ∧ x.d ≤ 9223372036854775807
def wrongK (x : Rk) : Bool := wrongR x.fi x.k x.c

/-! ### The first place -/
def idxF {α : Type} (p : α → Bool) (l : List α) : Int := match l.findIdx? p with
  | some i => i
  | none => -1
theorem getD_is {α : Type} {l : List α} {d : α} {n : Nat} (h : n < l.length) : l.getD n d = l[n] := by rw [List.getD_eq_getElem?_getD, List.getElem?_eq_getElem h]; rfl
theorem idx_at {α : Type} {p : α → Bool} {l : List α} {d : α} {i : Nat} (hi : i < l.length) (h : ∀ j, j < i → ¬ p (l.getD j d) = true) (k : p (l.getD i d) = true) : ((i : Nat) : Int) = idxF p l := by
  have : l.findIdx? p = some i := by
    rw [List.findIdx?_eq_some_iff_getElem]
    refine ⟨hi, by rw [← getD_is hi (d := d)]; exact k, fun j hj => ?_⟩
    have := h j hj
    rw [getD_is (by omega)] at this
    simpa using this
  rw [idxF, this]
theorem idx_no {α : Type} {p : α → Bool} {l : List α} {d : α} (h : ∀ j, j < l.length → ¬ p (l.getD j d) = true) : (-1 : Int) = idxF p l := by
  have : l.findIdx? p = none := by
    rw [List.findIdx?_eq_none_iff]
    intro x hx
    obtain ⟨n, hn, rfl⟩ := List.getElem_of_mem hx
    have := h n hn
    rw [getD_is hn] at this
    simpa using this
  rw [idxF, this]
theorem idx_neg {α : Type} {p : α → Bool} {l : List α} (h : ¬ 0 ≤ idxF p l) : ∀ x ∈ l, p x = false := by
  unfold idxF at h
  cases hf : l.findIdx? p with
  | none => exact fun x hx => by simpa using List.findIdx?_eq_none_iff.1 hf x hx
  | some i => simp only [hf] at h; omega
theorem idx_neg' {α : Type} {p : α → Bool} {l : List α} (h : ∀ x ∈ l, p x = false) : idxF p l = -1 := by
  have : l.findIdx? p = none := List.findIdx?_eq_none_iff.2 fun x hx => by simpa using h x hx
  rw [idxF, this]
theorem idx_le {α : Type} {p : α → Bool} {l : List α} : -1 ≤ idxF p l ∧ idxF p l < l.length := by
  unfold idxF
  cases hf : l.findIdx? p with
  | none => simp only; omega
  | some i =>
    have := (List.findIdx?_eq_some_iff_getElem.1 hf).1
    simp only; omega

/-! ### Risks of a firm -/
def ofF (f : Int) (L : List Rk) : List Rk := L.filter fun r => decide (r.fi = f)
theorem take_one {α : Type} {L : List α} {n : Nat} (hn : n < L.length) : L.take (n + 1) = L.take n ++ [L[n]] := by rw [List.take_add_one, List.getElem?_eq_getElem hn]; rfl
theorem of_t {f : Int} {L : List Rk} {n k : Nat} (hn : n < L.length) (hf : (L.getD n k0).fi = f) (hk : k = (ofF f (L.take n)).length) : k + 1 = (ofF f (L.take (n + 1))).length := by
  rw [getD_is hn] at hf
  rw [take_one hn, ofF, List.filter_append, List.length_append, hk, List.filter_cons, if_pos (by simpa using hf)]
  rfl
theorem of_f {f : Int} {L : List Rk} {n k : Nat} (hn : n < L.length) (hf : ¬ (L.getD n k0).fi = f) (hk : k = (ofF f (L.take n)).length) : k = (ofF f (L.take (n + 1))).length := by
  rw [getD_is hn] at hf
  rw [take_one hn, ofF, List.filter_append, List.length_append, hk, List.filter_cons, if_neg (by simpa using hf)]
  rfl
theorem of_get {f : Int} {L : List Rk} {n k : Nat} (hn : n < L.length) (hf : (L.getD n k0).fi = f) (hk : k = (ofF f (L.take n)).length) : ((ofF f L).map fun r => [encK r])[k]? = some [encK (L.getD n k0)] := by
  have e : ofF f L = ofF f (L.take n) ++ (L.getD n k0) :: ofF f (L.drop (n + 1)) := by
    have : L = L.take n ++ L[n] :: L.drop (n + 1) := by rw [← List.drop_eq_getElem_cons hn, List.take_append_drop]
    rw [getD_is hn] at hf ⊢
    have h2 : ofF f L = ofF f (L.take n ++ L[n] :: L.drop (n + 1)) := by rw [← this]
    rw [h2]
    unfold ofF
    rw [List.filter_append, List.filter_cons, if_pos (by simpa using hf)]
  rw [List.getElem?_map, e, List.getElem?_append_right (by omega), hk]
  simp
theorem of_end {f : Int} {L : List Rk} {n k : Nat} (hn : ¬ n < L.length) (hk : k = (ofF f (L.take n)).length) : (k, false) = (((ofF f L).map fun r => [encK r]).length, false) := by
  rw [List.take_of_length_le (by omega)] at hk
  simp [hk]

/-! ### Bonds -/
theorem frc_add {a b c d : Int} (h1 : Frc a b) (h2 : Frc c d) (he : addE a b c d = 0) : Frc (addN a b c d) (addD a b c d) := by
  have hh := hA_bd h1 h2
  have g := gA_bd h1.2 h2.2
  unfold addE at he
  unfold addN addD
  split at he
  · rename_i ht
    rw [if_pos ht, if_pos ht]
    unfold Frc; omega
  · rename_i ht
    rw [if_neg ht, if_neg ht]
    unfold madE at he
    split at he
    · rename_i hb
      unfold madN madD
      rw [if_pos hb, if_pos hb]
      have p1 : 0 < b / gA b d := by omega
      have p2 : 0 < d / hA a b c d := by omega
      have pp := Int.mul_pos p1 p2
      have pn : 0 ≤ absI (tA a b c d) / hA a b c d := Int.ediv_nonneg (absI_nonneg _) (by omega)
      refine ⟨?_, by simp only [sgn]; simp; omega⟩
      unfold sgn
      split <;> omega
    · omega
theorem addE_two {a b c d : Int} (he : ¬ addE a b c d = 0) : addE a b c d = 2 ∧ addN a b c d = 0 ∧ addD a b c d = 0 := by
  unfold addE addN addD at *
  split at he
  · exact absurd rfl he
  · rename_i ht
    rw [if_neg ht, if_neg ht, if_neg ht]
    unfold madE madN madD at *
    split at he
    · exact absurd rfl he
    · rename_i hb
      rw [if_neg hb, if_neg hb, if_neg hb]
      exact ⟨rfl, rfl, rfl⟩
theorem pre_rv {x : An} {fi k c : Int} (h : Cnt x) (hw : wrongR fi k c = false) : preE x fi k c = 0 ∧ RV (preN x fi k c) (preD x fi k c) ((x.right + 1) * c) (x.right + x.wrong + 2) := by
  have hw' : ¬ wrongR fi k c = true := by rw [hw]; decide
  have hb := wrongR_f hw'
  have hc := h
  unfold Cnt at hc
  have ho := odd_bd h
  have := mul_small (a := oddN x) (b := oddD x) (c := c) (d := 1) (by omega) (by omega) (odd_rv h) (rv_int c) (by
    rw [absI_pos (by omega), absI_pos (by omega)]
    have := mul_62 (a := oddN x) (b := c) (B := 1073741825) (C := 1000000) (by omega) (by omega)
    omega) (by omega)
  unfold preE preN preD
  rw [if_neg hw', if_neg hw', if_neg hw']
  refine ⟨this.2.1, ?_⟩
  have h1 := this.1
  rwa [Int.mul_one] at h1
theorem pre_frc {x : An} {fi k c : Int} (h : Cnt x) (hw : wrongR fi k c = false) : Frc (preN x fi k c) (preD x fi k c) := by
  obtain ⟨_, r⟩ := pre_rv h hw
  have hw' : ¬ wrongR fi k c = true := by rw [hw]; decide
  have hb := wrongR_f hw'
  unfold Cnt at h
  have hP := mul_62 (a := x.right + 1) (b := c) (B := 1073741825) (C := 1000000) (by omega) (by omega)
  have l := r.le (by omega)
  have s := r.sgn (by omega)
  have := l.2.2
  rw [absI_pos (by have := s.1 hP.1; omega), absI_pos hP.1] at this
  have := s.1 hP.1
  have := r.d0
  unfold Frc; omega
def bondS (l : List An) : List Rk → Int → Int → Int × Int × Int
  | [], n, d => (n, d, 0)
  | r :: t, n, d =>
    if addE n d (preN (cntQ l r.k) r.fi r.k r.c) (preD (cntQ l r.k) r.fi r.k r.c) = 0
    then bondS l t (addN n d (preN (cntQ l r.k) r.fi r.k r.c) (preD (cntQ l r.k) r.fi r.k r.c)) (addD n d (preN (cntQ l r.k) r.fi r.k r.c) (preD (cntQ l r.k) r.fi r.k r.c))
    else (addN n d (preN (cntQ l r.k) r.fi r.k r.c) (preD (cntQ l r.k) r.fi r.k r.c), addD n d (preN (cntQ l r.k) r.fi r.k r.c) (preD (cntQ l r.k) r.fi r.k r.c), addE n d (preN (cntQ l r.k) r.fi r.k r.c) (preD (cntQ l r.k) r.fi r.k r.c))
theorem drop_get {α : Type} {l : List α} {k : Nat} {r : α} (h : l[k]? = some r) : l.drop k = r :: l.drop (k + 1) := by
  obtain ⟨hk, rfl⟩ := List.getElem?_eq_some_iff.1 h
  exact List.drop_eq_getElem_cons hk
theorem bond_next {l : List An} {M : List Rk} {k : Nat} {r : Rk} {n d : Int} {s : Int × Int × Int} (hr : M[k]? = some r) (h0 : addE n d (preN (cntQ l r.k) r.fi r.k r.c) (preD (cntQ l r.k) r.fi r.k r.c) = 0) (hb : bondS l (M.drop k) n d = s) :
    bondS l (M.drop (k + 1)) (addN n d (preN (cntQ l r.k) r.fi r.k r.c) (preD (cntQ l r.k) r.fi r.k r.c)) (addD n d (preN (cntQ l r.k) r.fi r.k r.c) (preD (cntQ l r.k) r.fi r.k r.c)) = s := by
  rw [drop_get hr, bondS, if_pos h0] at hb; exact hb
theorem bond_stop {l : List An} {M : List Rk} {k : Nat} {r : Rk} {n d : Int} {s : Int × Int × Int} (hr : M[k]? = some r) (h0 : ¬ addE n d (preN (cntQ l r.k) r.fi r.k r.c) (preD (cntQ l r.k) r.fi r.k r.c) = 0) (hb : bondS l (M.drop k) n d = s) :
    s = (addN n d (preN (cntQ l r.k) r.fi r.k r.c) (preD (cntQ l r.k) r.fi r.k r.c), addD n d (preN (cntQ l r.k) r.fi r.k r.c) (preD (cntQ l r.k) r.fi r.k r.c), addE n d (preN (cntQ l r.k) r.fi r.k r.c) (preD (cntQ l r.k) r.fi r.k r.c)) := by
  rw [drop_get hr, bondS, if_neg h0] at hb; exact hb.symm
theorem bond_done {β : Type} {g : Rk → β} {l : List An} {M : List Rk} {n d : Int} {s : Int × Int × Int} (hb : bondS l (M.drop (M.map g).length) n d = s) : s = (n, d, 0) := by
  rw [List.length_map, List.drop_length, bondS] at hb; exact hb.symm
def bonN (l : List An) (L : List Rk) (f base : Int) : Int := if f < 0 ∨ 7 < f ∨ base < 0 ∨ 1000000000 < base ∨ 100 < (L.length : Int) ∨ 0 ≤ idxF wrongK L then 0 else (bondS l (ofF f L) base 1).1
def bonD (l : List An) (L : List Rk) (f base : Int) : Int := if f < 0 ∨ 7 < f ∨ base < 0 ∨ 1000000000 < base ∨ 100 < (L.length : Int) ∨ 0 ≤ idxF wrongK L then 0 else (bondS l (ofF f L) base 1).2.1
def bonE (l : List An) (L : List Rk) (f base : Int) : Int := if f < 0 ∨ 7 < f ∨ base < 0 ∨ 1000000000 < base ∨ 100 < (L.length : Int) ∨ 0 ≤ idxF wrongK L then 1 else (bondS l (ofF f L) base 1).2.2
theorem of_ok {f : Int} {L : List Rk} {k : Nat} {r : Rk} (hr : (ofF f L)[k]? = some r) (h : ¬ 0 ≤ idxF wrongK L) : wrongR r.fi r.k r.c = false := by
  have hm : r ∈ ofF f L := List.mem_iff_getElem?.2 ⟨k, hr⟩
  exact idx_neg h r (List.mem_filter.1 hm).1
theorem of_bd {r : Rk} (h : wrongR r.fi r.k r.c = false) : (0 ≤ r.fi ∧ r.fi ≤ 7) ∧ (1 ≤ r.k ∧ r.k ≤ 14) ∧ 0 ≤ r.c ∧ r.c ≤ 1000000 := wrongR_f (by rw [h]; decide)

end Go.Proofs.Ytkijlggnnbdeiaa
