/- Accounts: plain mathematics -/
import Derived.Test.YtkijlggnnbdeiaaPrMath
import Derived.Test.YtkijlggnnbdeiaaProg
set_option linter.unusedVariables false
set_option linter.unusedSimpArgs false
namespace Go.Proofs.Ytkijlggnnbdeiaa
open Go.RowKit
set_option maxRecDepth 100000

/-! ### Valid fractions, right accounts -/
def validI (n d : Int) : Bool := decide (((1 ≤ d ∧ d ≤ 4611686018427387904) ∧ (-4611686018427387904 ≤ n ∧ n ≤ 4611686018427387904)) ∧ (Int.gcd (absI n) d : Int) = 1)
theorem valid_frc {n d : Int} (h : validI n d = true) : Frc n d := by
  have := of_decide_eq_true h
  unfold Frc; omega
def OkC (a : List Ac) (n : Nat) : Prop := (0 ≤ (a.getD n c0).fi ∧ (a.getD n c0).fi < 8) ∧ (0 < n → (a.getD (n - 1) c0).fi < (a.getD n c0).fi) ∧ validI (a.getD n c0).n (a.getD n c0).d = true ∧ 0 ≤ (a.getD n c0).n
def RightC (a : List Ac) : Prop := (∀ n, n < a.length → OkC a n) ∧ a.length ≤ 8
instance decOkC (a : List Ac) (n : Nat) : Decidable (OkC a n) := by unfold OkC; infer_instance
instance decRightC (a : List Ac) : Decidable (RightC a) := by unfold RightC; infer_instance
def rightB (a : List Ac) : Bool := decide (RightC a)
theorem rightB_t {a : List Ac} : rightB a = true ↔ RightC a := by unfold rightB; simp
theorem right_no {a : List Ac} {n : Nat} (hn : n < a.length) (h : ¬ OkC a n) : false = rightB a := by
  cases hb : rightB a with
  | false => rfl
  | true => exact absurd ((rightB_t.1 hb).1 n hn) h
theorem right_end {a : List Ac} (h : ∀ n, n < a.length → OkC a n) (b : Bool) (hb : b = decide (a.length ≤ 8)) : b = rightB a := by
  subst hb
  cases hc : rightB a with
  | true => rw [decide_eq_true]; exact (rightB_t.1 hc).2
  | false =>
    rw [decide_eq_false]
    intro h8
    have := rightB_t.2 ⟨h, h8⟩
    rw [hc] at this; cases this
theorem bdC_get {a : List Ac} (h : ∀ x ∈ a, BdC x) (n : Nat) : BdC (a.getD n c0) := by
  by_cases hn : n < a.length
  · rw [getD_is hn]; exact h _ (List.getElem_mem hn)
  · rw [List.getD_eq_getElem?_getD, List.getElem?_eq_none (by omega)]; simp [BdC, c0]
def isC (f : Int) (x : Ac) : Bool := decide (x.fi = f)

/-! ### Sums -/
structure Fq where
  n : Int
  d : Int
def f0 : Fq := ⟨0, 0⟩
def encF (x : Fq) : AV := .agg [.int .i64 x.n, .int .i64 x.d]
def frC (x : Ac) : Fq := ⟨x.n, x.d⟩
def sumS : List Fq → Int → Int → Int × Int × Int
  | [], n, d => (n, d, 0)
  | r :: t, n, d => if addE n d r.n r.d = 0 then sumS t (addN n d r.n r.d) (addD n d r.n r.d) else (addN n d r.n r.d, addD n d r.n r.d, addE n d r.n r.d)
def FrcL (M : List Fq) : Prop := ∀ x ∈ M, Frc x.n x.d
theorem frcL_get {M : List Fq} (h : FrcL M) {n : Nat} (hn : n < M.length) : Frc (M.getD n f0).n (M.getD n f0).d := by rw [getD_is hn]; exact h _ (List.getElem_mem hn)
theorem sum_next {M : List Fq} {k : Nat} {n d : Int} {s : Int × Int × Int} (hk : k < M.length) (h0 : addE n d (M.getD k f0).n (M.getD k f0).d = 0) (hb : sumS (M.drop k) n d = s) :
    sumS (M.drop (k + 1)) (addN n d (M.getD k f0).n (M.getD k f0).d) (addD n d (M.getD k f0).n (M.getD k f0).d) = s := by
  rw [getD_is hk] at *
  rw [List.drop_eq_getElem_cons hk, sumS, if_pos h0] at hb; exact hb
theorem sum_stop {M : List Fq} {k : Nat} {n d : Int} {s : Int × Int × Int} (hk : k < M.length) (h0 : ¬ addE n d (M.getD k f0).n (M.getD k f0).d = 0) (hb : sumS (M.drop k) n d = s) :
    s = (addN n d (M.getD k f0).n (M.getD k f0).d, addD n d (M.getD k f0).n (M.getD k f0).d, addE n d (M.getD k f0).n (M.getD k f0).d) := by
  rw [getD_is hk] at *
  rw [List.drop_eq_getElem_cons hk, sumS, if_neg h0] at hb; exact hb.symm
theorem sum_done {M : List Fq} {k : Nat} {n d : Int} {s : Int × Int × Int} (hk : ¬ k < M.length) (hb : sumS (M.drop k) n d = s) : s = (n, d, 0) := by
  rw [List.drop_eq_nil_iff.2 (by omega), sumS] at hb; exact hb.symm
def totN (a : List Ac) : Int := if rightB a = true then (sumS (a.map frC) 0 1).1 else 0
def totD (a : List Ac) : Int := if rightB a = true then (sumS (a.map frC) 0 1).2.1 else 0
def totE (a : List Ac) : Int := if rightB a = true then (sumS (a.map frC) 0 1).2.2 else 1
theorem right_frcL {a : List Ac} (h : rightB a = true) : FrcL (a.map frC) := fun x hx => by
  obtain ⟨c, hc, rfl⟩ := List.mem_map.1 hx
  obtain ⟨n, hn, rfl⟩ := List.getElem_of_mem hc
  have := (rightB_t.1 h).1 n hn
  unfold OkC at this
  rw [getD_is hn] at this
  exact valid_frc this.2.2.1

/-! ### Opening -/
def opnF (l : List An) (L : List Rk) (base : Int) : Nat → List Ac
  | 0 => []
  | n + 1 => opnF l L base n ++ [⟨n, bonN l L n base, bonD l L n base⟩]
def opnBad (l : List An) (L : List Rk) (base : Int) : Nat → Int
  | 0 => 0
  | n + 1 => if opnBad l L base n = 0 then bonE l L n base else opnBad l L base n
def opnE (l : List An) (L : List Rk) (n base : Int) : Int := if n < 1 ∨ 8 < n then 1 else opnBad l L base n.toNat
def opnL (l : List An) (L : List Rk) (n base : Int) : List Ac := if n < 1 ∨ 8 < n then [] else if opnBad l L base n.toNat = 0 then opnF l L base n.toNat else []
theorem opn_len (l : List An) (L : List Rk) (base : Int) : ∀ n, (opnF l L base n).length = n
  | 0 => rfl
  | n + 1 => by rw [opnF, List.length_append, opn_len l L base n]; rfl
theorem opn_stuck {l : List An} {L : List Rk} {base : Int} {n : Nat} (h0 : opnBad l L base n = 0) (h : ¬ bonE l L n base = 0) : ∀ m, n < m → opnBad l L base m = bonE l L n base := by
  intro m hm
  induction m with
  | zero => omega
  | succ m ih =>
    rw [opnBad]
    by_cases he : n = m
    · subst he; rw [if_pos h0]
    · rw [ih (by omega), if_neg h]
theorem opn_s0 {l : List An} {L : List Rk} {base : Int} {n : Nat} (h0 : opnBad l L base n = 0) (h : bonE l L n base = 0) : opnBad l L base (n + 1) = 0 := by rw [opnBad, if_pos h0]; exact h

/-! ### Short ones -/
def shrt (l : List An) (L : List Rk) (base : Int) : List Ac → List Int × Int
  | [] => ([], 0)
  | x :: t => if bonE l L x.fi base = 0 then (if (shrt l L base t).2 = 0 then (if cmpI x.n x.d (bonN l L x.fi base) (bonD l L x.fi base) < 0 then x.fi :: (shrt l L base t).1 else (shrt l L base t).1, 0) else ([], (shrt l L base t).2)) else ([], bonE l L x.fi base)
def combS (acc : List Int) (r : List Int × Int) : List Int × Int := if r.2 = 0 then (acc ++ r.1, 0) else ([], r.2)
theorem shrt_bad {l : List An} {L : List Rk} {base : Int} {a : List Ac} {n : Nat} {acc : List Int} {s : List Int × Int} (hn : n < a.length) (h : ¬ bonE l L (a.getD n c0).fi base = 0) (hi : s = combS acc (shrt l L base (a.drop n))) : s = ([], bonE l L (a.getD n c0).fi base) := by
  rw [getD_is hn] at *
  rw [hi, List.drop_eq_getElem_cons hn, shrt, if_neg h, combS, if_neg h]
theorem shrt_yes {l : List An} {L : List Rk} {base : Int} {a : List Ac} {n : Nat} {acc : List Int} {s : List Int × Int} (hn : n < a.length) (h : bonE l L (a.getD n c0).fi base = 0) (hc : cmpI (a.getD n c0).n (a.getD n c0).d (bonN l L (a.getD n c0).fi base) (bonD l L (a.getD n c0).fi base) < 0)
    (hi : s = combS acc (shrt l L base (a.drop n))) : s = combS (acc ++ [(a.getD n c0).fi]) (shrt l L base (a.drop (n + 1))) := by
  rw [getD_is hn] at *
  rw [hi, List.drop_eq_getElem_cons hn, shrt, if_pos h, if_pos hc]
  unfold combS
  split <;> simp_all
theorem shrt_no {l : List An} {L : List Rk} {base : Int} {a : List Ac} {n : Nat} {acc : List Int} {s : List Int × Int} (hn : n < a.length) (h : bonE l L (a.getD n c0).fi base = 0) (hc : ¬ cmpI (a.getD n c0).n (a.getD n c0).d (bonN l L (a.getD n c0).fi base) (bonD l L (a.getD n c0).fi base) < 0)
    (hi : s = combS acc (shrt l L base (a.drop n))) : s = combS acc (shrt l L base (a.drop (n + 1))) := by
  rw [getD_is hn] at *
  rw [hi, List.drop_eq_getElem_cons hn, shrt, if_pos h, if_neg hc]
  unfold combS
  split <;> simp_all
theorem shrt_done {l : List An} {L : List Rk} {base : Int} {a : List Ac} {n : Nat} {acc : List Int} {s : List Int × Int} (hn : ¬ n < a.length) (hi : s = combS acc (shrt l L base (a.drop n))) : s = (acc, 0) := by
  rw [hi, List.drop_eq_nil_iff.2 (by omega), shrt, combS, if_pos rfl, List.append_nil]
def shoL (a : List Ac) (l : List An) (L : List Rk) (base : Int) : List Int := if rightB a = true then (shrt l L base a).1 else []
def shoE (a : List Ac) (l : List An) (L : List Rk) (base : Int) : Int := if rightB a = true then (shrt l L base a).2 else 1

/-! ### Settling -/
def minN (a b c d : Int) : Int := if cmpI c d a b < 0 then c else a
def minD (a b c d : Int) : Int := if cmpI c d a b < 0 then d else b
theorem frc_min {a b c d : Int} (h : Frc a b) (k : Frc c d) : Frc (minN a b c d) (minD a b c d) := by
  unfold minN minD; split <;> assumption
def setC (a : List Ac) (i : Nat) (n d : Int) : List Ac := a.set i ⟨(a.getD i c0).fi, n, d⟩
def stl (a : List Ac) (v w ln ld : Int) : List Ac × Int × Int × Int :=
  if ¬ rightB a = true ∨ ¬ validI ln ld = true ∨ ln < 0 then ([], 0, 0, 1)
  else if idxF (isC v) a < 0 ∨ idxF (isC w) a < 0 then ([], 0, 0, 4)
  else
    let x := a.getD (idxF (isC v) a).toNat c0
    let pn := minN x.n x.d ln ld
    let pd := minD x.n x.d ln ld
    if ¬ addE x.n x.d (-pn) pd = 0 then ([], 0, 0, addE x.n x.d (-pn) pd)
    else
      let b := setC a (idxF (isC v) a).toNat (addN x.n x.d (-pn) pd) (addD x.n x.d (-pn) pd)
      let y := b.getD (idxF (isC w) a).toNat c0
      if ¬ addE y.n y.d pn pd = 0 then ([], 0, 0, addE y.n y.d pn pd)
      else (setC b (idxF (isC w) a).toNat (addN y.n y.d pn pd) (addD y.n y.d pn pd), pn, pd, 0)
theorem set_enc {a : List Ac} {i k : Nat} {n d : Int} (h : k = i) : (a.map encC).set k (.agg [.int .i64 (a.getD i c0).fi, .int .i64 n, .int .i64 d]) = (setC a i n d).map encC := by
  subst h; unfold setC; rw [List.map_set]; rfl
theorem bondS_ok {l : List An} (hl : RightP l) : ∀ (M : List Rk) (n d : Int), (∀ r ∈ M, wrongR r.fi r.k r.c = false) → Frc n d → ((bondS l M n d).2.2 = 0 → Frc (bondS l M n d).1 (bondS l M n d).2.1) ∧ (¬ (bondS l M n d).2.2 = 0 → bondS l M n d = (0, 0, 2))
  | [], n, d, _, hf => ⟨fun _ => hf, fun h => absurd rfl h⟩
  | r :: t, n, d, hM, hf => by
    have hp := pre_frc (cnt_ok hl r.k) (hM r List.mem_cons_self)
    rw [bondS]
    split
    · rename_i h0
      exact bondS_ok hl t _ _ (fun x hx => hM x (List.mem_cons_of_mem _ hx)) (frc_add hf hp h0)
    · rename_i h0
      have := addE_two h0
      refine ⟨fun h => absurd h h0, fun _ => ?_⟩
      rw [this.1, this.2.1, this.2.2]
theorem bon_ok {l : List An} (hl : RightP l) {L : List Rk} {f base : Int} : (bonE l L f base = 0 → Frc (bonN l L f base) (bonD l L f base)) ∧ (¬ bonE l L f base = 0 → (bonE l L f base = 1 ∨ bonE l L f base = 2) ∧ bonN l L f base = 0 ∧ bonD l L f base = 0) := by
  unfold bonE bonN bonD
  split
  · rename_i h
    exact ⟨fun h => by omega, fun _ => ⟨.inl rfl, rfl, rfl⟩⟩
  · rename_i h
    have := bondS_ok hl (ofF f L) base 1 (fun r hr => by
      obtain ⟨k, hk⟩ := List.mem_iff_getElem?.1 hr
      exact of_ok hk (by omega)) (by unfold Frc; omega)
    exact ⟨this.1, fun hn => by rw [this.2 hn]; exact ⟨.inr rfl, rfl, rfl⟩⟩
theorem bon_frc {l : List An} (hl : RightP l) {L : List Rk} {f base : Int} (h : bonE l L f base = 0) : Frc (bonN l L f base) (bonD l L f base) := (bon_ok hl).1 h
theorem okC_at {a : List Ac} (h : rightB a = true) {n : Nat} (hn : n < a.length) : Frc (a.getD n c0).n (a.getD n c0).d ∧ 0 ≤ (a.getD n c0).n ∧ 0 ≤ (a.getD n c0).fi ∧ (a.getD n c0).fi < 8 := by
  have := (rightB_t.1 h).1 n hn
  unfold OkC at this
  exact ⟨valid_frc this.2.2.1, this.2.2.2, this.1⟩
theorem frc_neg {n d : Int} (h : Frc n d) : Frc (-n) d := by unfold Frc at *; omega
theorem setC_get {a : List Ac} {i j : Nat} {n d : Int} (hi : i < a.length) : (setC a i n d).getD j c0 = if i = j then ⟨(a.getD i c0).fi, n, d⟩ else a.getD j c0 := by
  unfold setC
  rw [List.getD_eq_getElem?_getD, List.getElem?_set]
  split
  · rename_i h; subst h; simp [hi]
  · rw [List.getD_eq_getElem?_getD]
theorem frc_set {a : List Ac} {i j : Nat} {n d : Int} (h : rightB a = true) (hi : i < a.length) (hj : j < a.length) (hf : Frc n d) : Frc ((setC a i n d).getD j c0).n ((setC a i n d).getD j c0).d := by
  rw [setC_get hi]
  split
  · exact hf
  · exact (okC_at h hj).1
theorem setC_len (a : List Ac) (i : Nat) (n d : Int) : (setC a i n d).length = a.length := by simp [setC]

end Go.Proofs.Ytkijlggnnbdeiaa
