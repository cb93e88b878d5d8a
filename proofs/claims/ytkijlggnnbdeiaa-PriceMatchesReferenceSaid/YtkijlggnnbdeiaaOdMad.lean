/- Made and Same -/
import Derived.Test.YtkijlggnnbdeiaaOdLrn
import Derived.Test.YtkijlggnnbdeiaaEvU
import Derived.Test.YtkijlggnnbdeiaaProg
set_option linter.unusedVariables false
set_option linter.unusedSimpArgs false
namespace Go.Proofs.Ytkijlggnnbdeiaa
open Go.RowKit
set_option maxRecDepth 100000

structure Rq where
  kind : Int
  far : Int
  right : Int
  wrong : Int
def w0 : Rq := ⟨0, 0, 0, 0⟩
def encW (x : Rq) : AV := .agg [.int .u8 x.kind, .int .u8 x.far, .int .u16 x.right, .int .u16 x.wrong]
def BdW (x : Rq) : Prop := (0 ≤ x.kind ∧ x.kind ≤ 255) ∧ (0 ≤ x.far ∧ x.far ≤ 255) ∧ (0 ≤ x.right ∧ x.right ≤ 65535) ∧ 0 ≤ x.wrong ∧ x.wrong ≤ 65535
def mkR (x : Rq) : Int := if x.far % 8 = 7 then 1073741824 - x.right % 3 else x.right
theorem mk_far {x : Rq} (h : x.far % 8 = 7) : mkR x = 1073741824 - x.right % 3 := by rw [mkR, if_pos h]
theorem mk_near {x : Rq} (h : ¬ x.far % 8 = 7) : mkR x = x.right := by rw [mkR, if_neg h]
/-- The first description of a kind. -/
def findR (L : List Rq) (k : Int) : Option Rq := L.find? fun x => decide (1 + x.kind % 14 = k)
def stepR (L : List Rq) (k : Int) : List An := match findR L k with
  | none => []
  | some x => [⟨k, mkR x, x.wrong⟩]
def madeN (L : List Rq) : Nat → List An
  | 0 => []
  | n + 1 => madeN L n ++ stepR L ((n : Int) + 1)
def madeF (L : List Rq) : List An := madeN L 14
theorem getW {L : List Rq} {n : Nat} (h : n < L.length) : L.getD n w0 = L[n] := by rw [List.getD_eq_getElem?_getD, List.getElem?_eq_getElem h]; rfl
theorem find_none {L : List Rq} {k : Int} (h : ∀ j, j < L.length → ¬ 1 + (L.getD j w0).kind % 14 = k) : stepR L k = [] := by
  have : findR L k = none := by
    unfold findR
    rw [List.find?_eq_none]
    intro x hx
    obtain ⟨n, hn, rfl⟩ := List.getElem_of_mem hx
    have := h n hn
    rw [getW hn] at this
    simpa using this
  rw [stepR, this]
theorem find_some {L : List Rq} {k : Int} {i : Nat} (hi : i < L.length) (h : ∀ j, j < i → ¬ 1 + (L.getD j w0).kind % 14 = k) (he : 1 + (L.getD i w0).kind % 14 = k) : stepR L k = [⟨k, mkR (L.getD i w0), (L.getD i w0).wrong⟩] := by
  have : findR L k = some (L.getD i w0) := by
    unfold findR
    rw [List.find?_eq_some_iff_getElem]
    refine ⟨by simpa using he, i, hi, (getW hi).symm, fun j hj => ?_⟩
    have := h j hj
    rw [getW (by omega)] at this
    simpa using this
  rw [stepR, this]
theorem made_no {L : List Rq} {n : Nat} (h : ∀ j, j < L.length → ¬ 1 + (L.getD j w0).kind % 14 = (n : Int) + 1) : madeN L (n + 1) = madeN L n := by rw [madeN, find_none h, List.append_nil]
theorem made_yes {L : List Rq} {n i : Nat} {x : An} (hi : i < L.length) (h : ∀ j, j < i → ¬ 1 + (L.getD j w0).kind % 14 = (n : Int) + 1) (he : 1 + (L.getD i w0).kind % 14 = (n : Int) + 1) (hx : (⟨(n : Int) + 1, mkR (L.getD i w0), (L.getD i w0).wrong⟩ : An) = x) : madeN L (n + 1) = madeN L n ++ [x] := by rw [madeN, find_some hi h he, hx]
theorem bdW_get {L : List Rq} (h : ∀ x ∈ L, BdW x) (n : Nat) : BdW (L.getD n w0) := by
  by_cases hn : n < L.length
  · rw [getW hn]; exact h _ (List.getElem_mem hn)
  · rw [List.getD_eq_getElem?_getD, List.getElem?_eq_none (by omega)]; simp [BdW, w0]
theorem madeN_ok {L : List Rq} (h : ∀ x ∈ L, BdW x) : ∀ n, n ≤ 14 → Srt (madeN L n) ∧ ∀ x ∈ madeN L n, okQ x ∧ x.kind ≤ n
  | 0, _ => ⟨List.Pairwise.nil, fun x hx => by simp [madeN] at hx⟩
  | n + 1, hn => by
    obtain ⟨h1, h2⟩ := madeN_ok h n (by omega)
    have key : ∀ x ∈ stepR L ((n : Int) + 1), okQ x ∧ x.kind = (n : Int) + 1 := fun x hx => by
      unfold stepR at hx
      split at hx
      · simp at hx
      · rename_i y hy
        have := h y (List.mem_of_find?_eq_some hy)
        simp only [List.mem_singleton] at hx
        subst hx
        unfold BdW at this
        unfold okQ mkR
        refine ⟨?_, rfl⟩
        simp only
        split <;> omega
    rw [madeN]
    constructor
    · refine List.pairwise_append.2 ⟨h1, ?_, fun x hx y hy => by have := (h2 x hx).2; have := (key y hy).2; omega⟩
      unfold stepR; split <;> simp
    · intro x hx
      rcases List.mem_append.1 hx with hx | hx
      · exact ⟨(h2 x hx).1, by have := (h2 x hx).2; omega⟩
      · exact ⟨(key x hx).1, by have := (key x hx).2; omega⟩
theorem made_right {L : List Rq} (h : ∀ x ∈ L, BdW x) : RightP (madeF L) :=
  right_iff.2 ⟨(madeN_ok h 14 (by omega)).1, fun x hx => ((madeN_ok h 14 (by omega)).2 x hx).1⟩
theorem an_ext (a b : An) : (a = b) ↔ a.kind = b.kind ∧ a.right = b.right ∧ a.wrong = b.wrong := by
  cases a; cases b; simp
instance : DecidableEq An := fun a b => decidable_of_iff _ (an_ext a b).symm
theorem an_eq (a b : An) : AV.bool (a.kind == b.kind && (a.right == b.right && (a.wrong == b.wrong && true))) = AV.bool (decide (a = b)) := by
  congr 1
  rw [Bool.eq_iff_iff]
  simp [an_ext]
theorem list_all {a b : List An} (hl : a.length = b.length) (h : ∀ n, n < a.length → a.getD n q0 = b.getD n q0) : a = b := by
  refine List.ext_getElem hl fun n h1 h2 => ?_
  have := h n h1
  rwa [getD_get h1, getD_get h2] at this
theorem made_len {L : List Rq} (h : ∀ x ∈ L, BdW x) {n : Nat} (hn : n ≤ 14) : (madeN L n).length ≤ 14 := by
  obtain ⟨h1, h2⟩ := madeN_ok h n hn
  have := srt_len (a := 1) (b := 14) h1 fun x hx => ⟨(h2 x hx).1.1, (h2 x hx).1.2.1⟩
  omega

end Go.Proofs.Ytkijlggnnbdeiaa
