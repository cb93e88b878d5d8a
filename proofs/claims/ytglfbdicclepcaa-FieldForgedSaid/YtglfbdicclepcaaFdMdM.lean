/- Reports made of bytes. Plain mathematics. -/
import Derived.Test.YtglfbdicclepcaaFdSet
import Derived.Test.YtglfbdicclepcaaEvP
set_option linter.unusedVariables false
set_option linter.unusedSimpArgs false
namespace Go.Proofs.Ytglfbdicclepcaa
open Go.RowKit
set_option maxRecDepth 100000
structure Rr where
  n0 : Int
  n1 : Int
  n2 : Int
  n3 : Int
  n4 : Int
  n5 : Int
def rr0 : Rr := ⟨0, 0, 0, 0, 0, 0⟩
def encRr (x : Rr) : AV := .agg [.int .u8 x.n0, .int .u8 x.n1, .int .u8 x.n2, .int .u8 x.n3, .int .u8 x.n4, .int .u8 x.n5]
def BRr (x : Rr) : Prop := (0 ≤ x.n0 ∧ x.n0 ≤ 255) ∧ (0 ≤ x.n1 ∧ x.n1 ≤ 255) ∧ (0 ≤ x.n2 ∧ x.n2 ≤ 255) ∧ (0 ≤ x.n3 ∧ x.n3 ≤ 255) ∧ (0 ≤ x.n4 ∧ x.n4 ≤ 255) ∧ 0 ≤ x.n5 ∧ x.n5 ≤ 255
def keyS (i : Nat) : Int := wfold [(i : Int), 77] 2
def keysS (n : Nat) : List Int := (List.range n).map keyS
theorem keys_len (n : Nat) : (keysS n).length = n := by simp [keysS]
theorem keys_row {i n : Nat} (hn : n = i) : ((keysS i).map encU).take n ++ [.int .u64 (wfold [(i : Int), 77] 2)] = (keysS (i + 1)).map encU := by
  rw [hn, List.take_of_length_le (by simp [keys_len])]
  simp [keysS, List.range_succ, keyS]
def rawC (n : Nat) (r : Rr) : Ct := ⟨r.n0 % n, 1 + r.n1 % 12, 1 + r.n2 % 3, r.n3 / 200 + r.n4 % 50 + r.n5, r.n3 / 200 + r.n4 % 50, r.n3 / 200, 0⟩
def madeC (keys : List Int) (r : Rr) : Ct := signC (keys.getD (r.n0 % keys.length).toNat 0) (rawC keys.length r)
theorem sign_right {keys : List Int} {c : Ct} (h : 0 ≤ c.machine ∧ c.machine < keys.length ∧ 1 ≤ c.seq ∧ c.seq ≤ 1073741824 ∧ 0 ≤ c.broken ∧ c.broken ≤ c.looked ∧ c.looked ≤ c.seen ∧ c.seen ≤ 1099511627776) : RightC keys (signC (keys.getD c.machine.toNat 0) c) :=
  ⟨h.1, h.2.1, h.2.2.1, h.2.2.2.1, h.2.2.2.2.1, h.2.2.2.2.2.1, h.2.2.2.2.2.2.1, h.2.2.2.2.2.2.2, rfl⟩
theorem made_right {keys : List Int} {r : Rr} (hk : 0 < keys.length) (h : BRr r) : RightC keys (madeC keys r) := by
  obtain ⟨h0, h1, h2, h3, h4, h5⟩ := h
  have e1 := Int.emod_nonneg r.n0 (show (keys.length : Int) ≠ 0 by omega)
  have e2 := Int.emod_lt_of_pos r.n0 (show (0 : Int) < keys.length by omega)
  exact sign_right (c := rawC keys.length r) ⟨e1, e2, by show 1 ≤ 1 + r.n1 % 12; omega, by show 1 + r.n1 % 12 ≤ 1073741824; omega, by show 0 ≤ r.n3 / 200; omega, by show r.n3 / 200 ≤ r.n3 / 200 + r.n4 % 50; omega, by show r.n3 / 200 + r.n4 % 50 ≤ r.n3 / 200 + r.n4 % 50 + r.n5; omega, by show r.n3 / 200 + r.n4 % 50 + r.n5 ≤ 1099511627776; omega⟩
theorem getD_mem {α : Type} {l : List α} {i : Nat} {d : α} (h : i < l.length) : l.getD i d ∈ l := by
  rw [List.getD_eq_getElem?_getD, List.getElem?_eq_getElem h]; exact List.getElem_mem h
theorem take_one {α : Type} {l : List α} {i : Nat} {d : α} (h : i < l.length) : l.take (i + 1) = l.take i ++ [l.getD i d] := by
  rw [List.take_add_one, List.getD_eq_getElem?_getD, List.getElem?_eq_getElem h]; rfl
theorem mk_row {keys : List Int} {l : List Rr} {i n : Nat} (h : i < l.length) (hn : n = i) : (((l.take i).map (madeC keys)).map encK).take n ++ [encK (madeC keys (l.getD i rr0))] = ((l.take (i + 1)).map (madeC keys)).map encK := by
  rw [hn, List.take_of_length_le (by simp; omega), take_one (d := rr0) h, List.map_append, List.map_append]; rfl
theorem mk_end {keys : List Int} {l : List Rr} {i n : Nat} (hi : i ≤ l.length) (hn : i ≤ n) (h : ¬ (i < l.length ∧ i < n)) : (l.take i).map (madeC keys) = (l.take n).map (madeC keys) := by
  by_cases e : i = n
  · rw [e]
  · rw [show i = l.length by omega, List.take_of_length_le (Nat.le_refl _), List.take_of_length_le (by omega)]
theorem encK_c (x : Ct) : (cellsOf (encK x)).length = 7 ∧ ∀ c ∈ cellsOf (encK x), isCell c = true := ⟨rfl, by simp [encK, cellsOf, isCell]⟩
theorem encU_c (x : Int) : (cellsOf (AV.int .u64 x)).length = 1 ∧ ∀ c ∈ cellsOf (AV.int .u64 x), isCell c = true := ⟨rfl, by simp [cellsOf, isCell]⟩
theorem one_c {k : Nat} {y : AV} (h : (cellsOf y).length = k ∧ ∀ c ∈ cellsOf y, isCell c = true) : ∀ z ∈ [y], (cellsOf z).length = k ∧ ∀ c ∈ cellsOf z, isCell c = true := fun z hz => by rw [List.mem_singleton.1 hz]; exact h
theorem two_c {k : Nat} {y x : AV} (h : (cellsOf y).length = k ∧ ∀ c ∈ cellsOf y, isCell c = true) (h2 : (cellsOf x).length = k ∧ ∀ c ∈ cellsOf x, isCell c = true) : ∀ z ∈ [y, x], (cellsOf z).length = k ∧ ∀ c ∈ cellsOf z, isCell c = true := fun z hz => by
  rcases List.mem_cons.1 hz with rfl | hz
  · exact h
  · rw [List.mem_singleton.1 hz]; exact h2
structure In32 where
  machines : Int
  L : List Rr
  promise : Int
def in0 : In32 := ⟨0, [], 0⟩
def encN (x : In32) : AV := .agg [.int .u8 x.machines, .list (x.L.map encRr), .int .u8 x.promise]
def nK (x : In32) : Nat := (1 + x.machines % 4).toNat
def lK (x : In32) : List Ct := (x.L.take 20).map (madeC (keysS (nK x)))
def pK (x : In32) : Int := 1 + x.promise % 3
def BIn (x : In32) : Prop := (0 ≤ x.machines ∧ x.machines ≤ 255) ∧ (∀ r ∈ x.L, BRr r) ∧ 0 ≤ x.promise ∧ x.promise ≤ 255
theorem nK_bd {x : In32} (h : BIn x) : 1 ≤ nK x ∧ nK x ≤ 4 ∧ ((nK x : Nat) : Int) = 1 + x.machines % 4 := by have := h.1; unfold nK; omega
theorem lK_right {x : In32} (h : BIn x) : ∀ c ∈ lK x, RightC (keysS (nK x)) c := fun c hc => by
  obtain ⟨r, hr, rfl⟩ := List.mem_map.1 hc
  exact made_right (by rw [keys_len]; have := nK_bd h; omega) (h.2.1 r (List.mem_of_mem_take hr))
theorem lK_len (x : In32) : (lK x).length ≤ 20 := by unfold lK; simp; omega
end Go.Proofs.Ytglfbdicclepcaa
