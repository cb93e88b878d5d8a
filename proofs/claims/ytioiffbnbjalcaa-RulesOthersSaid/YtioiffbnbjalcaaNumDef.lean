/- What the functions of package num compute, in plain Lean. -/
import Derived.Test.YtioiffbnbjalcaaTree
set_option linter.unusedVariables false
set_option linter.unusedSimpArgs false
namespace Go.Proofs.Ytioiffbnbjalcaa
open Go.RowKit

theorem wrap64_32 (a : Int) : wrap64 (wrap32 a) = wrap32 a := by
  unfold wrap64 wrap32; omega
theorem ret_int {k : IntKind} {a b : Int} (h : a = b) : Ending.returned (.int k a) = .returned (.int k b) := by rw [h]
theorem wrap32_64 (a : Int) : wrap32 (wrap64 a) = wrap32 a := by unfold wrap64 wrap32; omega

/-- What num.Op computes. -/
def opV (op a b : Int) : Int :=
  if op = 4 then wrap32 (wrap32 a + wrap32 b) else if op = 5 then wrap32 (wrap32 a - wrap32 b) else if op = 6 then wrap32 (wrap32 a * wrap32 b)
  else if op = 7 then (if wrap32 b = 0 then 0 else wrap32 ((wrap32 a).tdiv (wrap32 b))) else if op = 8 then (if wrap32 b = 0 then wrap32 a else wrap32 ((wrap32 a).tmod (wrap32 b)))
  else if op = 9 then min (wrap32 a) (wrap32 b) else if op = 10 then max (wrap32 a) (wrap32 b) else 0

theorem wrap32_bd (a : Int) : -2147483648 ≤ wrap32 a ∧ wrap32 a ≤ 2147483647 := by unfold wrap32; omega
theorem wrap32_of (a : Int) (h : -2147483648 ≤ a ∧ a ≤ 2147483647) : wrap32 a = a := by unfold wrap32; omega


mutual
/-- What num.Eval computes. -/
def evalE (vs ls : List Int) : Ex → Int
  | .mk op n v a =>
    if op = 1 then wrap32 v else if op = 2 then wrap32 (getI vs n) else if op = 3 then wrap32 (getI ls n)
    else if op < 4 ∨ 10 < op then 0 else opV op ((evalEs vs ls a).getD 0 0) ((evalEs vs ls a).getD 1 0)
def evalEs (vs ls : List Int) : List Ex → List Int
  | [] => []
  | e :: l => evalE vs ls e :: evalEs vs ls l
end

theorem evalEs_map (vs ls : List Int) (l : List Ex) : evalEs vs ls l = l.map (evalE vs ls) := by
  induction l with
  | nil => simp [evalEs]
  | cons x l ih => simp [evalEs, ih]

theorem evalE_none (vs ls : List Int) : evalE vs ls exNone = 0 := by simp [exNone, evalE]

theorem evalEs_get (vs ls : List Int) (l : List Ex) (i : Nat) : (evalEs vs ls l).getD i 0 = evalE vs ls (getE l i) := by
  rw [evalEs_map]
  unfold getE
  rw [if_pos (by omega)]
  by_cases h : i < l.length
  · simp [List.getElem?_eq_getElem h]
  · simp [List.getElem?_eq_none (show l.length ≤ i by omega), evalE_none]

theorem evalE_eq (vs ls : List Int) (e : Ex) : evalE vs ls e =
    if e.op = 1 then wrap32 e.v else if e.op = 2 then wrap32 (getI vs e.n) else if e.op = 3 then wrap32 (getI ls e.n)
    else if e.op < 4 ∨ 10 < e.op then 0 else opV e.op (evalE vs ls (getE e.a 0)) (evalE vs ls (getE e.a 1)) := by
  cases e with
  | mk op n v a =>
    have h0 := evalEs_get vs ls a 0
    have h1 := evalEs_get vs ls a 1
    rw [evalE, h0, h1]
    rfl

mutual
/-- What num.Holds computes. -/
def holdsC (vs ls : List Int) : Co → Bool
  | .mk op a c =>
    if op = 1 then true else if op = 2 then decide (evalE vs ls (getE a 0) < evalE vs ls (getE a 1)) else if op = 3 then decide (evalE vs ls (getE a 0) ≤ evalE vs ls (getE a 1))
    else if op = 4 then decide (evalE vs ls (getE a 0) = evalE vs ls (getE a 1)) else if op = 5 then !((holdsCs vs ls c).getD 0 false)
    else if op = 6 then (holdsCs vs ls c).getD 0 false && (holdsCs vs ls c).getD 1 false else if op = 7 then (holdsCs vs ls c).getD 0 false || (holdsCs vs ls c).getD 1 false else false
def holdsCs (vs ls : List Int) : List Co → List Bool
  | [] => []
  | e :: l => holdsC vs ls e :: holdsCs vs ls l
end

theorem holdsCs_map (vs ls : List Int) (l : List Co) : holdsCs vs ls l = l.map (holdsC vs ls) := by
  induction l with
  | nil => simp [holdsCs]
  | cons x l ih => simp [holdsCs, ih]

theorem holdsC_none (vs ls : List Int) : holdsC vs ls coNone = false := by simp [coNone, holdsC]

theorem holdsCs_get (vs ls : List Int) (l : List Co) (i : Nat) : (holdsCs vs ls l).getD i false = holdsC vs ls (getC l i) := by
  rw [holdsCs_map]
  unfold getC
  rw [if_pos (by omega)]
  by_cases h : i < l.length
  · simp [List.getElem?_eq_getElem h]
  · simp [List.getElem?_eq_none (show l.length ≤ i by omega), holdsC_none]

theorem holdsC_eq (vs ls : List Int) (c : Co) : holdsC vs ls c =
    if c.op = 1 then true else if c.op = 2 then decide (evalE vs ls (getE c.a 0) < evalE vs ls (getE c.a 1)) else if c.op = 3 then decide (evalE vs ls (getE c.a 0) ≤ evalE vs ls (getE c.a 1))
    else if c.op = 4 then decide (evalE vs ls (getE c.a 0) = evalE vs ls (getE c.a 1)) else if c.op = 5 then !(holdsC vs ls (getC c.c 0))
    else if c.op = 6 then holdsC vs ls (getC c.c 0) && holdsC vs ls (getC c.c 1) else if c.op = 7 then holdsC vs ls (getC c.c 0) || holdsC vs ls (getC c.c 1) else false := by
  cases c with
  | mk op a c =>
    have h0 := holdsCs_get vs ls c 0
    have h1 := holdsCs_get vs ls c 1
    rw [holdsC, h0, h1]
    rfl

theorem getE_nodes (l : List Ex) (i : Int) : (getE l i).nodes ≤ Ex.nodesL l + 1 := by
  unfold getE
  split
  · by_cases h : i.toNat < l.length
    · have := Ex.nodes_mem (List.getElem_mem h)
      simp [List.getElem?_eq_getElem h]; omega
    · simp [List.getElem?_eq_none (show l.length ≤ i.toNat by omega), exNone, Ex.nodes, Ex.nodesL]
  · simp [exNone, Ex.nodes, Ex.nodesL]

/-- What num.operands gives. -/
def opnds (e : Ex) : List Ex := if 4 ≤ e.op ∧ e.op ≤ 10 then e.a.take 2 else []

/-- The greatest number of a list, at least 0. -/
def maxN (l : List Nat) : Nat := l.foldr max 0

mutual
/-- What num.Depth computes. -/
def depthE : Ex → Nat
  | .mk op _ _ a => (if 4 ≤ op ∧ op ≤ 10 then maxN ((depthEs a).take 2) else 0) + 1
def depthEs : List Ex → List Nat
  | [] => []
  | e :: l => depthE e :: depthEs l
end

theorem depthEs_map (l : List Ex) : depthEs l = l.map depthE := by
  induction l with
  | nil => simp [depthEs]
  | cons x l ih => simp [depthEs, ih]

theorem depthE_eq (e : Ex) : depthE e = maxN ((opnds e).map depthE) + 1 := by
  cases e with
  | mk op n v a =>
    rw [depthE, depthEs_map]
    by_cases h : 4 ≤ op ∧ op ≤ 10
    · have ho : opnds (.mk op n v a) = a.take 2 := if_pos h
      rw [if_pos h, ho, List.map_take]
    · have ho : opnds (.mk op n v a) = [] := if_neg h
      rw [if_neg h, ho]
      rfl

theorem maxN_snoc (l : List Nat) (x : Nat) : maxN (l ++ [x]) = max (maxN l) x := by
  induction l with
  | nil => simp [maxN]
  | cons y l ih => simp only [maxN, List.cons_append, List.foldr_cons] at ih ⊢; omega

theorem maxN_take {α : Type} (f : α → Nat) (l : List α) (k : Nat) (h : k < l.length) : maxN ((l.take (k + 1)).map f) = max (maxN ((l.take k).map f)) (f l[k]) := by
  rw [List.take_succ_eq_append_getElem h, List.map_append, List.map_cons, List.map_nil, maxN_snoc]

theorem maxN_le {l : List Nat} {m : Nat} (h : ∀ x ∈ l, x ≤ m) : maxN l ≤ m := by
  induction l with
  | nil => simp [maxN]
  | cons y l ih =>
    have h1 := h y (by simp)
    have h2 := ih (fun x hx => h x (by simp [hx]))
    simp only [maxN, List.foldr_cons] at h2 ⊢; omega

theorem opnds_sub {e x : Ex} (h : x ∈ opnds e) : x ∈ e.a := by
  unfold opnds at h
  split at h
  · exact List.mem_of_mem_take h
  · cases h

theorem depthE_le (k : Nat) : ∀ (e : Ex), e.nodes ≤ k → depthE e ≤ e.nodes := by
  induction k with
  | zero => intro e he; have := e.nodes_pos; omega
  | succ k ih =>
    intro e he
    rw [depthE_eq, e.nodes_a]
    have : maxN ((opnds e).map depthE) ≤ Ex.nodesL e.a := by
      apply maxN_le
      intro x hx
      obtain ⟨y, hy, rfl⟩ := List.mem_map.1 hx
      have hm := opnds_sub hy
      have h1 := ih y (by have := Ex.nodes_lt hm; omega)
      have h2 := Ex.nodes_mem hm
      omega
    omega

theorem depthE_nodes (e : Ex) : depthE e ≤ e.nodes := depthE_le e.nodes e (Nat.le_refl _)

/-- What num.parts gives. -/
def partsA (c : Co) : List Ex := if c.op = 2 ∨ c.op = 3 ∨ c.op = 4 then c.a.take 2 else []
def partsC (c : Co) : List Co := if c.op = 5 then c.c.take 1 else if c.op = 6 ∨ c.op = 7 then c.c.take 2 else []

mutual
/-- What num.DepthC computes. -/
def depthC : Co → Nat
  | .mk op a c => maxN [maxN ((partsA (.mk op a [])).map depthE), maxN (if op = 5 then (depthCs c).take 1 else if op = 6 ∨ op = 7 then (depthCs c).take 2 else [])] + 1
def depthCs : List Co → List Nat
  | [] => []
  | e :: l => depthC e :: depthCs l
end

theorem depthCs_map (l : List Co) : depthCs l = l.map depthC := by
  induction l with
  | nil => simp [depthCs]
  | cons x l ih => simp [depthCs, ih]

theorem depthC_eq (c : Co) : depthC c = max (maxN ((partsA c).map depthE)) (maxN ((partsC c).map depthC)) + 1 := by
  cases c with
  | mk op a c =>
    rw [depthC, depthCs_map]
    have ha : partsA (.mk op a []) = partsA (.mk op a c) := rfl
    have hm : ∀ x y : Nat, maxN [x, y] = max x y := fun x y => by simp [maxN]
    rw [hm, ha]
    by_cases h5 : op = 5
    · have ho : partsC (.mk op a c) = c.take 1 := if_pos h5
      rw [if_pos h5, ho, List.map_take]
    · rw [if_neg h5]
      by_cases h6 : op = 6 ∨ op = 7
      · have ho : partsC (.mk op a c) = c.take 2 := by
          show (if op = 5 then c.take 1 else if op = 6 ∨ op = 7 then c.take 2 else []) = _
          rw [if_neg h5, if_pos h6]
        rw [if_pos h6, ho, List.map_take]
      · have ho : partsC (.mk op a c) = [] := by
          show (if op = 5 then c.take 1 else if op = 6 ∨ op = 7 then c.take 2 else []) = _
          rw [if_neg h5, if_neg h6]
        rw [if_neg h6, ho]
        rfl

theorem partsC_sub {e x : Co} (h : x ∈ partsC e) : x ∈ e.c := by
  unfold partsC at h
  split at h
  · exact List.mem_of_mem_take h
  · split at h
    · exact List.mem_of_mem_take h
    · cases h

theorem partsA_sub {e : Co} {x : Ex} (h : x ∈ partsA e) : x ∈ e.a := by
  unfold partsA at h
  split at h
  · exact List.mem_of_mem_take h
  · cases h

theorem depthC_le (k : Nat) : ∀ (e : Co), e.nodes ≤ k → depthC e ≤ e.nodes := by
  induction k with
  | zero => intro e he; have := e.nodes_pos; omega
  | succ k ih =>
    intro e he
    rw [depthC_eq, e.nodes_ac]
    have h1 : maxN ((partsA e).map depthE) ≤ Ex.nodesL e.a := by
      apply maxN_le
      intro x hx
      obtain ⟨y, hy, rfl⟩ := List.mem_map.1 hx
      have h1 := depthE_nodes y
      have h2 := Ex.nodes_mem (partsA_sub hy)
      omega
    have h2 : maxN ((partsC e).map depthC) ≤ Co.nodesL e.c := by
      apply maxN_le
      intro x hx
      obtain ⟨y, hy, rfl⟩ := List.mem_map.1 hx
      have hm := partsC_sub hy
      have h1 := ih y (by have := Co.nodes_lt hm; omega)
      have h2 := Co.nodes_mem hm
      omega
    omega

theorem depthC_nodes (e : Co) : depthC e ≤ e.nodes := depthC_le e.nodes e (Nat.le_refl _)

end Go.Proofs.Ytioiffbnbjalcaa
