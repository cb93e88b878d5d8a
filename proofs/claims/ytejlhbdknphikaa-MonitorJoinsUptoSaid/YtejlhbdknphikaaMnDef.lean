/- Monitors as plain data: instructions, the code of conditions, what code leaves. No program. -/
import Derived.Test.YtejlhbdknphikaaTr
set_option linter.unusedVariables false
set_option linter.unusedSimpArgs false
namespace Go.Proofs.Ytejlhbdknphikaa
open Go.RowKit
set_option maxRecDepth 100000

structure In where
  op : Int
  n : Int
deriving DecidableEq
def encN (q : In) : AV := .agg [.int .i64 q.op, .int .i64 q.n]
abbrev in0 : In := ⟨0, 0⟩

/-! ### Code -/
def two (p q : List In × Bool) (op : Int) : List In × Bool := if p.2 then (p.1 ++ q.1 ++ [⟨op, 0⟩], q.2) else (p.1 ++ [⟨op, 0⟩], false)
def ops2 (l : List (List In × Bool)) (op : Int) : List In × Bool := if l.length < 2 then ([], false) else two (l.getD 0 ([], false)) (l.getD 1 ([], false)) op
def ops1 (l : List (List In × Bool)) (op : Int) : List In × Bool := if l.length < 1 then ([], false) else ((l.getD 0 ([], false)).1 ++ [⟨op, 0⟩], (l.getD 0 ([], false)).2)
mutual
def cdX : Ex → List In × Bool
  | .mk op n v a => if op = 1 then ([⟨1, v⟩], true) else if op = 2 ∨ op = 3 then ([⟨op, n⟩], true) else if op < 4 ∨ 10 < op then ([], false) else ops2 (cdXs a) op
def cdXs : List Ex → List (List In × Bool)
  | [] => []
  | e :: l => cdX e :: cdXs l
end
theorem cdXs_map (l : List Ex) : cdXs l = l.map cdX := by
  induction l with
  | nil => simp [cdXs]
  | cons x l ih => simp [cdXs, ih]
theorem cdX_eq (e : Ex) : cdX e = if e.op = 1 then ([⟨1, e.v⟩], true) else if e.op = 2 ∨ e.op = 3 then ([⟨e.op, e.n⟩], true) else if e.op < 4 ∨ 10 < e.op then ([], false) else ops2 (e.a.map cdX) e.op := by
  cases e with | mk op n v a => rw [cdX, cdXs_map]; rfl
mutual
def cdC : Co → List In × Bool
  | .mk op a c => if op = 1 then ([⟨11, 0⟩], true) else if op = 2 ∨ op = 3 ∨ op = 4 then ops2 (a.map cdX) (10 + op) else if op = 5 then ops1 (cdCs c) 15 else if op = 6 ∨ op = 7 then ops2 (cdCs c) (10 + op) else ([], false)
def cdCs : List Co → List (List In × Bool)
  | [] => []
  | e :: l => cdC e :: cdCs l
end
theorem cdCs_map (l : List Co) : cdCs l = l.map cdC := by
  induction l with
  | nil => simp [cdCs]
  | cons x l ih => simp [cdCs, ih]
theorem cdC_eq (c : Co) : cdC c = if c.op = 1 then ([⟨11, 0⟩], true) else if c.op = 2 ∨ c.op = 3 ∨ c.op = 4 then ops2 (c.a.map cdX) (10 + c.op) else if c.op = 5 then ops1 (c.c.map cdC) 15 else if c.op = 6 ∨ c.op = 7 then ops2 (c.c.map cdC) (10 + c.op) else ([], false) := by
  cases c with | mk op a c => rw [cdC, cdCs_map]; rfl
theorem ops2_no {α : Type} {f : α → List In × Bool} {l : List α} {op : Int} (h : l.length < 2) : ops2 (l.map f) op = ([], false) := by unfold ops2; rw [if_pos (by simpa using h)]
theorem ops1_no {α : Type} {f : α → List In × Bool} {l : List α} {op : Int} (h : l.length < 1) : ops1 (l.map f) op = ([], false) := by unfold ops1; rw [if_pos (by simpa using h)]
theorem map_getD {α β : Type} {f : α → β} {l : List α} {i : Nat} {d : α} {e : β} (h : i < l.length) : (l.map f).getD i e = f (l.getD i d) := by
  simp [List.getD_eq_getElem?_getD, List.getElem?_eq_getElem h]
theorem ops2_in {α : Type} {f : α → List In × Bool} {l : List α} {op : Int} (d : α) (h : ¬ l.length < 2) : ops2 (l.map f) op = two (f (l.getD 0 d)) (f (l.getD 1 d)) op := by
  unfold ops2; rw [if_neg (by simpa using h), map_getD (d := d) (by omega), map_getD (d := d) (by omega)]
theorem ops1_in {α : Type} {f : α → List In × Bool} {l : List α} {op : Int} (d : α) (h : ¬ l.length < 1) : ops1 (l.map f) op = ((f (l.getD 0 d)).1 ++ [⟨op, 0⟩], (f (l.getD 0 d)).2) := by
  unfold ops1; rw [if_neg (by simpa using h), map_getD (d := d) (by omega)]
theorem two_ff {p q : List In × Bool} {op : Int} (h : ¬ p.2 = true) : two p q op = (p.1 ++ [⟨op, 0⟩], false) := by unfold two; rw [if_neg h]
theorem two_t {p q : List In × Bool} {op : Int} (h : p.2 = true) : two p q op = (p.1 ++ q.1 ++ [⟨op, 0⟩], q.2) := by unfold two; rw [if_pos h]
section
variable {e : Ex} {c : Co}
theorem cd1 (h : e.op = 1) : cdX e = ([⟨e.op, e.v⟩], true) := by rw [cdX_eq, if_pos h, h]
theorem cd2 (h : e.op = 2 ∨ e.op = 3) : cdX e = ([⟨e.op, e.n⟩], true) := by rw [cdX_eq, if_neg (by omega), if_pos h]
theorem cd0 (h : ¬ e.op = 1) (h2 : ¬ e.op = 2) (h3 : ¬ e.op = 3) (h0 : e.op < 4 ∨ 10 < e.op) : cdX e = ([], false) := by rw [cdX_eq, if_neg h, if_neg (by omega), if_pos h0]
theorem cd4 (h0 : 4 ≤ e.op ∧ e.op ≤ 10) : cdX e = ops2 (e.a.map cdX) e.op := by rw [cdX_eq, if_neg (by omega), if_neg (by omega), if_neg (by omega)]
theorem cc1 (h : c.op = 1) : cdC c = ([⟨10 + c.op, 0⟩], true) := by rw [cdC_eq, if_pos h, h]; rfl
theorem cc2 (h : c.op = 2 ∨ c.op = 3 ∨ c.op = 4) : cdC c = ops2 (c.a.map cdX) (10 + c.op) := by rw [cdC_eq, if_neg (by omega), if_pos h]
theorem cc5 (h : c.op = 5) : cdC c = ops1 (c.c.map cdC) (10 + c.op) := by rw [cdC_eq, if_neg (by omega), if_neg (by omega), if_pos h, h]; rfl
theorem cc6 (h : c.op = 6 ∨ c.op = 7) : cdC c = ops2 (c.c.map cdC) (10 + c.op) := by rw [cdC_eq, if_neg (by omega), if_neg (by omega), if_neg (by omega), if_pos h]
theorem cc0 (h : ¬ (1 ≤ c.op ∧ c.op ≤ 7)) : cdC c = ([], false) := by rw [cdC_eq, if_neg (by omega), if_neg (by omega), if_neg (by omega), if_neg (by omega)]
end
theorem nodes_two {l : List Ex} (h : ¬ l.length < 2) : (l.getD 0 exNone).nodes + (l.getD 1 exNone).nodes ≤ Ex.nodesL l := by
  match l, h with
  | [], h => simp at h
  | [_], h => simp at h
  | x :: y :: l, _ => simp only [Ex.nodesL, List.getD_cons_zero, List.getD_cons_succ]; omega
theorem nodes_twoC {l : List Co} (h : ¬ l.length < 2) : (l.getD 0 coNone).nodes + (l.getD 1 coNone).nodes ≤ Co.nodesL l := by
  match l, h with
  | [], h => simp at h
  | [_], h => simp at h
  | x :: y :: l, _ => simp only [Co.nodesL, List.getD_cons_zero, List.getD_cons_succ]; omega
theorem nodes_one {l : List Ex} (h : ¬ l.length < 1) : (l.getD 0 exNone).nodes ≤ Ex.nodesL l := by
  match l, h with
  | [], h => simp at h
  | x :: l, _ => simp [Ex.nodesL]
theorem nodes_oneC {l : List Co} (h : ¬ l.length < 1) : (l.getD 0 coNone).nodes ≤ Co.nodesL l := by
  match l, h with
  | [], h => simp at h
  | x :: l, _ => simp [Co.nodesL]
theorem cdX_len (e : Ex) : (cdX e).1.length ≤ e.nodes := by
    have hn := Ex.nodes_a e
    rw [cdX_eq]
    split
    · exact Ex.nodes_pos e
    split
    · exact Ex.nodes_pos e
    split
    · simp
    · by_cases h : e.a.length < 2
      · rw [ops2_no h]; simp
      · rw [ops2_in exNone h]
        have h2 := nodes_two h
        have h0 := cdX_len (e.a.getD 0 exNone)
        have h1 := cdX_len (e.a.getD 1 exNone)
        unfold two
        split <;> simp only [List.length_append, List.length_cons, List.length_nil] <;> omega
termination_by e.nodes
decreasing_by all_goals exact nodes_get (by omega)
theorem cdC_len (c : Co) : (cdC c).1.length ≤ c.nodes := by
    have hn := Co.nodes_ac c
    rw [cdC_eq]
    split
    · exact Co.nodes_pos c
    split
    · by_cases h : c.a.length < 2
      · rw [ops2_no h]; simp
      · rw [ops2_in exNone h]
        have h2 := nodes_two h
        have h0 := cdX_len (c.a.getD 0 exNone)
        have h1 := cdX_len (c.a.getD 1 exNone)
        unfold two
        split <;> simp only [List.length_append, List.length_cons, List.length_nil] <;> omega
    split
    · by_cases h : c.c.length < 1
      · rw [ops1_no h]; simp
      · rw [ops1_in coNone h]
        have h2 := nodes_oneC h
        have h0 := cdC_len (c.c.getD 0 coNone)
        simp only [List.length_append, List.length_cons, List.length_nil]; omega
    split
    · by_cases h : c.c.length < 2
      · rw [ops2_no h]; simp
      · rw [ops2_in coNone h]
        have h2 := nodes_twoC h
        have h0 := cdC_len (c.c.getD 0 coNone)
        have h1 := cdC_len (c.c.getD 1 coNone)
        unfold two
        split <;> simp only [List.length_append, List.length_cons, List.length_nil] <;> omega
    · simp
termination_by c.nodes
decreasing_by all_goals exact nodes_getC (by omega)
theorem two_ne (p q : List In × Bool) (op : Int) : ¬ (two p q op).1 = [] := by unfold two; split <;> simp
theorem ops2_ne {l : List (List In × Bool)} {op : Int} (h : (ops2 l op).2 = true) : ¬ (ops2 l op).1 = [] := by
  unfold ops2 at h ⊢; split at h; · simp at h
  rename_i hl; rw [if_neg hl]; exact two_ne _ _ _
theorem cdX_ne {e : Ex} (h : (cdX e).2 = true) : ¬ (cdX e).1 = [] := by
  rw [cdX_eq] at h ⊢
  split at h
  · rename_i q; rw [if_pos q]; simp
  rename_i q; rw [if_neg q]
  split at h
  · rename_i q; rw [if_pos q]; simp
  rename_i q; rw [if_neg q]
  split at h
  · simp at h
  rename_i q; rw [if_neg q]; exact ops2_ne h
theorem cdC_ne {c : Co} (h : (cdC c).2 = true) : ¬ (cdC c).1 = [] := by
  rw [cdC_eq] at h ⊢
  split at h
  · rename_i q; rw [if_pos q]; simp
  rename_i q; rw [if_neg q]
  split at h
  · rename_i q; rw [if_pos q]; exact ops2_ne h
  rename_i q; rw [if_neg q]
  split at h
  · rename_i q; rw [if_pos q]
    unfold ops1 at h ⊢; split at h; · simp at h
    rename_i hl; rw [if_neg hl]; simp
  rename_i q; rw [if_neg q]
  split at h
  · rename_i q; rw [if_pos q]; exact ops2_ne h
  · simp at h
def badX (e : Ex) : Prop := ¬ (e.op = 1 ∨ e.op = 2 ∨ e.op = 3) ∧ (e.op < 4 ∨ 10 < e.op ∨ e.a.length < 2)
def badC (c : Co) : Prop := ¬ c.op = 1 ∧ ¬ ((c.op = 2 ∨ c.op = 3 ∨ c.op = 4) ∧ 2 ≤ c.a.length) ∧ ¬ (c.op = 5 ∧ 1 ≤ c.c.length) ∧ ¬ ((c.op = 6 ∨ c.op = 7) ∧ 2 ≤ c.c.length)
theorem badX_iff {e : Ex} : (cdX e).1 = [] ↔ badX e := by
  unfold badX
  by_cases h1 : e.op = 1
  · rw [cd1 h1]; simp [h1]
  by_cases h2 : e.op = 2 ∨ e.op = 3
  · rw [cd2 h2]; simp; omega
  by_cases h3 : e.op < 4 ∨ 10 < e.op
  · rw [cd0 h1 (by omega) (by omega) h3]; simp only [true_iff]; omega
  rw [cd4 (by omega)]
  by_cases h : e.a.length < 2
  · rw [ops2_no h]; simp only [true_iff]; omega
  · rw [ops2_in exNone h]; have := two_ne (cdX (e.a.getD 0 exNone)) (cdX (e.a.getD 1 exNone)) e.op
    constructor
    · intro q; exact absurd q this
    · omega
theorem badC_iff {c : Co} : (cdC c).1 = [] ↔ badC c := by
  unfold badC
  by_cases h1 : c.op = 1
  · rw [cc1 h1]; simp [h1]
  by_cases h2 : c.op = 2 ∨ c.op = 3 ∨ c.op = 4
  · rw [cc2 h2]
    by_cases h : c.a.length < 2
    · rw [ops2_no h]; simp only [true_iff]; omega
    · rw [ops2_in exNone h]; have := two_ne (cdX (c.a.getD 0 exNone)) (cdX (c.a.getD 1 exNone)) (10 + c.op)
      constructor
      · intro q; exact absurd q this
      · omega
  by_cases h5 : c.op = 5
  · rw [cc5 h5]
    by_cases h : c.c.length < 1
    · rw [ops1_no h]; simp only [true_iff]; omega
    · rw [ops1_in coNone h]
      constructor
      · intro q; simp at q
      · intro q; omega
  by_cases h6 : c.op = 6 ∨ c.op = 7
  · rw [cc6 h6]
    by_cases h : c.c.length < 2
    · rw [ops2_no h]; simp only [true_iff]; omega
    · rw [ops2_in coNone h]; have := two_ne (cdC (c.c.getD 0 coNone)) (cdC (c.c.getD 1 coNone)) (10 + c.op)
      constructor
      · intro q; exact absurd q this
      · omega
  rw [cc0 (by intro q; omega)]; simp only [true_iff]; omega
/-- Rows of instructions get longer. -/
theorem rowN {L : List In} {n : Nat} {q : In} (h : n = L.length) : (L.map encN).take n ++ [encN q] = (L ++ [q]).map encN := by subst h; rw [List.take_of_length_le (by simp)]; simp [encN]
theorem rowN0 {q : In} : [encN q] = [q].map encN := rfl
end Go.Proofs.Ytejlhbdknphikaa
