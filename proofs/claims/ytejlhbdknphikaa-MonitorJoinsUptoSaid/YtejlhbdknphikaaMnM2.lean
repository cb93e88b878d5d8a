/- The reference's code of conditions. No program. -/
import Derived.Test.YtejlhbdknphikaaMnM
set_option linter.unusedVariables false
set_option linter.unusedSimpArgs false
namespace Go.Proofs.Ytejlhbdknphikaa
open Go.RowKit
set_option maxRecDepth 100000

def rjoin (p q : List In × Bool) (op : Int) : List In × Bool := (p.1 ++ q.1 ++ [⟨op, 0⟩], p.2 || q.2)
def rops2 (l : List (List In × Bool)) (op : Int) : List In × Bool := if l.length < 2 then ([], true) else rjoin (l.getD 0 ([], false)) (l.getD 1 ([], false)) op
def rops1 (l : List (List In × Bool)) : List In × Bool := if l.length < 1 then ([], true) else rjoin (l.getD 0 ([], false)) ([], false) 15
mutual
def rcX : Ex → List In × Bool
  | .mk op n v a => if op = 1 then ([⟨1, v⟩], false) else if op = 2 ∨ op = 3 then ([⟨op, n⟩], false) else if op < 4 ∨ 10 < op then ([], true) else rops2 (rcXs a) op
def rcXs : List Ex → List (List In × Bool)
  | [] => []
  | e :: l => rcX e :: rcXs l
end
theorem rcXs_map (l : List Ex) : rcXs l = l.map rcX := by
  induction l with
  | nil => simp [rcXs]
  | cons x l ih => simp [rcXs, ih]
theorem rcX_eq (e : Ex) : rcX e = if e.op = 1 then ([⟨1, e.v⟩], false) else if e.op = 2 ∨ e.op = 3 then ([⟨e.op, e.n⟩], false) else if e.op < 4 ∨ 10 < e.op then ([], true) else rops2 (e.a.map rcX) e.op := by
  cases e with | mk op n v a => rw [rcX, rcXs_map]; rfl
mutual
def rcC : Co → List In × Bool
  | .mk op a c => if op = 1 then ([⟨11, 0⟩], false) else if op = 2 ∨ op = 3 ∨ op = 4 then rops2 (a.map rcX) (10 + op) else if op = 5 then rops1 (rcCs c) else if op = 6 ∨ op = 7 then rops2 (rcCs c) (10 + op) else ([], true)
def rcCs : List Co → List (List In × Bool)
  | [] => []
  | e :: l => rcC e :: rcCs l
end
theorem rcCs_map (l : List Co) : rcCs l = l.map rcC := by
  induction l with
  | nil => simp [rcCs]
  | cons x l ih => simp [rcCs, ih]
theorem rcC_eq (c : Co) : rcC c = if c.op = 1 then ([⟨11, 0⟩], false) else if c.op = 2 ∨ c.op = 3 ∨ c.op = 4 then rops2 (c.a.map rcX) (10 + c.op) else if c.op = 5 then rops1 (c.c.map rcC) else if c.op = 6 ∨ c.op = 7 then rops2 (c.c.map rcC) (10 + c.op) else ([], true) := by
  cases c with | mk op a c => rw [rcC, rcCs_map]; rfl
theorem rops2_no {α : Type} {f : α → List In × Bool} {l : List α} {op : Int} (h : l.length < 2) : rops2 (l.map f) op = ([], true) := by unfold rops2; rw [if_pos (by simpa using h)]
theorem rops1_no {α : Type} {f : α → List In × Bool} {l : List α} (h : l.length < 1) : rops1 (l.map f) = ([], true) := by unfold rops1; rw [if_pos (by simpa using h)]
theorem rops2_in {α : Type} {f : α → List In × Bool} {l : List α} {op : Int} (d : α) (h : ¬ l.length < 2) : rops2 (l.map f) op = rjoin (f (l.getD 0 d)) (f (l.getD 1 d)) op := by
  unfold rops2; rw [if_neg (by simpa using h), map_getD (d := d) (by omega), map_getD (d := d) (by omega)]
theorem rops1_in {α : Type} {f : α → List In × Bool} {l : List α} (d : α) (h : ¬ l.length < 1) : rops1 (l.map f) = rjoin (f (l.getD 0 d)) ([], false) 15 := by
  unfold rops1; rw [if_neg (by simpa using h), map_getD (d := d) (by omega)]
section
variable {e : Ex} {c : Co}
theorem rx1 (h : e.op = 1) : rcX e = ([⟨e.op, e.v⟩], false) := by rw [rcX_eq, if_pos h, h]
theorem rx2 (h : e.op = 2 ∨ e.op = 3) : rcX e = ([⟨e.op, e.n⟩], false) := by rw [rcX_eq, if_neg (by omega), if_pos h]
theorem rx0 (h1 : ¬ e.op = 1) (h2 : ¬ e.op = 2) (h3 : ¬ e.op = 3) (h : e.op < 4 ∨ 10 < e.op ∨ e.a.length < 2) : rcX e = ([], true) := by
  rw [rcX_eq, if_neg h1, if_neg (by omega)]
  by_cases h4 : e.op < 4 ∨ 10 < e.op
  · rw [if_pos h4]
  · rw [if_neg h4, rops2_no (by omega)]
theorem rx4 (h : 4 ≤ e.op ∧ e.op ≤ 10) (hl : ¬ e.a.length < 2) : rcX e = rjoin (rcX (e.a.getD 0 exNone)) (rcX (e.a.getD 1 exNone)) e.op := by rw [rcX_eq, if_neg (by omega), if_neg (by omega), if_neg (by omega), rops2_in exNone hl]
theorem rr1 (h : c.op = 1) : rcC c = ([⟨11, 0⟩], false) := by rw [rcC_eq, if_pos h]
theorem rr2 (h : c.op = 2 ∨ c.op = 3 ∨ c.op = 4) (hl : ¬ c.a.length < 2) : rcC c = rjoin (rcX (c.a.getD 0 exNone)) (rcX (c.a.getD 1 exNone)) (10 + c.op) := by rw [rcC_eq, if_neg (by omega), if_pos h, rops2_in exNone hl]
theorem rr5 (h : c.op = 5) (hl : ¬ c.c.length < 1) : rcC c = rjoin (rcC (c.c.getD 0 coNone)) ([], false) 15 := by rw [rcC_eq, if_neg (by omega), if_neg (by omega), if_pos h, rops1_in coNone hl]
theorem rr6 (h : c.op = 6 ∨ c.op = 7) (hl : ¬ c.c.length < 2) : rcC c = rjoin (rcC (c.c.getD 0 coNone)) (rcC (c.c.getD 1 coNone)) (10 + c.op) := by rw [rcC_eq, if_neg (by omega), if_neg (by omega), if_neg (by omega), if_pos h, rops2_in coNone hl]
theorem rr0 (h1 : ¬ c.op = 1) (h2 : ¬ ((c.op = 2 ∨ c.op = 3 ∨ c.op = 4) ∧ 2 ≤ c.a.length)) (h5 : ¬ (c.op = 5 ∧ 1 ≤ c.c.length)) (h6 : ¬ ((c.op = 6 ∨ c.op = 7) ∧ 2 ≤ c.c.length)) : rcC c = ([], true) := by
  rw [rcC_eq, if_neg h1]
  by_cases q2 : c.op = 2 ∨ c.op = 3 ∨ c.op = 4
  · rw [if_pos q2, rops2_no (by omega)]
  rw [if_neg q2]
  by_cases q5 : c.op = 5
  · rw [if_pos q5, rops1_no (by omega)]
  rw [if_neg q5]
  by_cases q6 : c.op = 6 ∨ c.op = 7
  · rw [if_pos q6, rops2_no (by omega)]
  rw [if_neg q6]
end
/-- It is the monitor's, where there is any. -/
def Agr (p q : List In × Bool) : Prop := q.2 = (!p.2) ∧ (p.2 = true → q.1 = p.1)
theorem Agr.two {p q p' q' : List In × Bool} {op : Int} (h : Agr p p') (k : Agr q q') : Agr (two p q op) (rjoin p' q' op) := by
  unfold Agr rjoin Go.Proofs.Ytejlhbdknphikaa.two at *
  obtain ⟨h1, h2⟩ := h
  obtain ⟨k1, k2⟩ := k
  cases hp : p.2
  · simp [h1, hp]
  · simp [h1, hp, k1, h2 hp]
    intro hq; rw [k2 hq]
theorem agr_no : Agr ([], false) ([], true) := ⟨rfl, fun h => by cases h⟩
theorem agr_one {l : List In} : Agr (l, true) (l, false) := ⟨rfl, fun _ => rfl⟩
theorem agrX (e : Ex) : Agr (cdX e) (rcX e) := by
  rw [cdX_eq, rcX_eq]
  split
  · exact agr_one
  split
  · exact agr_one
  split
  · exact agr_no
  · by_cases h : e.a.length < 2
    · rw [ops2_no h, rops2_no h]; exact agr_no
    · rw [ops2_in exNone h, rops2_in exNone h]
      exact .two (agrX _) (agrX _)
termination_by e.nodes
decreasing_by all_goals exact nodes_get (by omega)
theorem agrC (c : Co) : Agr (cdC c) (rcC c) := by
  rw [cdC_eq, rcC_eq]
  split
  · exact agr_one
  split
  · by_cases h : c.a.length < 2
    · rw [ops2_no h, rops2_no h]; exact agr_no
    · rw [ops2_in exNone h, rops2_in exNone h]
      exact .two (agrX _) (agrX _)
  split
  · by_cases h : c.c.length < 1
    · rw [ops1_no h, rops1_no h]; exact agr_no
    · rw [ops1_in coNone h, rops1_in coNone h]
      have k := agrC (c.c.getD 0 coNone)
      unfold Agr rjoin at *
      simp only [List.append_nil, Bool.or_false]
      exact ⟨k.1, fun q => by rw [k.2 q]⟩
  split
  · by_cases h : c.c.length < 2
    · rw [ops2_no h, rops2_no h]; exact agr_no
    · rw [ops2_in coNone h, rops2_in coNone h]
      exact .two (agrC _) (agrC _)
  · exact agr_no
termination_by c.nodes
decreasing_by all_goals exact nodes_getC (by omega)
theorem rjoin_len {p q : List In × Bool} {op : Int} : (rjoin p q op).1.length = p.1.length + q.1.length + 1 := by unfold rjoin; simp; omega
theorem rcX_len (e : Ex) : (rcX e).1.length ≤ e.nodes := by
    have hn := Ex.nodes_a e
    rw [rcX_eq]
    split
    · exact Ex.nodes_pos e
    split
    · exact Ex.nodes_pos e
    split
    · simp
    · by_cases h : e.a.length < 2
      · rw [rops2_no h]; simp
      · rw [rops2_in exNone h, rjoin_len]
        have h2 := nodes_two h
        have h0 := rcX_len (e.a.getD 0 exNone)
        have h1 := rcX_len (e.a.getD 1 exNone)
        omega
termination_by e.nodes
decreasing_by all_goals exact nodes_get (by omega)
theorem rcC_len (c : Co) : (rcC c).1.length ≤ c.nodes := by
    have hn := Co.nodes_ac c
    rw [rcC_eq]
    split
    · exact Co.nodes_pos c
    split
    · by_cases h : c.a.length < 2
      · rw [rops2_no h]; simp
      · rw [rops2_in exNone h, rjoin_len]
        have h2 := nodes_two h
        have h0 := rcX_len (c.a.getD 0 exNone)
        have h1 := rcX_len (c.a.getD 1 exNone)
        omega
    split
    · by_cases h : c.c.length < 1
      · rw [rops1_no h]; simp
      · rw [rops1_in coNone h, rjoin_len]
        have h2 := nodes_oneC h
        have h0 := rcC_len (c.c.getD 0 coNone)
        simp only [List.length_nil]; omega
    split
    · by_cases h : c.c.length < 2
      · rw [rops2_no h]; simp
      · rw [rops2_in coNone h, rjoin_len]
        have h2 := nodes_twoC h
        have h0 := rcC_len (c.c.getD 0 coNone)
        have h1 := rcC_len (c.c.getD 1 coNone)
        omega
    · simp
termination_by c.nodes
decreasing_by all_goals exact nodes_getC (by omega)
theorem rcC_t {c : Co} (h : cmpG c = true) : rcC c = ((cdC c).1, false) := by
  have k := agrC c
  unfold cmpG at h; simp only [Bool.and_eq_true] at h
  obtain ⟨k1, k2⟩ := k
  rw [h.1] at k1
  exact Prod.ext (k2 h.1) k1
theorem rcC_f {c : Co} (h : ¬ cmpG c = true) (k : ¬ (rcC c).2 = true) : (rcC c).1 = (cdC c).1 ∧ ¬ goodI (cdC c).1 = true := by
  obtain ⟨k1, k2⟩ := agrC c
  have h1 : (cdC c).2 = true := by cases q : (cdC c).2; rw [q] at k1; exact absurd k1 k; rfl
  exact ⟨k2 h1, fun g => h (by unfold cmpG; rw [h1, g]; rfl)⟩
theorem gd_t {l : List In} (h : l.length ≤ 300) (k : (ranR [] [] l).1 = true) : goodI l = true := by unfold goodI; rw [k]; simpa using h
theorem gd_f {l : List In} (k : ¬ (ranR [] [] l).1 = true) : goodI l = false := by unfold goodI; rw [Bool.eq_false_iff.2 k]; simp
theorem rowApL {α : Type} {f : α → AV} {l m : List α} {n : Nat} (h : n = l.length) : (l.map f).take n ++ m.map f = (l ++ m).map f := by subst h; rw [List.take_of_length_le (by simp)]; simp
theorem encN_c (x : In) : (cellsOf (encN x)).length = 2 ∧ ∀ c ∈ cellsOf (encN x), isCell c = true := ⟨rfl, by simp [encN, cellsOf, isCell]⟩
theorem all_mp {α : Type} {f : α → AV} {k : Nat} (h : ∀ x, (cellsOf (f x)).length = k ∧ ∀ c ∈ cellsOf (f x), isCell c = true) (l : List α) : ∀ y ∈ l.map f, (cellsOf y).length = k ∧ ∀ c ∈ cellsOf y, isCell c = true := fun y hy => by
  obtain ⟨x, _, rfl⟩ := List.mem_map.1 hy; exact h x
end Go.Proofs.Ytejlhbdknphikaa
