/- rules.Ops, walked -/
import Derived.Test.YtioiffbnbjalcaaRuLst
import Derived.Test.YtioiffbnbjalcaaCln
import Derived.Test.YtioiffbnbjalcaaProg
set_option linter.unusedVariables false
set_option linter.unusedSimpArgs false
namespace Go.Proofs.Ytioiffbnbjalcaa
open Go.RowKit
set_option maxRecDepth 100000
/-- The first rule of another operator, or -1. -/
def idxO (op : Int) (l : List Ru) : Int := match l.findIdx? (fun r => decide (r.op ≠ op)) with
  | some i => (i : Int)
  | none => -1
def kp (op : Int) (l : List Ru) : List Ru := l.filter fun r => decide (r.op = op)
theorem op_next {op : Int} {l : List Ru} {i : Nat} (h : ∀ j, j < i → (l.getD j ru0).op = op) (h2 : (l.getD i ru0).op = op) : ∀ j, j < i + 1 → (l.getD j ru0).op = op := fun j hj => by
  by_cases e : j = i
  · rw [e]; exact h2
  · exact h j (by omega)
theorem idx_at {op : Int} {l : List Ru} {i : Nat} (h : ∀ j, j < i → (l.getD j ru0).op = op) (hi : i < l.length) (hn : ¬ (l.getD i ru0).op = op) : idxO op l = (i : Int) := by
  have e : l.findIdx? (fun r => decide (r.op ≠ op)) = some i := by
    rw [List.findIdx?_eq_some_iff_getElem]
    refine ⟨hi, ?_, fun j hj => ?_⟩
    · rw [List.getD_eq_getElem?_getD, List.getElem?_eq_getElem hi] at hn
      simpa using hn
    · have := h j hj
      rw [List.getD_eq_getElem?_getD, List.getElem?_eq_getElem (by omega)] at this
      simpa using this
  unfold idxO; rw [e]
theorem idx_none {op : Int} {l : List Ru} (h : ∀ j, j < l.length → (l.getD j ru0).op = op) : idxO op l = -1 := by
  have e : l.findIdx? (fun r => decide (r.op ≠ op)) = none := by
    rw [List.findIdx?_eq_none_iff]
    intro x hx
    obtain ⟨i, hi, rfl⟩ := List.getElem_of_mem hx
    have := h i hi
    rw [List.getD_eq_getElem?_getD, List.getElem?_eq_getElem hi] at this
    simpa using this
  unfold idxO; rw [e]
theorem idx_bd (op : Int) (l : List Ru) : -1 ≤ idxO op l ∧ idxO op l < l.length + 1 - 1 ∨ idxO op l = -1 := by
  unfold idxO
  split
  · rename_i i h
    rw [List.findIdx?_eq_some_iff_getElem] at h
    obtain ⟨h, _⟩ := h
    left; omega
  · right; rfl
theorem idx_ops {op : Int} {l : List Ru} (h : idxO op l = -1) : kp op l = l := by
  unfold idxO at h
  split at h
  · omega
  · rename_i h2
    rw [List.findIdx?_eq_none_iff] at h2
    refine List.filter_eq_self.2 fun r hr => ?_
    simpa using h2 r hr
theorem idx_take {op : Int} {l : List Ru} (h : ¬ idxO op l = -1) : kp op (l.take ((idxO op l).toNat + 1)) = l.take (idxO op l).toNat ∧ (idxO op l).toNat < l.length := by
  unfold idxO at h ⊢
  split
  · rename_i i h2
    rw [List.findIdx?_eq_some_iff_getElem] at h2
    obtain ⟨hi, h3, h4⟩ := h2
    rw [Int.toNat_natCast]
    refine ⟨?_, hi⟩
    rw [List.take_add_one, List.getElem?_eq_getElem hi]
    unfold kp
    rw [List.filter_append]
    simp only [Option.toList_some]
    rw [List.filter_cons_of_neg (by simpa using h3), List.filter_nil, List.append_nil]
    refine List.filter_eq_self.2 fun r hr => ?_
    obtain ⟨j, hj, rfl⟩ := List.getElem_of_mem hr
    simp only [List.getElem_take]
    simp only [List.length_take] at hj
    simpa using h4 j (by omega)
  · rename_i h2
    rw [h2] at h
    exact absurd rfl h
theorem idx_le (op : Int) (l : List Ru) : -1 ≤ idxO op l ∧ idxO op l ≤ l.length := by
  unfold idxO
  split
  · rename_i i h
    rw [List.findIdx?_eq_some_iff_getElem] at h
    obtain ⟨h, _⟩ := h
    omega
  · omega
theorem kp_yes {op : Int} {l : List Ru} {j : Nat} (h : j < l.length) (ho : (l.getD j ru0).op = op) : kp op (l.take (j + 1)) = kp op (l.take j) ++ [l.getD j ru0] := by
  rw [take_one (d := ru0) h]; unfold kp; rw [List.filter_append, List.filter_cons_of_pos (p := fun r : Ru => decide (r.op = op)) (decide_eq_true ho)]; rfl
theorem kp_no {op : Int} {l : List Ru} {j : Nat} (h : j < l.length) (ho : ¬ (l.getD j ru0).op = op) : kp op (l.take (j + 1)) = kp op (l.take j) := by
  rw [take_one (d := ru0) h]; unfold kp; rw [List.filter_append, List.filter_cons_of_neg (p := fun r : Ru => decide (r.op = op)) (fun h => ho (of_decide_eq_true h))]; simp
theorem kp_len (op : Int) (l : List Ru) : (kp op l).length ≤ l.length := List.length_filter_le _ _
theorem drop_at {l : List Ru} {j : Nat} (h : j < l.length) : l.drop j = l.getD j ru0 :: l.drop (j + 1) := by
  rw [List.drop_eq_getElem_cons h, List.getD_eq_getElem?_getD, List.getElem?_eq_getElem h]; rfl
theorem del_skip {F g l : List Ru} {j : Nat} (h : j < l.length) : (F ++ g ++ l.drop j) = (F ++ (g ++ [l.getD j ru0]) ++ l.drop (j + 1)) := by
  rw [drop_at h]; simp
theorem del_get {F g l : List Ru} {j : Nat} (h : j < l.length) (hl : F.length + g.length = j) : (F ++ g ++ l.drop j).getD j ru0 = l.getD j ru0 := by
  rw [List.getD_eq_getElem?_getD, List.getElem?_append_right (by simp; omega), drop_at h]
  have e : j - (F ++ g).length = 0 := by simp; omega
  rw [e]; rfl
theorem del_set {F g l : List Ru} {j : Nat} (h : j < l.length) (hg : 0 < g.length) : (F ++ g ++ l.drop j).set F.length (l.getD j ru0) = (F ++ [l.getD j ru0]) ++ (g.tail ++ [l.getD j ru0]) ++ l.drop (j + 1) := by
  match g, hg with
  | y :: g, _ =>
    rw [drop_at h]; simp
theorem del_first {l : List Ru} {i : Nat} (h : i < l.length) : l.take i ++ [l.getD i ru0] ++ l.drop (i + 1) = l := by
  rw [List.append_assoc, List.singleton_append, ← drop_at h, List.take_append_drop]
theorem del_at {F g l : List Ru} {j n : Nat} (h : j < l.length) (hn : n = j) (hl : F.length + g.length = j) : ((F ++ g ++ l.drop j).map encQ)[n]? = some (encQ (l.getD j ru0)) := by
  rw [hn]
  rw [List.getElem?_map, List.getElem?_append_right (by simp; omega), drop_at h]
  have e : j - (F ++ g).length = 0 := by simp; omega
  rw [e]; rfl
theorem del_row {F g l : List Ru} {j n : Nat} (h : j < l.length) (hn : n = F.length) (hg : 0 < g.length) : ((F ++ g ++ l.drop j).map encQ).set n (encQ (l.getD j ru0)) = ((F ++ [l.getD j ru0]) ++ (g.tail ++ [l.getD j ru0]) ++ l.drop (j + 1)).map encQ := by
  rw [hn, ← List.map_set, del_set h hg]
theorem del_end {F g l : List Ru} {j n m q : Nat} (h : j = l.length) (hl : F.length + g.length = j) (hn : n = F.length) (hm : m = l.length - F.length) (hq : q = F.length + (l.length - F.length)) : ((F ++ g ++ l.drop j).map encQ).take n ++ (List.replicate m (encQ ru0) ++ ((F ++ g ++ l.drop j).map encQ).drop q) = (F ++ List.replicate g.length ru0).map encQ := by
  subst h hn hm hq
  rw [List.drop_length, List.append_nil, show F.length + (l.length - F.length) = (F ++ g).length by simp; omega, ← List.map_take, ← List.map_drop, List.drop_length, show (F ++ g).take F.length = F by simp, show l.length - F.length = g.length by omega]
  simp
set_option maxHeartbeats 1000000 in
theorem ru_opsp {r : Ru} {op : Int}  : FnF Try.prog 45 true [encQ r, .ptrIn (.agg [iA op]) 0] (.bool (decide (¬ r.op = op))) := by
  by_cases q1 : r.op = op
  · exact fn_e2 Try.func45 400 [.d, .d, .d, .d, .d, .v (.bool false), .d] (ob := [_, (false : Bool) = (decide (¬ r.op = op))]) ⟨(nF q1), (by simp; omega), trivial⟩
  · exact fn_e2 Try.func45 400 [.d, .d, .d, .d, .d, .v (.bool true), .d] (ob := [_, (true : Bool) = (decide (¬ r.op = op))]) ⟨(nT q1), (by simp; omega), trivial⟩

set_option maxHeartbeats 1000000 in
theorem ru_idx {l : List Ru} {op : Int} (hn : l.length ≤ 9223372036854775807) : FnF Try.prog 67 true [.list (l.map encQ), .func (.func 45) [] [.ptrIn (.agg [iA op]) 0]] (iA (idxO op l)) := by
  refine fn_flow Try.func67 (st := (stX (.tuple []) 19 [(0, .list (l.map encQ)), (1, .func (.func 45) [] [.ptrIn (.agg [iV op]) 0])] [])) ?_
  refine OkP.g 400 [.d, .d, .v (iV (l.length : Int)), .d] [0, 1, 7, 8] [] [1, 1, 0] 0 [] (st' := (stX .any 19 [(0, .list (l.map encQ)), (1, .func (.func 45) [] [.ptrIn (.agg [iV op]) 0]), (7, iV (l.length : Int)), (8, iV 0)] [])) (ob := [(iV (((l.map encQ).length : Nat) : Int) : AV) = (iV (l.length : Int) : AV)]) ⟨len_map, trivial⟩ ?_
  refine OkP.loop [1, 1, 0, 0] (fun m_ s_ => ∃ (i : Nat), (i ≤ l.length) ∧ (∀ j, j < i → (l.getD j ru0).op = op) ∧ m_ = l.length - i ∧ s_ = (stX .any 19 [(0, .list (l.map encQ)), (1, .func (.func 45) [] [.ptrIn (.agg [iV op]) 0]), (7, iV (l.length : Int)), (8, iV ((i : Nat) : Int))] [])) (l.length - 0) (⟨0, (by omega), fun j hj => by omega, rfl, rfl⟩) ?_
  rintro m_ s_ ⟨i, hi, hall, rfl, rfl⟩
  by_cases q1 : ((i : Nat) : Int) < (l.length : Int)
  · refine OkP.g 400 [.v (.bool true), .d, .d, .d, .d, .d, .d, .e (encQ (l.getD i ru0)), .d, .f true (.bool (decide (¬ (l.getD i ru0).op = op)))] [0, 1, 5, 7, 8, 16] [] [1, 1, 0, 2, 0, 2] 0 [] (st' := (stX .any 19 [(0, .list (l.map encQ)), (1, .func (.func 45) [] [.ptrIn (.agg [iV op]) 0]), (5, iV ((i : Nat) : Int)), (7, iV (l.length : Int)), (8, iV ((i : Nat) : Int)), (16, .bool (decide (¬ (l.getD i ru0).op = op)))] [])) (ob := [_, 0 ≤ ((i : Nat) : Int), (l.map encQ)[((i : Nat) : Int).toNat]? = some (encQ (l.getD i ru0)), FnF Try.prog 45 true [.agg [iV ((l.getD i ru0).id), iV ((l.getD i ru0).ver), iV ((l.getD i ru0).firm), iV ((l.getD i ru0).op), iV ((l.getD i ru0).alo), iV ((l.getD i ru0).ahi), iV ((l.getD i ru0).blo), iV ((l.getD i ru0).bhi), iV ((l.getD i ru0).lo), iV ((l.getD i ru0).hi)], .ptrIn (.agg [iV op]) 0] (.bool (decide (¬ (l.getD i ru0).op = op)))]) ⟨(bT q1), (by omega), elemN (by omega) (by omega), ru_opsp (r := l.getD i ru0) (op := op), trivial⟩ ?_
    by_cases q2 : ¬ (l.getD i ru0).op = op
    · exact OkP.f 400 [.v (.bool true), .d, .d] (ob := [decide (¬ (l.getD i ru0).op = op) = true, (((i : Nat) : Int) : Int) = idxO op l]) ⟨(unB (bT q2)), (by first | exact (idx_at hall (by omega) (by omega)).symm | exact (idx_none (by rw [show l.length = i by omega]; exact hall)).symm), trivial⟩
    · exact OkP.r 400 [.v (.bool false), .v (iV (((i : Nat) : Int) + 1)), .d] [0, 1, 7, 8] [] [1, 1, 0] (l.length - (i + 1)) (st' := (stX .any 19 [(0, .list (l.map encQ)), (1, .func (.func 45) [] [.ptrIn (.agg [iV op]) 0]), (7, iV (l.length : Int)), (8, iV (((i : Nat) : Int) + 1))] [])) (ob := [decide (¬ (l.getD i ru0).op = op) = false, (iV (IntKind.wrap .i64 (((i : Nat) : Int) + 1)) : AV) = (iV (((i : Nat) : Int) + 1) : AV)]) ⟨(unB (bF q2)), iW (w64 (by omega) (by omega)), trivial⟩ (by omega) (⟨(i + 1), (by omega), op_next hall (by omega), rfl, rfl⟩)
  · exact OkP.f 400 [.v (.bool false), .d, .d] (ob := [_, ((-1) : Int) = idxO op l]) ⟨(bF q1), (by first | exact (idx_at hall (by omega) (by omega)).symm | exact (idx_none (by rw [show l.length = i by omega]; exact hall)).symm), trivial⟩

set_option maxHeartbeats 1000000 in
theorem ru_del {l : List Ru} {op : Int} (hn : l.length ≤ 1000000) : FnL Try.prog 43 [.cells [.int .i64 op], .row 10 (l.map encQ) 0] [.slice 1 0 l.length 0, .func (.func 45) [] [.ptr 0 0]] (.slice 1 0 ((kp op l).length) 0) [.cells [.int .i64 op], .row 10 ((kp op l ++ List.replicate (l.length - (kp op l).length) ru0).map encQ) 0] := by
  have kl : (kp op l).length ≤ l.length := kp_len _ _
  have ki : -1 ≤ idxO op l ∧ idxO op l ≤ l.length := idx_le _ _
  refine fn_flowL Try.func43 (st := (stX (.tuple []) 42 [(0, .slice 1 0 l.length 0), (1, .func (.func 45) [] [.ptr 0 0])] [.cells [iV op], .row 10 (l.map encQ) 0])) ?_
  refine OkP.g 400 [.d, .d, .d, .f true (iV (idxO op l)), .d] [0, 1, 5] [0, 1] [2, 0, 0] 0 [] (st' := (stX .any 42 [(0, .slice 1 0 l.length 0), (1, .func (.func 45) [] [.ptr 0 0]), (5, iV (idxO op l))] [.cells [iV op], .row 10 (l.map encQ) 0])) (ob := [∀ e ∈ (l.map encQ : List AV), idsOf e = [], FnF Try.prog 67 true [.list (((l.map encQ).drop 0).take l.length), .func (.func 45) [] [.ptrIn (.agg [iV op]) 0]] (iV (idxO op l)), ∀ e ∈ (l.map encQ : List AV), idsOf e = []]) ⟨ids_map (fun _ => rfl) _, (by rw [rowOut rfl]; exact ru_idx (l := l) (op := op) (by omega)), ids_map (fun _ => rfl) _, trivial⟩ ?_
  by_cases q1 : (idxO op l) = (-1)
  · refine OkP.e 400 [.d, .v (.bool true), .d, .d, .d] [4] [0, 1] (st' := (stX .any 42 [(4, .slice 1 0 l.length 0)] [.cells [iV op], .row 10 (l.map encQ) 0])) (e := .ret) (ob := [∀ e ∈ (l.map encQ : List AV), idsOf e = [], _]) ⟨ids_map (fun _ => rfl) _, (eT q1), trivial⟩ ?_
    exact ⟨.inr rfl, finL_of (r0 := .slice 1 0 l.length 0) (R0 := [.cells [iV op], .row 10 (l.map encQ) 0]) (ob := [∀ e ∈ (l.map encQ : List AV), idsOf e = []]) 2 ⟨ids_map (fun _ => rfl) _, trivial⟩ (by first | (rw [idx_ops (by omega)]; done) | (rw [hF, show j = l.length by omega, List.take_length]; rfl)) (by first | (rw [idx_ops (by omega)]; simp; done) | (have e_ : F = kp op l := (by rw [hF, show j = l.length by omega, List.take_length]); rw [e_] at hl; rw [e_, show l.length - (kp op l).length = g.length by omega]))⟩
  · refine OkP.g 400 [.d, .v (.bool false), .d, .d, .v (iV ((idxO op l) + 1)), .d] [0, 1, 5, 6] [0, 1] [3, 1, 0] 0 [] (st' := (stX .any 42 [(0, .slice 1 0 l.length 0), (1, .func (.func 45) [] [.ptr 0 0]), (5, iV (idxO op l)), (6, iV ((idxO op l) + 1))] [.cells [iV op], .row 10 (l.map encQ) 0])) (ob := [∀ e ∈ (l.map encQ : List AV), idsOf e = [], _, (iV (IntKind.wrap .i64 ((idxO op l) + 1)) : AV) = (iV ((idxO op l) + 1) : AV)]) ⟨ids_map (fun _ => rfl) _, (eF q1), iW (w64 (by omega) (by omega)), trivial⟩ ?_
    refine OkP.loop [3, 1, 0, 0] (fun m_ s_ => ∃ (j : Nat) (F : List Ru) (g : List Ru), (F = kp op (l.take j)) ∧ (F.length + g.length = j) ∧ (0 < g.length) ∧ (j ≤ l.length) ∧ m_ = l.length - j ∧ s_ = (stX .any 42 [(0, .slice 1 0 l.length 0), (1, .func (.func 45) [] [.ptr 0 0]), (5, iV ((F.length : Nat) : Int)), (6, iV ((j : Nat) : Int))] [.cells [iV op], .row 10 ((F ++ g ++ l.drop j).map encQ) 0])) (l.length - ((idxO op l).toNat + 1)) (⟨((idxO op l).toNat + 1), (l.take (idxO op l).toNat), ([l.getD (idxO op l).toNat ru0]), (idx_take (by omega)).1.symm, (by have h_ := (idx_take (op := op) (l := l) (by omega)).2; simp; omega), (by simp), (by have h_ := (idx_take (op := op) (l := l) (by omega)).2; omega), rfl, by have h1_ := (idx_take (op := op) (l := l) (by omega)).2; rw [show (((l.take (idxO op l).toNat).length : Nat) : Int) = idxO op l by rw [List.length_take]; omega, show (((idxO op l).toNat + 1 : Nat) : Int) = idxO op l + 1 by omega, del_first h1_]⟩) ?_
    rintro m_ s_ ⟨j, F, g, hF, hl, hg, hj, rfl, rfl⟩
    have kL : (F ++ g ++ l.drop j).length = l.length := by simp; omega
    by_cases q2 : ((j : Nat) : Int) < (l.length : Int)
    · by_cases q3 : ¬ (l.getD j ru0).op = op
      · exact OkP.r 400 [.d, .d, .d, .v (.bool true), .d, .d, .d, .d, .e (encQ (l.getD j ru0)), .d, .d, .d, .d, .f true (.bool (decide (¬ (l.getD j ru0).op = op))), .v (.bool false), .d, .d, .v (iV (((j : Nat) : Int) + 1)), .d] [0, 1, 5, 6] [0, 1] [3, 1, 0] (l.length - (j + 1)) (st' := (stX .any 42 [(0, .slice 1 0 l.length 0), (1, .func (.func 45) [] [.ptr 0 0]), (5, iV ((F.length : Nat) : Int)), (6, iV (((j : Nat) : Int) + 1))] [.cells [iV op], .row 10 ((F ++ g ++ l.drop j).map encQ) 0])) (ob := [∀ e ∈ ((F ++ g ++ l.drop j).map encQ : List AV), idsOf e = [], _, 0 ≤ ((j : Nat) : Int) ∧ ((j : Nat) : Int) < (l.length : Nat), ((F ++ g ++ l.drop j).map encQ)[0 + ((j : Nat) : Int).toNat]? = some (encQ (l.getD j ru0) : AV), FnF Try.prog 45 true [.agg [iV ((l.getD j ru0).id), iV ((l.getD j ru0).ver), iV ((l.getD j ru0).firm), iV ((l.getD j ru0).op), iV ((l.getD j ru0).alo), iV ((l.getD j ru0).ahi), iV ((l.getD j ru0).blo), iV ((l.getD j ru0).bhi), iV ((l.getD j ru0).lo), iV ((l.getD j ru0).hi)], .ptrIn (.agg [iV op]) 0] (.bool (decide (¬ (l.getD j ru0).op = op))), (.bool (!(decide (¬ (l.getD j ru0).op = op))) : AV) = (.bool false : AV), (iV (IntKind.wrap .i64 (((j : Nat) : Int) + 1)) : AV) = (iV (((j : Nat) : Int) + 1) : AV)]) ⟨ids_map (fun _ => rfl) _, (bT q2), (by omega), del_at (by omega) (by omega) hl, ru_opsp (r := l.getD j ru0) (op := op), (bNotF (bT q3)), iW (w64 (by omega) (by omega)), trivial⟩ (by omega) (⟨(j + 1), F, (g ++ [l.getD j ru0]), (by rw [kp_no (by omega) (by omega), hF]), (by simp; omega), (by simp), (by omega), rfl, by first | (rw [show (((F ++ [l.getD j ru0]).length : Nat) : Int) = ((F.length : Nat) : Int) + 1 by simp]; rfl) | (rw [← del_skip (by omega)]; rfl)⟩)
      · exact OkP.r 400 [.d, .d, .d, .v (.bool true), .d, .d, .d, .d, .e (encQ (l.getD j ru0)), .d, .d, .d, .d, .f true (.bool (decide (¬ (l.getD j ru0).op = op))), .v (.bool true), .d, .d, .d, .d, .d, .er (encQ ((F ++ g ++ l.drop j).getD F.length ru0)) (((F ++ [l.getD j ru0]) ++ (g.tail ++ [l.getD j ru0]) ++ l.drop (j + 1)).map encQ), .d, .v (iV (((F.length : Nat) : Int) + 1)), .d, .d, .v (iV (((j : Nat) : Int) + 1)), .d] [0, 1, 5, 6] [0, 1] [3, 1, 0] (l.length - (j + 1)) (st' := (stX .any 42 [(0, .slice 1 0 l.length 0), (1, .func (.func 45) [] [.ptr 0 0]), (5, iV (((F.length : Nat) : Int) + 1)), (6, iV (((j : Nat) : Int) + 1))] [.cells [iV op], .row 10 (((F ++ [l.getD j ru0]) ++ (g.tail ++ [l.getD j ru0]) ++ l.drop (j + 1)).map encQ) 0])) (ob := [∀ e ∈ (((F ++ [l.getD j ru0]) ++ (g.tail ++ [l.getD j ru0]) ++ l.drop (j + 1)).map encQ : List AV), idsOf e = [], _, 0 ≤ ((j : Nat) : Int) ∧ ((j : Nat) : Int) < (l.length : Nat), ((F ++ g ++ l.drop j).map encQ)[0 + ((j : Nat) : Int).toNat]? = some (encQ (l.getD j ru0) : AV), FnF Try.prog 45 true [.agg [iV ((l.getD j ru0).id), iV ((l.getD j ru0).ver), iV ((l.getD j ru0).firm), iV ((l.getD j ru0).op), iV ((l.getD j ru0).alo), iV ((l.getD j ru0).ahi), iV ((l.getD j ru0).blo), iV ((l.getD j ru0).bhi), iV ((l.getD j ru0).lo), iV ((l.getD j ru0).hi)], .ptrIn (.agg [iV op]) 0] (.bool (decide (¬ (l.getD j ru0).op = op))), (.bool (!(decide (¬ (l.getD j ru0).op = op))) : AV) = (.bool true : AV), 0 ≤ ((F.length : Nat) : Int) ∧ ((F.length : Nat) : Int) < (l.length : Nat), (((F ++ g ++ l.drop j).map encQ).set (0 + ((F.length : Nat) : Int).toNat) (.agg [iV ((l.getD j ru0).id), iV ((l.getD j ru0).ver), iV ((l.getD j ru0).firm), iV ((l.getD j ru0).op), iV ((l.getD j ru0).alo), iV ((l.getD j ru0).ahi), iV ((l.getD j ru0).blo), iV ((l.getD j ru0).bhi), iV ((l.getD j ru0).lo), iV ((l.getD j ru0).hi)] : AV) : List AV) = ((F ++ [l.getD j ru0]) ++ (g.tail ++ [l.getD j ru0]) ++ l.drop (j + 1)).map encQ, ((F ++ g ++ l.drop j).map encQ)[0 + ((F.length : Nat) : Int).toNat]? = some (encQ ((F ++ g ++ l.drop j).getD F.length ru0)), (iV (IntKind.wrap .i64 (((F.length : Nat) : Int) + 1)) : AV) = (iV (((F.length : Nat) : Int) + 1) : AV), (iV (IntKind.wrap .i64 (((j : Nat) : Int) + 1)) : AV) = (iV (((j : Nat) : Int) + 1) : AV)]) ⟨ids_map (fun _ => rfl) _, (bT q2), (by omega), del_at (by omega) (by omega) hl, ru_opsp (r := l.getD j ru0) (op := op), (bNotT (bF q3)), (by omega), del_row (by omega) (by omega) hg, elemN (by omega) (by omega), iW (w64 (by omega) (by omega)), iW (w64 (by omega) (by omega)), trivial⟩ (by omega) (⟨(j + 1), (F ++ [l.getD j ru0]), (g.tail ++ [l.getD j ru0]), (by rw [kp_yes (by omega) (by omega), hF]), (by simp; omega), (by simp), (by omega), rfl, by first | (rw [show (((F ++ [l.getD j ru0]).length : Nat) : Int) = ((F.length : Nat) : Int) + 1 by simp]; rfl) | (rw [← del_skip (by omega)]; rfl)⟩)
    · refine OkP.e 400 [.d, .d, .d, .v (.bool false), .d, .d, .d, .d, .r ((F ++ List.replicate g.length ru0).map encQ), .d, .d, .d, .d] [4] [0, 1] (st' := (stX .any 42 [(4, .slice 1 0 (((F.length : Nat) : Int).toNat) 0)] [.cells [iV op], .row 10 ((F ++ List.replicate g.length ru0).map encQ) 0])) (e := .ret) (ob := [∀ e ∈ ((F ++ List.replicate g.length ru0).map encQ : List AV), idsOf e = [], _, 0 ≤ ((F.length : Nat) : Int) ∧ ((F.length : Nat) : Int) ≤ ((l.length : Nat) : Int) ∧ ((l.length : Nat) : Int) ≤ (l.length : Nat), ((((F ++ g ++ l.drop j).map encQ).take (0 + ((F.length : Nat) : Int).toNat) ++ (List.replicate (l.length - ((F.length : Nat) : Int).toNat) (.agg [iV 0, iV 0, iV 0, iV 0, iV 0, iV 0, iV 0, iV 0, iV 0, iV 0]) ++ ((F ++ g ++ l.drop j).map encQ).drop ((0 + ((F.length : Nat) : Int).toNat) + (l.length - ((F.length : Nat) : Int).toNat)))) : List AV) = (F ++ List.replicate g.length ru0).map encQ, 0 ≤ (0 : Int) ∧ (0 : Int) ≤ ((F.length : Nat) : Int) ∧ ((F.length : Nat) : Int) ≤ (l.length : Nat)]) ⟨ids_map (fun _ => rfl) _, (bF q2), (by omega), del_end (by omega) hl (by omega) (by omega) (by omega), (by omega), trivial⟩ ?_
      exact ⟨.inr rfl, finL_of (r0 := .slice 1 0 (((F.length : Nat) : Int).toNat) 0) (R0 := [.cells [iV op], .row 10 ((F ++ List.replicate g.length ru0).map encQ) 0]) (ob := [∀ e ∈ ((F ++ List.replicate g.length ru0).map encQ : List AV), idsOf e = []]) 2 ⟨ids_map (fun _ => rfl) _, trivial⟩ (by first | (rw [idx_ops (by omega)]; done) | (rw [hF, show j = l.length by omega, List.take_length]; rfl)) (by first | (rw [idx_ops (by omega)]; simp; done) | (have e_ : F = kp op l := (by rw [hF, show j = l.length by omega, List.take_length]); rw [e_] at hl; rw [e_, show l.length - (kp op l).length = g.length by omega]))⟩

set_option maxHeartbeats 1000000 in
theorem ru_idx0 {op : Int}  : FnF Try.prog 67 true [.list [], .func (.func 45) [] [.ptrIn (.agg [iA op]) 0]] (iA (-1)) := by
  exact fn_e2 Try.func67 400 [.d, .d, .v (iV 0), .d, .d, .d, .d] (ob := [(iV (([] : List AV).length : Int) : AV) = (iV 0 : AV), ((-1) : Int) = (-1)]) ⟨rfl, rfl, trivial⟩

set_option maxHeartbeats 1000000 in
theorem ru_del0 {op : Int}  : FnF Try.prog 43 true [.list [], .func (.func 45) [] [.ptrIn (.agg [iA op]) 0]] (.list []) := by
  exact fn_e2 Try.func43 400 [.d, .d, .d, .f true (iV (-1)), .d, .d, .d, .d, .d, .d] (ob := [FnF Try.prog 67 true [.list [], .func (.func 45) [] [.ptrIn (.agg [iV op]) 0]] (iV (-1)), ([] : List AV) = [], ([] : List AV) = []]) ⟨(ru_idx0 (op := op)), rfl, rfl, trivial⟩

set_option maxHeartbeats 1000000 in
theorem ru_ops0 {op : Int}  : FnF Try.prog 24 true [.list [], iA op] (.list []) := by
  exact fn_e2 Try.func24 400 [.d, .d, .d, .f true (.list []), .d, .f true (.list []), .d] (ob := [FnF Try.prog 44 true [.list []] (.list []), FnF Try.prog 43 true [.list [], .func (.func 45) [] [.ptrIn (.agg [iV op]) 0]] (.list []), ([] : List AV) = [], ([] : List AV) = []]) ⟨cl_ru_w.fnF (by kernel_rfl) (fun e he => by cases he) (.inr fun e he => by cases he) (by simp), (ru_del0 (op := op)), rfl, rfl, trivial⟩

set_option maxHeartbeats 1000000 in
theorem ru_ops1 {l : List Ru} {op : Int} (hn : l.length ≤ 1000000) (hne : l ≠ []) : FnF Try.prog 24 true [.list (l.map encQ), iA op] (.list ((kp op l).map encQ)) := by
  refine fn_flow Try.func24 (st := (stX (.tuple []) 9 [(0, .list (l.map encQ)), (1, iV op)] [])) ?_
  exact OkP.f 400 [.d, .d, .d, .c (.slice 0 0 l.length 0) [.row 10 (l.map encQ) 0], .d, .l [0, 1] (.slice 1 0 ((kp op l).length) 0) [.cells [iV op], .row 10 ((kp op l ++ List.replicate (l.length - (kp op l).length) ru0).map encQ) 0], .d] (ob := [FnM Try.prog 44 [] [.list (l.map encQ)] (.slice 0 0 l.length 0) [.row 10 (l.map encQ) 0], ∀ e ∈ (l.map encQ : List AV), idsOf e = [], FnL Try.prog 43 [.cells [iV op], .row 10 (l.map encQ) 0] [.slice 1 0 l.length 0, .func (.func 45) [] [.ptr 0 0]] (.slice 1 0 ((kp op l).length) 0) [.cells [iV op], .row 10 ((kp op l ++ List.replicate (l.length - (kp op l).length) ru0).map encQ) 0], ∀ e ∈ (l.map encQ : List AV), idsOf e = [], ∀ e ∈ ((kp op l ++ List.replicate (l.length - (kp op l).length) ru0).map encQ : List AV), idsOf e = [], (((kp op l ++ List.replicate (l.length - (kp op l).length) ru0).map encQ : List AV).drop 0).take ((kp op l).length) = (kp op l).map encQ, ∀ e ∈ ((kp op l ++ List.replicate (l.length - (kp op l).length) ru0).map encQ : List AV), plainE e]) ⟨(by rw [show l.length = (l.map encQ).length by simp]; exact cl_ru_w.fnM (by kernel_rfl) (by decide) (fun e he => by obtain ⟨r, _, rfl⟩ := List.mem_map.1 he; exact encQ_c r) (by rw [List.length_map]; omega) (fun e => hne (List.map_eq_nil_iff.1 e))), ids_map (fun _ => rfl) _, ru_del (l := l) (op := op) hn, ids_map (fun _ => rfl) _, ids_map (fun _ => rfl) _, (by first | rfl | (rw [← List.map_drop, ← List.map_take]; simp)), pl_map (fun _ => rfl) (fun _ => rfl) _, trivial⟩

theorem ru_ops {l : List Ru} {op : Int} (hn : l.length ≤ 1000000) : FnF Try.prog 24 true [.list (l.map encQ), .int .i64 op] (.list ((kp op l).map encQ)) := by
  by_cases h : l = []
  · subst h; exact ru_ops0
  · exact ru_ops1 hn h

end Go.Proofs.Ytioiffbnbjalcaa
