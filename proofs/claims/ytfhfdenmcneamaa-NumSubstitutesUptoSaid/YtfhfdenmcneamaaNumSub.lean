/- Expressions put into expressions, walked; NumSubstitutes -/
import Derived.Test.YtfhfdenmcneamaaNumC2
import Derived.Test.YtfhfdenmcneamaaNumEx2
import Derived.Test.YtfhfdenmcneamaaProg
set_option linter.unusedVariables false
set_option linter.unusedSimpArgs false
namespace Go.Proofs.Ytfhfdenmcneamaa
open Go.RowKit
set_option maxRecDepth 100000
mutual
/-- Expression x in the place of variable m. -/
def putE (m : Int) (x : Ex) : Ex → Ex
  | .mk op n v a => if op = 2 ∧ n = m then x else .mk op n v (putEs m x a)
def putEs (m : Int) (x : Ex) : List Ex → List Ex
  | [] => []
  | g :: l => putE m x g :: putEs m x l
end
theorem putEs_map (m : Int) (x : Ex) : ∀ l, putEs m x l = l.map (putE m x)
  | [] => by simp [putEs]
  | g :: l => by rw [putEs, putEs_map m x l]; rfl
theorem putE_yes {m : Int} {x g : Ex} (h : g.op = 2) (h2 : g.n = m) : putE m x g = x := by
  cases g; unfold putE; exact if_pos ⟨h, h2⟩
theorem putE_no {m : Int} {x g : Ex} (h : ¬ (g.op = 2 ∧ g.n = m)) : putE m x g = .mk g.op g.n g.v (g.a.map (putE m x)) := by
  cases g; unfold putE; rw [putEs_map]; exact if_neg h
theorem putE_ok {m : Int} {x : Ex} (hx : OkE x) : ∀ {g : Ex}, OkE g → OkE (putE m x g)
  | .mk op n v a, h => by
    by_cases c : op = 2 ∧ n = m
    · rw [putE_yes (g := .mk op n v a) c.1 c.2]; exact hx
    · rw [putE_no (g := .mk op n v a) c]
      have h2 := h
      unfold OkE at h2 ⊢
      refine ⟨h2.1, h2.2.1, h2.2.2.1, by rw [List.length_map]; exact h2.2.2.2.1, okEs_iff.2 fun y hy => ?_⟩
      obtain ⟨z, hz, rfl⟩ := List.mem_map.1 hy
      exact putE_ok hx (h.mem hz)
termination_by g => g.nodes
decreasing_by exact Ex.nodes_lt hz
theorem putE_none {m : Int} {x : Ex} : putE m x exNone = exNone := by rw [putE_no (by unfold exNone; simp [Ex.op])]; rfl
theorem putE_getE {m : Int} {x : Ex} {l : List Ex} {i : Nat} : getE (l.map (putE m x)) (i : Int) = putE m x (getE l (i : Int)) := by
  rw [getE_getD, getE_getD, List.getD_eq_getElem?_getD, List.getD_eq_getElem?_getD, List.getElem?_map]
  cases h : l[i]? with
  | none => exact putE_none.symm
  | some y => rfl
theorem getI_set {vs : List Int} {k : Nat} {w n : Int} (hk : k < vs.length) : getI (vs.set k w) n = if n = k then w else getI vs n := by
  unfold getI
  by_cases h : n = (k : Int)
  · subst h; simp [hk]
  · rw [if_neg h]
    by_cases h0 : 0 ≤ n
    · rw [if_pos h0, if_pos h0, List.getD_eq_getElem?_getD, List.getD_eq_getElem?_getD, List.getElem?_set_ne (by omega)]
    · rw [if_neg h0, if_neg h0]
theorem putE_eval {vs : List Int} {k : Nat} {x : Ex} (hk : k < vs.length) : ∀ {g : Ex}, evalE vs [] (putE (k : Int) x g) = evalE (vs.set k (evalE vs [] x)) [] g
  | .mk op n v a => by
    by_cases c : op = 2 ∧ n = (k : Int)
    · obtain ⟨rfl, rfl⟩ := c
      rw [putE_yes (m := (k : Int)) (g := .mk 2 k v a) rfl rfl, evalE_eq (vs.set k _) [] (.mk 2 k v a), if_neg (by simp [Ex.op]), if_pos (show (Ex.mk 2 k v a).op = 2 from rfl)]
      show _ = wrap32 (getI _ (k : Int))
      rw [getI_set hk, if_pos rfl, wrap32_of _ (evalE_bd _ _ _)]
    · rw [putE_no (g := .mk op n v a) c, evalE_eq, evalE_eq (vs.set k _)]
      show (if op = 1 then wrap32 v else if op = 2 then wrap32 (getI vs n) else if op = 3 then wrap32 (getI [] n) else if op < 4 ∨ 10 < op then 0 else opV op (evalE vs [] (getE (a.map (putE (k : Int) x)) 0)) (evalE vs [] (getE (a.map (putE (k : Int) x)) 1))) =
        (if op = 1 then wrap32 v else if op = 2 then wrap32 (getI (vs.set k _) n) else if op = 3 then wrap32 (getI [] n) else if op < 4 ∨ 10 < op then 0 else opV op (evalE (vs.set k _) [] (getE a 0)) (evalE (vs.set k _) [] (getE a 1)))
      have one : ∀ i : Nat, evalE vs [] (getE (a.map (putE (k : Int) x)) (i : Int)) = evalE (vs.set k (evalE vs [] x)) [] (getE a (i : Int)) := fun i => by
        rw [putE_getE, getE_getD]
        by_cases hi : i < a.length
        · exact putE_eval hk
        · rw [getD_no hi, putE_none, evalE_none, evalE_none]
      rw [show getE (a.map (putE (k : Int) x)) 0 = getE (a.map (putE (k : Int) x)) ((0 : Nat) : Int) from rfl, show getE (a.map (putE (k : Int) x)) 1 = getE (a.map (putE (k : Int) x)) ((1 : Nat) : Int) from rfl, one 0, one 1]
      by_cases h2 : op = 2
      · rw [if_neg (show ¬ op = 1 by omega), if_neg (show ¬ op = 1 by omega), if_pos h2, if_pos h2, getI_set hk, if_neg (fun q => c ⟨h2, q⟩)]
      · rw [if_neg h2, if_neg h2]; rfl
termination_by g => g.nodes
decreasing_by all_goals exact nodes_get (e := .mk op n v a) hi
theorem put_law {vs : List Int} {n : Int} {x g : Ex} (h0 : 0 ≤ n) (h : n < vs.length) : evalE vs [] (putE n x g) = evalE (vs.set n.toNat (evalE vs [] x)) [] g := by
  have := putE_eval (vs := vs) (k := n.toNat) (x := x) (by omega) (g := g)
  rwa [Int.toNat_of_nonneg h0] at this
theorem putA {n : Int} {x g : Ex} (h : ¬ (g.op = 2 ∧ g.n = n)) : encA (putE n x g) = (g.a.map (putE n x)).map encE := by rw [encA_eq, putE_no h]; rfl
theorem put_row {n : Int} {x : Ex} {l : List Ex} {i k : Nat} (hi : i < l.length) (hk : k = i) : (((l.take i).map (putE n x)).map encE).take k ++ [encE (putE n x (l.getD i exNone))] = ((l.take (i + 1)).map (putE n x)).map encE := by
  subst hk
  rw [List.take_of_length_le (by simp; omega), List.getD_eq_getElem?_getD, List.getElem?_eq_getElem hi]
  have h : l.take (k + 1) = l.take k ++ [l[k]] := by rw [List.take_add_one, List.getElem?_eq_getElem hi]; rfl
  rw [h, List.map_append, List.map_append]; rfl
theorem put_fin {n : Int} {x g : Ex} {i : Nat} (h : ¬ (g.op = 2 ∧ g.n = n)) (hi : i = g.a.length) : ((((g.a.take i).map (putE n x)).map encE).drop 0).take i = encA (putE n x g) := by
  rw [putA h, List.drop_zero, List.take_of_length_le (l := g.a) (by omega), List.take_of_length_le (by simp; omega)]
theorem put_op {n : Int} {x g : Ex} (h : ¬ (g.op = 2 ∧ g.n = n)) : g.op = (putE n x g).op := by rw [putE_no h]; rfl
theorem put_n {n : Int} {x g : Ex} (h : ¬ (g.op = 2 ∧ g.n = n)) : g.n = (putE n x g).n := by rw [putE_no h]; rfl
theorem put_v {n : Int} {x g : Ex} (h : ¬ (g.op = 2 ∧ g.n = n)) : g.v = (putE n x g).v := by rw [putE_no h]; rfl
theorem encE_c (x : Ex) : (cellsOf (encE x)).length = 4 ∧ ∀ c ∈ cellsOf (encE x), isCell c = true := ⟨rfl, by simp [encE, cellsOf, isCell]⟩
theorem encI_c (x : Int) : (cellsOf (encI x)).length = 1 ∧ ∀ c ∈ cellsOf (encI x), isCell c = true := ⟨rfl, by simp [cellsOf, isCell]⟩
theorem allF {α : Type} {f : α → AV} {k : Nat} (h : ∀ x, (cellsOf (f x)).length = k ∧ ∀ c ∈ cellsOf (f x), isCell c = true) {l : List α} : ∀ y ∈ l.map f, (cellsOf y).length = k ∧ ∀ c ∈ cellsOf y, isCell c = true := fun y hy => by
  obtain ⟨x, _, rfl⟩ := List.mem_map.1 hy; exact h x
theorem all1 {f : Ex → AV} {k : Nat} (h : ∀ x, (cellsOf (f x)).length = k ∧ ∀ c ∈ cellsOf (f x), isCell c = true) {q : Ex} : ∀ y ∈ [f q], (cellsOf y).length = k ∧ ∀ c ∈ cellsOf y, isCell c = true := fun y hy => by
  rw [List.mem_singleton.1 hy]; exact h q

theorem slLen {i lo v n k : Nat} (h : n = k) : AV.slice i lo n v = AV.slice i lo k v := by rw [h]
def mP_r01_put0 (g : Ex) (x : Ex) : List Blk := [.cells [iV g.op, iV g.n, iV g.v, .list (encA g)], .cells [iV x.op, iV x.n, iV x.v, .list (encA x)], .cells [iV 0, iV 0, iV 0, .nilslice]]
theorem r01_put0 {g x : Ex} {n : Int} (he : OkE g) (hb : g.nodes ≤ 1099511627776) (ih : ∀ y : Ex, y.nodes < g.nodes → OkE y → FnF Try.prog 17 false [encE y, iV n, encE x] (encE (putE n x y))) : FnF Try.prog 17 false [encE g, .int .i64 n, encE x] (encE (putE n x g)) := by
  have kb : (-9223372036854775808 ≤ g.op ∧ g.op ≤ 9223372036854775807) ∧ (-9223372036854775808 ≤ g.n ∧ g.n ≤ 9223372036854775807) ∧ -9223372036854775808 ≤ g.v ∧ g.v ≤ 9223372036854775807 := he.bd
  have kl : g.a.length ≤ Ex.nodesL g.a := Ex.length_le _
  have kn : g.nodes = Ex.nodesL g.a + 1 := Ex.nodes_a g
  refine fn_flow Try.func17 (st := (stX (.tuple []) 41 [(0, encE g), (1, iV n), (2, encE x)] [])) ?_
  by_cases q1 : g.op = 2
  · by_cases q2 : g.n = n
    · exact OkP.f 400 [.d, .d, .d, .d, .d, .v (.bool true), .d, .d, .d, .d, .v (.bool true), .d, .d, .d, .d] (ob := [_, _, (x.op : Int) = (putE n x g).op, (x.n : Int) = (putE n x g).n, (x.v : Int) = (putE n x g).v, (encA x : List AV) = encA (putE n x g)]) ⟨(eT q1), (eT q2), (by first | (exact put_op (by omega)) | exact put_n (by omega) | exact put_v (by omega) | exact put_fin (by omega) (by omega) | (rw [putE_yes (by omega) (by omega)])), (by first | (exact put_op (by omega)) | exact put_n (by omega) | exact put_v (by omega) | exact put_fin (by omega) (by omega) | (rw [putE_yes (by omega) (by omega)])), (by first | (exact put_op (by omega)) | exact put_n (by omega) | exact put_v (by omega) | exact put_fin (by omega) (by omega) | (rw [putE_yes (by omega) (by omega)])), (by first | (exact put_op (by omega)) | exact put_n (by omega) | exact put_v (by omega) | exact put_fin (by omega) (by omega) | (rw [putE_yes (by omega) (by omega)])), trivial⟩
    · refine OkP.g 400 [.d, .d, .d, .d, .d, .v (.bool true), .d, .d, .d, .d, .v (.bool false), .d, .d, .d, .d, .d] [1, 3, 5, 6, 7, 8] [0, 1, 2, 3] [3, 1, 0] 0 [] (st' := (stX .any 41 [(1, iV n), (3, .ptr 0 0), (5, .ptr 1 0), (6, .ptr 2 0), (7, .slice 3 0 0 0), (8, iV 0)] ((mP_r01_put0 g x) ++ [.row 4 [] 0]))) (ob := [∀ e ∈ ([] : List AV), idsOf e = [], _, _]) ⟨(by simp [idsOf, idsL]), (eT q1), (eF q2), trivial⟩ ?_
      refine OkP.loop [3, 1, 0, 0] (fun m_ s_ => ∃ (i : Nat), (i ≤ g.a.length) ∧ m_ = g.a.length - i ∧ s_ = (stX .any 41 [(1, iV n), (3, .ptr 0 0), (5, .ptr 1 0), (6, .ptr 2 0), (7, .slice 3 0 i 0), (8, iV ((i : Nat) : Int))] ((mP_r01_put0 g x) ++ [.row 4 (((g.a.take i).map (putE n x)).map encE) 0]))) (g.a.length - 0) (⟨0, (by omega), rfl, by simp⟩) ?_
      rintro m_ s_ ⟨i, hi, rfl, rfl⟩
      by_cases q3 : ((i : Nat) : Int) < (g.a.length : Int)
      · exact OkP.r 400 [.d, .d, .d, .v (iV (g.a.length : Int)), .v (.bool true), .d, .d, .d, .d, .d, .e (encE (g.a.getD i exNone)), .d, .d, .d, .f false (encE (putE n x (g.a.getD i exNone))), .d, .r (((g.a.take (i + 1)).map (putE n x)).map encE), .d, .d, .v (iV (((i : Nat) : Int) + 1)), .d] [1, 3, 5, 6, 7, 8] [0, 1, 2, 3] [3, 1, 0] (g.a.length - (i + 1)) (st' := (stX .any 41 [(1, iV n), (3, .ptr 0 0), (5, .ptr 1 0), (6, .ptr 2 0), (7, .slice 3 0 (i + 1) 0), (8, iV (((i : Nat) : Int) + 1))] ((mP_r01_put0 g x) ++ [.row 4 (((g.a.take (i + 1)).map (putE n x)).map encE) 0]))) (ob := [∀ e ∈ (((g.a.take (i + 1)).map (putE n x)).map encE : List AV), idsOf e = [], (iV (((encA g).length : Nat) : Int) : AV) = (iV (g.a.length : Int) : AV), _, 0 ≤ ((i : Nat) : Int), (encA g)[((i : Nat) : Int).toNat]? = some (encE (g.a.getD i exNone)), FnF Try.prog 17 false [.agg [iV ((g.a.getD i exNone).op), iV ((g.a.getD i exNone).n), iV ((g.a.getD i exNone).v), .list (encA (g.a.getD i exNone))], iV n, .agg [iV x.op, iV x.n, iV x.v, .list (encA x)]] (encE (putE n x (g.a.getD i exNone))), ((((g.a.take i).map (putE n x)).map encE).take i ++ [encE (putE n x (g.a.getD i exNone))] : List AV) = ((g.a.take (i + 1)).map (putE n x)).map encE, (2 * (i + ([encE (putE n x (g.a.getD i exNone))] : List AV).length) + 1024) * 48 ≤ 2 ^ 48, ∀ y ∈ ([encE (putE n x (g.a.getD i exNone))] : List AV), (cellsOf y).length = 4 ∧ ∀ c ∈ cellsOf y, isCell c = true, (iV (IntKind.wrap .i64 (((i : Nat) : Int) + 1)) : AV) = (iV (((i : Nat) : Int) + 1) : AV)]) ⟨ids_map (fun _ => rfl) _, lenA, (bT q3), (by omega), elemA (by omega) (by omega), (ih _ (nodes_get (by omega)) (he.get _)), put_row (by omega) (by omega), (by simp; omega), all1 encE_c, iW (w64 (by omega) (by omega)), trivial⟩ (by omega) (⟨(i + 1), (by omega), rfl, by first | rfl | exact slLen (by omega)⟩)
      · exact OkP.f 400 [.d, .d, .d, .v (iV (g.a.length : Int)), .v (.bool false), .d, .d, .d, .d, .d, .d] (ob := [(iV (((encA g).length : Nat) : Int) : AV) = (iV (g.a.length : Int) : AV), _, (g.op : Int) = (putE n x g).op, (g.n : Int) = (putE n x g).n, (g.v : Int) = (putE n x g).v, ((((g.a.take i).map (putE n x)).map encE : List AV).drop 0).take i = encA (putE n x g), ∀ e ∈ (((g.a.take i).map (putE n x)).map encE : List AV), idsOf e = []]) ⟨lenA, (bF q3), (by first | (exact put_op (by omega)) | exact put_n (by omega) | exact put_v (by omega) | exact put_fin (by omega) (by omega) | (rw [putE_yes (by omega) (by omega)])), (by first | (exact put_op (by omega)) | exact put_n (by omega) | exact put_v (by omega) | exact put_fin (by omega) (by omega) | (rw [putE_yes (by omega) (by omega)])), (by first | (exact put_op (by omega)) | exact put_n (by omega) | exact put_v (by omega) | exact put_fin (by omega) (by omega) | (rw [putE_yes (by omega) (by omega)])), (by first | (exact put_op (by omega)) | exact put_n (by omega) | exact put_v (by omega) | exact put_fin (by omega) (by omega) | (rw [putE_yes (by omega) (by omega)])), ids_map (fun _ => rfl) _, trivial⟩
  · refine OkP.g 400 [.d, .d, .d, .d, .d, .v (.bool false), .d, .d, .d, .d, .d, .d, .d, .d, .d, .d] [1, 3, 5, 6, 7, 8] [0, 1, 2, 3] [3, 1, 0] 0 [] (st' := (stX .any 41 [(1, iV n), (3, .ptr 0 0), (5, .ptr 1 0), (6, .ptr 2 0), (7, .slice 3 0 0 0), (8, iV 0)] ((mP_r01_put0 g x) ++ [.row 4 [] 0]))) (ob := [∀ e ∈ ([] : List AV), idsOf e = [], _]) ⟨(by simp [idsOf, idsL]), (eF q1), trivial⟩ ?_
    refine OkP.loop [3, 1, 0, 0] (fun m_ s_ => ∃ (i : Nat), (i ≤ g.a.length) ∧ m_ = g.a.length - i ∧ s_ = (stX .any 41 [(1, iV n), (3, .ptr 0 0), (5, .ptr 1 0), (6, .ptr 2 0), (7, .slice 3 0 i 0), (8, iV ((i : Nat) : Int))] ((mP_r01_put0 g x) ++ [.row 4 (((g.a.take i).map (putE n x)).map encE) 0]))) (g.a.length - 0) (⟨0, (by omega), rfl, by simp⟩) ?_
    rintro m_ s_ ⟨i, hi, rfl, rfl⟩
    by_cases q2 : ((i : Nat) : Int) < (g.a.length : Int)
    · exact OkP.r 400 [.d, .d, .d, .v (iV (g.a.length : Int)), .v (.bool true), .d, .d, .d, .d, .d, .e (encE (g.a.getD i exNone)), .d, .d, .d, .f false (encE (putE n x (g.a.getD i exNone))), .d, .r (((g.a.take (i + 1)).map (putE n x)).map encE), .d, .d, .v (iV (((i : Nat) : Int) + 1)), .d] [1, 3, 5, 6, 7, 8] [0, 1, 2, 3] [3, 1, 0] (g.a.length - (i + 1)) (st' := (stX .any 41 [(1, iV n), (3, .ptr 0 0), (5, .ptr 1 0), (6, .ptr 2 0), (7, .slice 3 0 (i + 1) 0), (8, iV (((i : Nat) : Int) + 1))] ((mP_r01_put0 g x) ++ [.row 4 (((g.a.take (i + 1)).map (putE n x)).map encE) 0]))) (ob := [∀ e ∈ (((g.a.take (i + 1)).map (putE n x)).map encE : List AV), idsOf e = [], (iV (((encA g).length : Nat) : Int) : AV) = (iV (g.a.length : Int) : AV), _, 0 ≤ ((i : Nat) : Int), (encA g)[((i : Nat) : Int).toNat]? = some (encE (g.a.getD i exNone)), FnF Try.prog 17 false [.agg [iV ((g.a.getD i exNone).op), iV ((g.a.getD i exNone).n), iV ((g.a.getD i exNone).v), .list (encA (g.a.getD i exNone))], iV n, .agg [iV x.op, iV x.n, iV x.v, .list (encA x)]] (encE (putE n x (g.a.getD i exNone))), ((((g.a.take i).map (putE n x)).map encE).take i ++ [encE (putE n x (g.a.getD i exNone))] : List AV) = ((g.a.take (i + 1)).map (putE n x)).map encE, (2 * (i + ([encE (putE n x (g.a.getD i exNone))] : List AV).length) + 1024) * 48 ≤ 2 ^ 48, ∀ y ∈ ([encE (putE n x (g.a.getD i exNone))] : List AV), (cellsOf y).length = 4 ∧ ∀ c ∈ cellsOf y, isCell c = true, (iV (IntKind.wrap .i64 (((i : Nat) : Int) + 1)) : AV) = (iV (((i : Nat) : Int) + 1) : AV)]) ⟨ids_map (fun _ => rfl) _, lenA, (bT q2), (by omega), elemA (by omega) (by omega), (ih _ (nodes_get (by omega)) (he.get _)), put_row (by omega) (by omega), (by simp; omega), all1 encE_c, iW (w64 (by omega) (by omega)), trivial⟩ (by omega) (⟨(i + 1), (by omega), rfl, by first | rfl | exact slLen (by omega)⟩)
    · exact OkP.f 400 [.d, .d, .d, .v (iV (g.a.length : Int)), .v (.bool false), .d, .d, .d, .d, .d, .d] (ob := [(iV (((encA g).length : Nat) : Int) : AV) = (iV (g.a.length : Int) : AV), _, (g.op : Int) = (putE n x g).op, (g.n : Int) = (putE n x g).n, (g.v : Int) = (putE n x g).v, ((((g.a.take i).map (putE n x)).map encE : List AV).drop 0).take i = encA (putE n x g), ∀ e ∈ (((g.a.take i).map (putE n x)).map encE : List AV), idsOf e = []]) ⟨lenA, (bF q2), (by first | (exact put_op (by omega)) | exact put_n (by omega) | exact put_v (by omega) | exact put_fin (by omega) (by omega) | (rw [putE_yes (by omega) (by omega)])), (by first | (exact put_op (by omega)) | exact put_n (by omega) | exact put_v (by omega) | exact put_fin (by omega) (by omega) | (rw [putE_yes (by omega) (by omega)])), (by first | (exact put_op (by omega)) | exact put_n (by omega) | exact put_v (by omega) | exact put_fin (by omega) (by omega) | (rw [putE_yes (by omega) (by omega)])), (by first | (exact put_op (by omega)) | exact put_n (by omega) | exact put_v (by omega) | exact put_fin (by omega) (by omega) | (rw [putE_yes (by omega) (by omega)])), ids_map (fun _ => rfl) _, trivial⟩

theorem r01_put {x : Ex} {n : Int} : ∀ {g : Ex}, OkE g → g.nodes ≤ 1099511627776 → FnF Try.prog 17 false [encE g, iV n, encE x] (encE (putE n x g))
  | g, he, hb => r01_put0 he hb (fun y hy hoy => r01_put hoy (Nat.le_trans (Nat.le_of_lt hy) hb))
termination_by g => g.nodes
decreasing_by exact hy

def oP_nsb_law (g : Ex) : List Prop := [FnF Try.prog 10 true [] (.bool true), 0 ≤ (0 : Int) ∧ (0 : Int) < (2 : Nat), FnF Try.prog 15 true [.agg [iV g.op, iV g.n, iV g.v, .list (encA g)]] (iV (g.nodes : Int))]
theorem nsb_law {g x : Ex} {vs : List Int} {n : Int} (he : OkE g) (hx : OkE x) (hb : g.nodes ≤ 1099511627776) (hbx : x.nodes ≤ 1099511627776) (hv : vs.length ≤ 9223372036854775807) (hn : 0 ≤ n ∧ n ≤ 255) : FnF Try.prog 6 true [.agg [.int .i64 g.op, .int .i64 g.n, .int .i64 g.v, .list (encA g), .int .i64 x.op, .int .i64 x.n, .int .i64 x.v, .list (encA x)], .int .u8 n, .list (vs.map encI)] (.bool true) := by
  refine fn_flow Try.func6 (st := (stX (.tuple []) 62 [(0, .agg [iV g.op, iV g.n, iV g.v, .list (encA g), iV x.op, iV x.n, iV x.v, .list (encA x)]), (1, .int .u8 n), (2, .list (vs.map encI))] [])) ?_
  by_cases q1 : (g.nodes : Int) > 100
  · exact OkP.f 400 [.d, .d, .f true (.bool true), .d, .d, .d, .d, .d, .d, .f true (iV (g.nodes : Int)), .v (.bool true), .d, .d, .d, .d, .d, .d, .d, .d, .d, .d, .d, .d, .d, .d, .d, .d, .d, .d, .d, .d, .d] (ob := ((oP_nsb_law g) ++ [_, (true : Bool) = true])) ⟨nx_examples, (by decide), r01_size (e := g) (by omega), (bT q1), rfl, trivial⟩
  · by_cases q2 : (x.nodes : Int) > 100
    · exact OkP.f 400 [.d, .d, .f true (.bool true), .d, .d, .d, .d, .d, .d, .f true (iV (g.nodes : Int)), .v (.bool false), .d, .d, .d, .f true (iV (x.nodes : Int)), .v (.bool true), .d, .d, .d, .d, .d, .d, .d, .d, .d, .d, .d, .d, .d, .d, .d, .d] (ob := ((oP_nsb_law g) ++ [_, 0 ≤ (1 : Int) ∧ (1 : Int) < (2 : Nat), FnF Try.prog 15 true [.agg [iV x.op, iV x.n, iV x.v, .list (encA x)]] (iV (x.nodes : Int)), _, (true : Bool) = true])) ⟨nx_examples, (by decide), r01_size (e := g) (by omega), (bF q1), (by decide), r01_size (e := x) (by omega), (bT q2), rfl, trivial⟩
    · by_cases q3 : (vs.length : Int) > 20
      · exact OkP.f 400 [.d, .d, .f true (.bool true), .d, .d, .d, .d, .d, .d, .f true (iV (g.nodes : Int)), .v (.bool false), .d, .d, .d, .f true (iV (x.nodes : Int)), .v (.bool false), .d, .d, .d, .v (iV (vs.length : Int)), .v (.bool true), .d, .d, .d, .d, .d, .d, .d, .d, .d, .d, .d] (ob := ((oP_nsb_law g) ++ [_, 0 ≤ (1 : Int) ∧ (1 : Int) < (2 : Nat), FnF Try.prog 15 true [.agg [iV x.op, iV x.n, iV x.v, .list (encA x)]] (iV (x.nodes : Int)), _, (iV (((vs.map encI).length : Nat) : Int) : AV) = (iV (vs.length : Int) : AV), _, (true : Bool) = true])) ⟨nx_examples, (by decide), r01_size (e := g) (by omega), (bF q1), (by decide), r01_size (e := x) (by omega), (bF q2), len_map, (bT q3), rfl, trivial⟩
      · by_cases q4 : n ≥ (vs.length : Int)
        · exact OkP.f 400 [.d, .d, .f true (.bool true), .d, .d, .d, .d, .d, .d, .f true (iV (g.nodes : Int)), .v (.bool false), .d, .d, .d, .f true (iV (x.nodes : Int)), .v (.bool false), .d, .d, .d, .v (iV (vs.length : Int)), .v (.bool false), .d, .d, .d, .v (iV n), .d, .v (iV (vs.length : Int)), .v (.bool true), .d, .d, .d, .d] (ob := ((oP_nsb_law g) ++ [_, 0 ≤ (1 : Int) ∧ (1 : Int) < (2 : Nat), FnF Try.prog 15 true [.agg [iV x.op, iV x.n, iV x.v, .list (encA x)]] (iV (x.nodes : Int)), _, (iV (((vs.map encI).length : Nat) : Int) : AV) = (iV (vs.length : Int) : AV), _, (iV (IntKind.wrap .i64 (n)) : AV) = (iV n : AV), (iV (((vs.map encI).length : Nat) : Int) : AV) = (iV (vs.length : Int) : AV), _, (true : Bool) = true])) ⟨nx_examples, (by decide), r01_size (e := g) (by omega), (bF q1), (by decide), r01_size (e := x) (by omega), (bF q2), len_map, (bF q3), iI (w64 (by omega) (by omega)), len_map, (bT q4), rfl, trivial⟩
        · exact OkP.f 400 [.d, .d, .f true (.bool true), .d, .d, .d, .d, .d, .d, .f true (iV (g.nodes : Int)), .v (.bool false), .d, .d, .d, .f true (iV (x.nodes : Int)), .v (.bool false), .d, .d, .d, .v (iV (vs.length : Int)), .v (.bool false), .d, .d, .d, .v (iV n), .d, .v (iV (vs.length : Int)), .v (.bool false), .d, .d, .d, .d, .r (vs.map encI), .v (.slice 1 0 vs.length 1), .d, .d, .d, .d, .d, .f true (iV (evalE vs ([] : List Int) x)), .d, .er (encI (vs.getD n.toNat 0)) ((vs.set n.toNat (evalE vs [] x)).map encI), .d, .d, .d, .v (iV n), .d, .d, .f false (encE (putE n x g)), .d, .f true (iV (evalE vs [] (putE n x g))), .d, .d, .v (.slice 1 0 ((vs.set n.toNat (evalE vs [] x)).length) 1), .f true (iV (evalE (vs.set n.toNat (evalE vs [] x)) [] g)), .v (.bool true), .d, .d, .d, .d] (ob := ((oP_nsb_law g) ++ [_, 0 ≤ (1 : Int) ∧ (1 : Int) < (2 : Nat), FnF Try.prog 15 true [.agg [iV x.op, iV x.n, iV x.v, .list (encA x)]] (iV (x.nodes : Int)), _, (iV (((vs.map encI).length : Nat) : Int) : AV) = (iV (vs.length : Int) : AV), _, (iV (IntKind.wrap .i64 (n)) : AV) = (iV n : AV), (iV (((vs.map encI).length : Nat) : Int) : AV) = (iV (vs.length : Int) : AV), _, (([]).take 0 ++ vs.map encI : List AV) = vs.map encI, (2 * (0 + (vs.map encI : List AV).length) + 1024) * 8 ≤ 2 ^ 48, ∀ y ∈ (vs.map encI : List AV), (cellsOf y).length = 1 ∧ ∀ c ∈ cellsOf y, isCell c = true, (.slice 1 0 (0 + (vs.map encI).length) 1 : AV) = (.slice 1 0 vs.length 1 : AV), 0 ≤ (1 : Int) ∧ (1 : Int) < (2 : Nat), FnF Try.prog 16 true [.agg [iV x.op, iV x.n, iV x.v, .list (encA x)], .list (vs.map encI), .nilslice] (iV (evalE vs ([] : List Int) x)), 0 ≤ n ∧ n < (vs.length : Nat), ((vs.map encI).set (0 + n.toNat) (iV (evalE vs ([] : List Int) x) : AV) : List AV) = (vs.set n.toNat (evalE vs [] x)).map encI, (vs.map encI)[0 + n.toNat]? = some (encI (vs.getD n.toNat 0)), 0 ≤ (0 : Int) ∧ (0 : Int) < (2 : Nat), (iV (IntKind.wrap .i64 (n)) : AV) = (iV n : AV), 0 ≤ (1 : Int) ∧ (1 : Int) < (2 : Nat), FnF Try.prog 17 false [.agg [iV g.op, iV g.n, iV g.v, .list (encA g)], iV n, .agg [iV x.op, iV x.n, iV x.v, .list (encA x)]] (encE (putE n x g)), FnF Try.prog 16 true [encE (putE n x g), .list (vs.map encI), .nilslice] (iV (evalE vs [] (putE n x g))), 0 ≤ (0 : Int) ∧ (0 : Int) < (2 : Nat), (.slice 1 0 vs.length 1 : AV) = (.slice 1 0 ((vs.set n.toNat (evalE vs [] x)).length) 1 : AV), FnF Try.prog 16 true [.agg [iV g.op, iV g.n, iV g.v, .list (encA g)], .list ((((vs.set n.toNat (evalE vs [] x)).map encI).drop 0).take ((vs.set n.toNat (evalE vs [] x)).length)), .nilslice] (iV (evalE (vs.set n.toNat (evalE vs [] x)) [] g)), ∀ e ∈ ((vs.set n.toNat (evalE vs [] x)).map encI : List AV), idsOf e = [], (.bool ((evalE vs [] (putE n x g)) == (evalE (vs.set n.toNat (evalE vs [] x)) [] g)) : AV) = (.bool true : AV), (true : Bool) = true])) ⟨nx_examples, (by decide), r01_size (e := g) (by omega), (bF q1), (by decide), r01_size (e := x) (by omega), (bF q2), len_map, (bF q3), iI (w64 (by omega) (by omega)), len_map, (bF q4), (by simp), (by rw [List.length_map]; simp; omega), allF encI_c, slLen (by simp), (by decide), (FnF.sub (num_eval (vs := vs) (ls := ([] : List Int)) (by omega) (by simp)  (e := x) (by assumption)) ⟨.refl _, .refl _, .nil, trivial⟩), (by omega), (by rw [Nat.zero_add, List.map_set]), elemN (by omega) (by omega), (by decide), iI (w64 (by omega) (by omega)), (by decide), r01_put (g := g) (x := x) (n := n) (by assumption) (by omega), (FnF.sub (num_eval (vs := vs) (ls := []) (by omega) (by simp) (e := putE n x g) (putE_ok hx he)) ⟨.refl _, .refl _, .nil, trivial⟩), (by decide), slLen (by simp), (by rw [rowOut rfl]; exact (FnF.sub (num_eval (vs := (vs.set n.toNat (evalE vs [] x))) (ls := []) (by rw [List.length_set]; omega) (by simp) (e := g) (by assumption)) ⟨.refl _, .refl _, .nil, trivial⟩)), ids_map (fun _ => rfl) _, congrArg AV.bool (by rw [beq_iff_eq]; exact put_law (by omega) (by omega)), rfl, trivial⟩

end Go.Proofs.Ytfhfdenmcneamaa
