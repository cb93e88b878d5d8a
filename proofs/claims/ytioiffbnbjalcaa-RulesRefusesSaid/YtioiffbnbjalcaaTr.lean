/- Expressions and conditions as values of the evaluator. For every program that has them. -/
import Derived.Test.YtioiffbnbjalcaaNumDef
import Derived.Test.YtioiffbnbjalcaaEvU
import Derived.Test.YtioiffbnbjalcaaEvW
set_option linter.unusedVariables false
set_option linter.unusedSimpArgs false
namespace Go.Proofs.Ytioiffbnbjalcaa
open Go.RowKit
set_option maxRecDepth 100000

abbrev encI (x : Int) : AV := .int .i64 x
mutual
def encA : Ex → List AV
  | .mk _ _ _ a => encAs a
def encAs : List Ex → List AV
  | [] => []
  | x :: t => .agg [.int .i64 x.op, .int .i64 x.n, .int .i64 x.v, .list (encA x)] :: encAs t
end
/-- An expression. -/
def encE (x : Ex) : AV := .agg [.int .i64 x.op, .int .i64 x.n, .int .i64 x.v, .list (encA x)]
theorem encAs_eq : ∀ l : List Ex, encAs l = l.map encE
  | [] => by simp [encAs]
  | x :: t => by rw [encAs, encAs_eq t]; rfl
theorem encA_eq (x : Ex) : encA x = x.a.map encE := by cases x; rw [encA, encAs_eq]; rfl
mutual
def encB : Co → List AV
  | .mk _ _ c => encBs c
def encBs : List Co → List AV
  | [] => []
  | x :: t => .agg [.int .i64 x.op, .list (x.a.map encE), .list (encB x)] :: encBs t
end
/-- A condition. -/
def encC (x : Co) : AV := .agg [.int .i64 x.op, .list (x.a.map encE), .list (encB x)]
theorem encBs_eq : ∀ l : List Co, encBs l = l.map encC
  | [] => by simp [encBs]
  | x :: t => by rw [encBs, encBs_eq t]; rfl
theorem encB_eq (x : Co) : encB x = x.c.map encC := by cases x; rw [encB, encBs_eq]; rfl
theorem elemA {x : Ex} {k n : Nat} (h : k = n) (hn : n < x.a.length) : (encA x)[k]? = some (encE (x.a.getD n exNone)) := by rw [encA_eq]; exact elemN h hn
theorem elemB {x : Co} {k n : Nat} (h : k = n) (hn : n < x.c.length) : (encB x)[k]? = some (encC (x.c.getD n coNone)) := by rw [encB_eq]; exact elemN h hn
theorem lenA {x : Ex} {k : IntKind} : AV.int k (((encA x).length : Nat) : Int) = AV.int k (x.a.length : Int) := by rw [encA_eq]; exact len_map
theorem lenB {x : Co} {k : IntKind} : AV.int k (((encB x).length : Nat) : Int) = AV.int k (x.c.length : Int) := by rw [encB_eq]; exact len_map
theorem cellsE (l : List AV) : (∃ m : List Ex, l = m.map encE) → ∀ y ∈ l, (cellsOf y).length = 4 := by
  rintro ⟨m, rfl⟩ y hy
  obtain ⟨x, _, rfl⟩ := List.mem_map.1 hy; rfl

/-! ### In range -/
def In64 (x : Int) : Prop := -9223372036854775808 ≤ x ∧ x ≤ 9223372036854775807
mutual
def OkE : Ex → Prop
  | .mk op n v a => In64 op ∧ In64 n ∧ In64 v ∧ a.length ≤ 9223372036854775807 ∧ OkEs a
def OkEs : List Ex → Prop
  | [] => True
  | x :: t => OkE x ∧ OkEs t
end
theorem okEs_iff : ∀ {l : List Ex}, OkEs l ↔ ∀ x ∈ l, OkE x
  | [] => by simp [OkEs]
  | x :: t => by rw [OkEs, okEs_iff]; simp
theorem OkE.bd {e : Ex} (h : OkE e) : (-9223372036854775808 ≤ e.op ∧ e.op ≤ 9223372036854775807) ∧ (-9223372036854775808 ≤ e.n ∧ e.n ≤ 9223372036854775807) ∧ -9223372036854775808 ≤ e.v ∧ e.v ≤ 9223372036854775807 := by
  cases e; unfold OkE In64 at h; exact ⟨h.1, h.2.1, h.2.2.1⟩
theorem OkE.mem {e x : Ex} (h : OkE e) (hx : x ∈ e.a) : OkE x := by
  cases e; unfold OkE at h; exact okEs_iff.1 h.2.2.2.2 x hx
theorem OkE.len {e : Ex} (h : OkE e) : e.a.length ≤ 9223372036854775807 := by
  cases e; unfold OkE at h; exact h.2.2.2.1
theorem okE_none : OkE exNone := by unfold exNone OkE In64 OkEs; exact ⟨by decide, by decide, by decide, by simp, trivial⟩
theorem OkE.get {e : Ex} (h : OkE e) (i : Nat) : OkE (e.a.getD i exNone) := by
  rw [List.getD_eq_getElem?_getD]
  cases hx : e.a[i]? with
  | none => exact okE_none
  | some x => exact h.mem (List.mem_of_getElem? hx)
theorem nodes_get {e : Ex} {i : Nat} (hi : i < e.a.length) : (e.a.getD i exNone).nodes < e.nodes := by
  rw [List.getD_eq_getElem?_getD, List.getElem?_eq_getElem hi]; exact Ex.nodes_lt (List.getElem_mem hi)
mutual
def OkC : Co → Prop
  | .mk op a c => In64 op ∧ (∀ x ∈ a, OkE x) ∧ a.length ≤ 9223372036854775807 ∧ c.length ≤ 9223372036854775807 ∧ OkCs c
def OkCs : List Co → Prop
  | [] => True
  | x :: t => OkC x ∧ OkCs t
end
theorem okCs_iff : ∀ {l : List Co}, OkCs l ↔ ∀ x ∈ l, OkC x
  | [] => by simp [OkCs]
  | x :: t => by rw [OkCs, okCs_iff]; simp
theorem OkC.bd {c : Co} (h : OkC c) : -9223372036854775808 ≤ c.op ∧ c.op ≤ 9223372036854775807 := by
  cases c; unfold OkC In64 at h; exact h.1
theorem OkC.memA {c : Co} {x : Ex} (h : OkC c) (hx : x ∈ c.a) : OkE x := by
  cases c; unfold OkC at h; exact h.2.1 x hx
theorem OkC.mem {c x : Co} (h : OkC c) (hx : x ∈ c.c) : OkC x := by
  cases c; unfold OkC at h; exact okCs_iff.1 h.2.2.2.2 x hx
theorem OkC.lens {c : Co} (h : OkC c) : c.a.length ≤ 9223372036854775807 ∧ c.c.length ≤ 9223372036854775807 := by
  cases c; unfold OkC at h; exact ⟨h.2.2.1, h.2.2.2.1⟩
theorem okC_none : OkC coNone := by unfold coNone OkC In64 OkCs; exact ⟨by decide, by simp, by simp, by simp, trivial⟩
theorem OkC.get {c : Co} (h : OkC c) (i : Nat) : OkC (c.c.getD i coNone) := by
  rw [List.getD_eq_getElem?_getD]
  cases hx : c.c[i]? with
  | none => exact okC_none
  | some x => exact h.mem (List.mem_of_getElem? hx)
theorem OkC.getA {c : Co} (h : OkC c) (i : Nat) : OkE (c.a.getD i exNone) := by
  rw [List.getD_eq_getElem?_getD]
  cases hx : c.a[i]? with
  | none => exact okE_none
  | some x => exact h.memA (List.mem_of_getElem? hx)
theorem nodes_getC {c : Co} {i : Nat} (hi : i < c.c.length) : (c.c.getD i coNone).nodes < c.nodes := by
  rw [List.getD_eq_getElem?_getD, List.getElem?_eq_getElem hi]; exact Co.nodes_lt (List.getElem_mem hi)
theorem nodes_getA {c : Co} {i : Nat} (hi : i < c.a.length) : (c.a.getD i exNone).nodes < c.nodes := by
  rw [List.getD_eq_getElem?_getD, List.getElem?_eq_getElem hi]; exact Co.nodes_lt_a (List.getElem_mem hi)
/-! ### Values -/
theorem wrap_i32 (x : Int) : IntKind.i32.wrap x = wrap32 x := by simp [IntKind.wrap, IntKind.bits, IntKind.signed, wrap32]; split <;> omega
theorem getE_getD (l : List Ex) (i : Nat) : getE l (i : Int) = l.getD i exNone := by unfold getE; rw [if_pos (by omega)]; rfl
theorem getC_getD (l : List Co) (i : Nat) : getC l (i : Int) = l.getD i coNone := by unfold getC; rw [if_pos (by omega)]; rfl
theorem getI_in {l : List Int} {i : Int} (h : 0 ≤ i) : l.getD i.toNat 0 = getI l i := by unfold getI; rw [if_pos h]
theorem getI_out {l : List Int} {i : Int} (h : ¬ (0 ≤ i ∧ i < l.length)) : (0 : Int) = getI l i := by
  unfold getI
  split
  · rw [List.getD_eq_getElem?_getD, List.getElem?_eq_none (by omega)]; rfl
  · rfl
section
variable {vs ls : List Int} {e : Ex}
theorem ev_none {i : Nat} (h : ¬ i < e.a.length) : (0 : Int) = evalE vs ls (e.a.getD i exNone) := by rw [List.getD_eq_getElem?_getD, List.getElem?_eq_none (by omega)]; exact (evalE_none vs ls).symm
theorem ev1 (h : e.op = 1) : wrap32 e.v = evalE vs ls e := by rw [evalE_eq, if_pos h]
theorem ev2 (h : e.op = 2) : wrap32 (getI vs e.n) = evalE vs ls e := by rw [evalE_eq, if_neg (by omega), if_pos h]
theorem ev3 (h : e.op = 3) : wrap32 (getI ls e.n) = evalE vs ls e := by rw [evalE_eq, if_neg (by omega), if_neg (by omega), if_pos h]
theorem ev0 (h1 : ¬ e.op = 1) (h2 : ¬ e.op = 2) (h3 : ¬ e.op = 3) (h : e.op < 4 ∨ 10 < e.op) : (0 : Int) = evalE vs ls e := by rw [evalE_eq, if_neg h1, if_neg h2, if_neg h3, if_pos h]
theorem ev4 {x y : Int} (h : 4 ≤ e.op ∧ e.op ≤ 10) (hx : x = evalE vs ls (e.a.getD 0 exNone)) (hy : y = evalE vs ls (e.a.getD 1 exNone)) : opV e.op x y = evalE vs ls e := by
  rw [evalE_eq, if_neg (by omega), if_neg (by omega), if_neg (by omega), if_neg (by omega), hx, hy]
  rw [show getE e.a 0 = e.a.getD 0 exNone from getE_getD e.a 0, show getE e.a 1 = e.a.getD 1 exNone from getE_getD e.a 1]
end
theorem evalE_bd (vs ls : List Int) (e : Ex) : -2147483648 ≤ evalE vs ls e ∧ evalE vs ls e ≤ 2147483647 := by
  rw [evalE_eq]
  have w := fun a => wrap32_bd a
  split
  · exact w _
  · split
    · exact w _
    · split
      · exact w _
      · split
        · decide
        · unfold opV
          have w1 := w (evalE vs ls (getE e.a 0))
          have w2 := w (evalE vs ls (getE e.a 1))
          split
          · exact w _
          · split
            · exact w _
            · split
              · exact w _
              · split
                · split
                  · decide
                  · exact w _
                · split
                  · split
                    · exact w1
                    · exact w _
                  · split
                    · omega
                    · split
                      · omega
                      · decide
/-! ### Conditions -/
section
variable {vs ls : List Int} {c : Co}
theorem evc_none {i : Nat} (h : ¬ i < c.a.length) : (0 : Int) = evalE vs ls (c.a.getD i exNone) := by rw [List.getD_eq_getElem?_getD, List.getElem?_eq_none (by omega)]; exact (evalE_none vs ls).symm
theorem hc_none {i : Nat} (h : ¬ i < c.c.length) : ¬ holdsC vs ls (c.c.getD i coNone) = true := by rw [List.getD_eq_getElem?_getD, List.getElem?_eq_none (by omega)]; simp [holdsC_none]
theorem g_a0 : getE c.a 0 = c.a.getD 0 exNone := getE_getD c.a 0
theorem g_a1 : getE c.a 1 = c.a.getD 1 exNone := getE_getD c.a 1
theorem g_c0 : getC c.c 0 = c.c.getD 0 coNone := getC_getD c.c 0
theorem g_c1 : getC c.c 1 = c.c.getD 1 coNone := getC_getD c.c 1
theorem bf_ {b : Bool} (h : ¬ b = true) : b = false := by cases b; rfl; exact absurd rfl h
theorem hd1 (h : c.op = 1) : true = holdsC vs ls c := by rw [holdsC_eq, if_pos h]
theorem hd2 {x y : Int} (h : c.op = 2) (hx : x = evalE vs ls (c.a.getD 0 exNone)) (hy : y = evalE vs ls (c.a.getD 1 exNone)) : decide (x < y) = holdsC vs ls c := by rw [holdsC_eq, if_neg (by omega), if_pos h, g_a0, g_a1, hx, hy]
theorem hd3 {x y : Int} (h : c.op = 3) (hx : x = evalE vs ls (c.a.getD 0 exNone)) (hy : y = evalE vs ls (c.a.getD 1 exNone)) : decide (x ≤ y) = holdsC vs ls c := by rw [holdsC_eq, if_neg (by omega), if_neg (by omega), if_pos h, g_a0, g_a1, hx, hy]
theorem hd4 {x y : Int} (h : c.op = 4) (hx : x = evalE vs ls (c.a.getD 0 exNone)) (hy : y = evalE vs ls (c.a.getD 1 exNone)) : (x == y) = holdsC vs ls c := by rw [holdsC_eq, if_neg (by omega), if_neg (by omega), if_neg (by omega), if_pos h, g_a0, g_a1, hx, hy]; rfl
theorem hd5t (h : c.op = 5) (hx : ¬ holdsC vs ls (c.c.getD 0 coNone) = true) : true = holdsC vs ls c := by rw [holdsC_eq, if_neg (by omega), if_neg (by omega), if_neg (by omega), if_neg (by omega), if_pos h, g_c0, bf_ hx]; rfl
theorem hd5f (h : c.op = 5) (hx : holdsC vs ls (c.c.getD 0 coNone) = true) : false = holdsC vs ls c := by rw [holdsC_eq, if_neg (by omega), if_neg (by omega), if_neg (by omega), if_neg (by omega), if_pos h, g_c0, hx]; rfl
theorem hd6_ (h : c.op = 6) : holdsC vs ls c = (holdsC vs ls (c.c.getD 0 coNone) && holdsC vs ls (c.c.getD 1 coNone)) := by rw [holdsC_eq, if_neg (by omega), if_neg (by omega), if_neg (by omega), if_neg (by omega), if_neg (by omega), if_pos h, g_c0, g_c1]
theorem hd7_ (h : c.op = 7) : holdsC vs ls c = (holdsC vs ls (c.c.getD 0 coNone) || holdsC vs ls (c.c.getD 1 coNone)) := by rw [holdsC_eq, if_neg (by omega), if_neg (by omega), if_neg (by omega), if_neg (by omega), if_neg (by omega), if_neg (by omega), if_pos h, g_c0, g_c1]
theorem hd6t (h : c.op = 6) (hx : holdsC vs ls (c.c.getD 0 coNone) = true) (hy : holdsC vs ls (c.c.getD 1 coNone) = true) : true = holdsC vs ls c := by rw [hd6_ h, hx, hy]; rfl
theorem hd6f0 (h : c.op = 6) (hx : ¬ holdsC vs ls (c.c.getD 0 coNone) = true) : false = holdsC vs ls c := by rw [hd6_ h, bf_ hx]; rfl
theorem hd6f1 (h : c.op = 6) (hx : ¬ holdsC vs ls (c.c.getD 1 coNone) = true) : false = holdsC vs ls c := by rw [hd6_ h, bf_ hx, Bool.and_false]
theorem hd7t0 (h : c.op = 7) (hx : holdsC vs ls (c.c.getD 0 coNone) = true) : true = holdsC vs ls c := by rw [hd7_ h, hx]; rfl
theorem hd7t1 (h : c.op = 7) (hx : holdsC vs ls (c.c.getD 1 coNone) = true) : true = holdsC vs ls c := by rw [hd7_ h, hx, Bool.or_true]
theorem hd7f (h : c.op = 7) (hx : ¬ holdsC vs ls (c.c.getD 0 coNone) = true) (hy : ¬ holdsC vs ls (c.c.getD 1 coNone) = true) : false = holdsC vs ls c := by rw [hd7_ h, bf_ hx, bf_ hy]; rfl
theorem hd0 (h : c.op < 1 ∨ 7 < c.op) : false = holdsC vs ls c := by rw [holdsC_eq, if_neg (by omega), if_neg (by omega), if_neg (by omega), if_neg (by omega), if_neg (by omega), if_neg (by omega), if_neg (by omega)]
end
/-! ### Sizes, depths -/
theorem nodes_take {l : List Ex} {k : Nat} (hk : k < l.length) : Ex.nodesL (l.take (k + 1)) = Ex.nodesL (l.take k) + (l.getD k exNone).nodes := by
  induction l generalizing k with
  | nil => simp at hk
  | cons x l ih =>
    cases k with
    | zero => simp [Ex.nodesL]
    | succ k =>
      have := ih (k := k) (by simpa using hk)
      simp only [List.take_succ_cons, Ex.nodesL, List.getD_cons_succ]
      omega
theorem nodes_takeC {l : List Co} {k : Nat} (hk : k < l.length) : Co.nodesL (l.take (k + 1)) = Co.nodesL (l.take k) + (l.getD k coNone).nodes := by
  induction l generalizing k with
  | nil => simp at hk
  | cons x l ih =>
    cases k with
    | zero => simp [Co.nodesL]
    | succ k =>
      have := ih (k := k) (by simpa using hk)
      simp only [List.take_succ_cons, Co.nodesL, List.getD_cons_succ]
      omega
theorem nodes_le {l : List Ex} {k : Nat} (hk : k < l.length) : (l.getD k exNone).nodes ≤ Ex.nodesL l := by
  rw [List.getD_eq_getElem?_getD, List.getElem?_eq_getElem hk]; exact Ex.nodes_mem (List.getElem_mem hk)
theorem nodes_leC {l : List Co} {k : Nat} (hk : k < l.length) : (l.getD k coNone).nodes ≤ Co.nodesL l := by
  rw [List.getD_eq_getElem?_getD, List.getElem?_eq_getElem hk]; exact Co.nodes_mem (List.getElem_mem hk)
theorem nodes_takele (l : List Ex) (k : Nat) : Ex.nodesL (l.take k) ≤ Ex.nodesL l := by
  induction l generalizing k with
  | nil => simp
  | cons x l ih =>
    cases k with
    | zero => simp [Ex.nodesL]
    | succ k => have := ih k; simp only [List.take_succ_cons, Ex.nodesL]; omega
theorem nodes_takeleC (l : List Co) (k : Nat) : Co.nodesL (l.take k) ≤ Co.nodesL l := by
  induction l generalizing k with
  | nil => simp
  | cons x l ih =>
    cases k with
    | zero => simp [Co.nodesL]
    | succ k => have := ih k; simp only [List.take_succ_cons, Co.nodesL]; omega
theorem length_leC (l : List Co) : l.length ≤ Co.nodesL l := by
  induction l with
  | nil => simp
  | cons x l ih => have := x.nodes_pos; simp [Co.nodesL]; omega
theorem maxN_at {α : Type} {f : α → Nat} {l : List α} {k : Nat} {d : α} (h : k < l.length) : maxN ((l.take (k + 1)).map f) = max (maxN ((l.take k).map f)) (f (l.getD k d)) := by
  rw [maxN_take f l k h, List.getD_eq_getElem?_getD, List.getElem?_eq_getElem h]; rfl
theorem opnds_get {e : Ex} {k : Nat} (h : k < (opnds e).length) : ((opnds e).getD k exNone).nodes < e.nodes := by
  rw [List.getD_eq_getElem?_getD, List.getElem?_eq_getElem h]; exact Ex.nodes_lt (opnds_sub (List.getElem_mem h))
theorem opnds_ok {e : Ex} (he : OkE e) (k : Nat) : OkE ((opnds e).getD k exNone) := by
  rw [List.getD_eq_getElem?_getD]
  cases hx : (opnds e)[k]? with
  | none => exact okE_none
  | some x => exact he.mem (opnds_sub (List.mem_of_getElem? hx))
theorem opnds_len (e : Ex) : (opnds e).length ≤ 2 := by unfold opnds; split <;> simp <;> omega
theorem partsA_get {c : Co} {k : Nat} (h : k < (partsA c).length) : ((partsA c).getD k exNone).nodes < c.nodes := by
  rw [List.getD_eq_getElem?_getD, List.getElem?_eq_getElem h]; exact Co.nodes_lt_a (partsA_sub (List.getElem_mem h))
theorem partsA_ok {c : Co} (hc : OkC c) (k : Nat) : OkE ((partsA c).getD k exNone) := by
  rw [List.getD_eq_getElem?_getD]
  cases hx : (partsA c)[k]? with
  | none => exact okE_none
  | some x => exact hc.memA (partsA_sub (List.mem_of_getElem? hx))
theorem partsA_len (c : Co) : (partsA c).length ≤ 2 := by unfold partsA; split <;> simp <;> omega
theorem partsC_get {c : Co} {k : Nat} (h : k < (partsC c).length) : ((partsC c).getD k coNone).nodes < c.nodes := by
  rw [List.getD_eq_getElem?_getD, List.getElem?_eq_getElem h]; exact Co.nodes_lt (partsC_sub (List.getElem_mem h))
theorem partsC_ok {c : Co} (hc : OkC c) (k : Nat) : OkC ((partsC c).getD k coNone) := by
  rw [List.getD_eq_getElem?_getD]
  cases hx : (partsC c)[k]? with
  | none => exact okC_none
  | some x => exact hc.mem (partsC_sub (List.mem_of_getElem? hx))
theorem partsC_len (c : Co) : (partsC c).length ≤ 2 := by unfold partsC; split <;> (try split) <;> simp <;> omega
theorem mul_bd32 {a b : Int} (ha : -2147483648 ≤ a ∧ a ≤ 2147483647) (hb : -2147483648 ≤ b ∧ b ≤ 2147483647) : -4611686018427387904 ≤ a * b ∧ a * b ≤ 4611686018427387904 := by
  have h := Nat.mul_le_mul (show a.natAbs ≤ 2147483648 by omega) (show b.natAbs ≤ 2147483648 by omega)
  rw [← Int.natAbs_mul] at h
  omega
theorem tdiv_bd32 {a b : Int} (ha : -2147483648 ≤ a ∧ a ≤ 2147483647) : -2147483648 ≤ a.tdiv b ∧ a.tdiv b ≤ 2147483648 := by
  have h : (a.tdiv b).natAbs ≤ a.natAbs := by rw [Int.natAbs_tdiv]; exact Nat.div_le_self ..
  omega
theorem tmod_neg {a m : Int} (h : ¬ 0 ≤ a) : a.tmod m = -((-a) % m) := by
  have h1 := Int.tmod_eq_emod_of_nonneg (a := -a) (b := m) (by omega)
  rw [Int.neg_tmod] at h1
  omega
theorem tmod_bd32 {a b : Int} (ha : -2147483648 ≤ a ∧ a ≤ 2147483647) : -2147483648 ≤ a.tmod b ∧ a.tmod b ≤ 2147483647 := by
  have h : (a.tmod b).natAbs ≤ a.natAbs := by rw [Int.natAbs_tmod]; exact Nat.mod_le _ _
  by_cases hn : a.tmod b = 2147483648
  · exfalso
    rcases Int.lt_or_le a 0 with h1 | h1
    · have := Int.tmod_nonneg b (a := -a) (by omega)
      rw [Int.neg_tmod] at this
      omega
    · omega
  · omega
/-! ### Missing operands -/
def exOne : Ex := .mk 1 0 0 []
def opdE (l : List Ex) (i : Nat) : Ex := if i < l.length then l.getD i exNone else exOne
theorem opdE_eval {vs ls : List Int} {l : List Ex} {i : Nat} : evalE vs ls (opdE l i) = evalE vs ls (l.getD i exNone) := by
  unfold opdE
  split
  · rfl
  · rw [List.getD_eq_getElem?_getD, List.getElem?_eq_none (by omega)]
    show evalE vs ls exOne = evalE vs ls exNone
    rw [evalE_none, evalE_eq, if_pos (show exOne.op = 1 from rfl)]; kernel_rfl
theorem okE_one : OkE exOne := by unfold exOne OkE In64 OkEs; exact ⟨by decide, by decide, by decide, by simp, trivial⟩
theorem opdE_ok {l : List Ex} (h : ∀ x ∈ l, OkE x) (i : Nat) : OkE (opdE l i) := by
  unfold opdE
  split
  · rename_i hi
    rw [List.getD_eq_getElem?_getD, List.getElem?_eq_getElem hi]; exact h _ (List.getElem_mem hi)
  · exact okE_one
theorem getD_no {α : Type} {l : List α} {i : Nat} {d : α} (h : ¬ i < l.length) : l.getD i d = d := by rw [List.getD_eq_getElem?_getD, List.getElem?_eq_none (by omega)]; rfl
theorem encA_no {l : List Ex} {i : Nat} (h : ¬ i < l.length) : [] = encA (l.getD i exNone) := by rw [getD_no h]; rfl
theorem encB_no {l : List Co} {i : Nat} (h : ¬ i < l.length) : [] = encB (l.getD i coNone) := by rw [getD_no h]; rfl
theorem opd_in {l : List Ex} {i : Nat} (h : i < l.length) : l.getD i exNone = opdE l i := by unfold opdE; rw [if_pos h]
theorem opd_no {l : List Ex} {i : Nat} (h : ¬ i < l.length) : exOne = opdE l i := by unfold opdE; rw [if_neg h]
end Go.Proofs.Ytioiffbnbjalcaa
