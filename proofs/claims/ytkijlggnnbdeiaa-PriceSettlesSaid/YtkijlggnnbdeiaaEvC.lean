/- Operations on plain values: what each gives, by the text alone, and that it gives this in every world. For every program. -/
import Derived.Test.YtkijlggnnbdeiaaEvB
set_option linter.unusedVariables false
set_option linter.unusedSimpArgs false
namespace Go.Proofs.Ytkijlggnnbdeiaa
open Go.RowKit

/-- What is told of an operation beside the text: nothing, its value, the element that is met, an index, what a call gives. -/
inductive Sup where
  | d
  | v (x : AV)
  | e (x : AV)
  | i (n : Nat)
  | c (r : AV) (R : List Blk)
  | f (fr : Bool) (r : AV)
  | r (l : List AV)
  | er (x : AV) (l : List AV)
  | x (r : AV)
  | m (r : AV) (M : List Blk)
  | iv (f : FuncId) (fr : Bool) (r : AV)

structure ORes where
  v : AV
  wr : Option (Nat × Blk)
  ns : List Blk
  ob : List Prop

def AllP : List Prop → Prop
  | [] => True
  | p :: l => p ∧ AllP l

theorem AllP.append : ∀ {l l' : List Prop}, AllP (l ++ l') → AllP l ∧ AllP l'
  | [], _, h => ⟨trivial, h⟩
  | _ :: _, _, h => ⟨⟨h.1, (AllP.append h.2).1⟩, (AllP.append h.2).2⟩

def av1 : Value → AV
  | .bool b => .bool b
  | .int k n => .int k n
  | .string s => .str s
  | .pointer none => .nilptr
  | .slice none 0 0 => .nilslice
  | .nilFunc => .nilfunc
  | .nilIface => .niliface
  | .map none => .nilmap
  | _ => .any
def avOf : Value → AV
  | .agg cs => .agg (cs.toList.map av1)
  | .tuple cs => .tuple (cs.toList.map av1)
  | v => av1 v

def opd (τ : Nat → AV) : Operand → AV
  | .tmp t => τ t
  | .const v => avOf v
  | .global _ => .any
  | .func f => .func (.func f) [] []

def isAggT : TypeDesc → Bool
  | .struct _ | .array _ _ => true
  | _ => false

def takeAt (cs : List AV) (off n : Nat) : Option (List AV) := if Nat.ble (off + n) cs.length then some ((cs.drop off).take n) else none

def partAV (P : Program) (t : TypeId) (cs : List AV) (off : Nat) : Option AV :=
  match P.info? t, P.underlying t with
  | some i, some d => if isAggT d then (takeAt cs off i.size).map .agg else cs[off]?
  | _, _ => none

section
variable {A : Nat → Prop} {m : Mem} {ρ : Nat → Nat} {w : World}

theorem av1_ri (w : World) (B : Nat → Prop) (v : Value) : RI w B (av1 v) v := by
  unfold av1
  split <;> constructor

theorem avOf_ri (w : World) (B : Nat → Prop) (v : Value) : RI w B (avOf v) v := by
  unfold avOf
  split
  · refine .agg _ _ (by simp) fun i c hc => ?_
    simp only [List.getElem?_map] at hc
    obtain ⟨x, h1, rfl⟩ := Option.map_eq_some_iff.1 hc
    rename_i cs
    have : cs.getD i undef = x := by
      rw [Array.getD_eq_getD_getElem?, ← Array.getElem?_toList, h1]; rfl
    rw [this]; exact av1_ri w B x
  · refine .tuple _ _ (by simp) fun i c hc => ?_
    simp only [List.getElem?_map] at hc
    obtain ⟨x, h1, rfl⟩ := Option.map_eq_some_iff.1 hc
    rename_i cs
    have : cs.getD i undef = x := by
      rw [Array.getD_eq_getD_getElem?, ← Array.getElem?_toList, h1]; rfl
    rw [this]; exact av1_ri w B x
  · exact av1_ri w B _

theorem avOf_cells (w : World) (B : Nat → Prop) (v : Value) : v.cells.size = (cellsOf (avOf v)).length ∧ ∀ i c, (cellsOf (avOf v))[i]? = some c → RI w B c (v.cells.getD i undef) := by
  have one : ∀ {x : AV} {v : Value}, cellsOf x = [x] → v.cells = #[v] → RI w B x v → v.cells.size = (cellsOf x).length ∧ ∀ i c, (cellsOf x)[i]? = some c → RI w B c (v.cells.getD i undef) := fun h1 h2 hr => by
    rw [h1, h2]
    refine ⟨rfl, fun i c hc => ?_⟩
    cases i with
    | zero => simp at hc; subst hc; simpa using hr
    | succ i => simp at hc
  have hr := avOf_ri w B v
  have hc : cellsOf (av1 v) = [av1 v] := by unfold av1; split <;> rfl
  have hi := av1_ri w B v
  cases v with
  | agg cs =>
    cases hr with
    | agg cs vs hs h => exact ⟨hs, h⟩
  | _ => first | exact one rfl rfl hr | exact one hc rfl hi

theorem rep_opd {τ : Nat → AV} {a : Act} {x : Operand} (h : ∀ t, x = .tmp t → Rep A m ρ w (τ t) (a.eval (.tmp t))) : Rep A m ρ w (opd τ x) (a.eval x) := by
  cases x with
  | tmp t => exact h t rfl
  | const v => exact .base (avOf_ri w _ v)
  | global g => exact .base (.any _)
  | func f => exact .base (.func (.func f) [] [] #[] #[] rfl rfl (fun i x h => by simp at h) (fun i x h => by simp at h))

/-! ### What a value of a shape is -/

theorem rep_bool {b : Bool} {v : Value} (h : Rep A m ρ w (.bool b) v) : v = .bool b := by
  cases h with
  | base h => cases h; rfl
theorem rep_int {k : IntKind} {n : Int} {v : Value} (h : Rep A m ρ w (.int k n) v) : v = .int k n := by
  cases h with
  | base h => cases h; rfl
theorem rep_str {s : ByteArray} {v : Value} (h : Rep A m ρ w (.str s) v) : v = .string s := by
  cases h with
  | base h => cases h; rfl
theorem rep_nilptr {v : Value} (h : Rep A m ρ w .nilptr v) : v = .pointer none := by
  cases h with
  | base h => cases h; rfl
theorem rep_nilslice {v : Value} (h : Rep A m ρ w .nilslice v) : v = .slice none 0 0 := by
  cases h with
  | base h => cases h; rfl
theorem rep_nilfunc {v : Value} (h : Rep A m ρ w .nilfunc v) : v = .nilFunc := by
  cases h with
  | base h => cases h; rfl
theorem rep_niliface {v : Value} (h : Rep A m ρ w .niliface v) : v = .nilIface := by
  cases h with
  | base h => cases h; rfl
theorem rep_nilmap {v : Value} (h : Rep A m ρ w .nilmap v) : v = .map none := by
  cases h with
  | base h => cases h; rfl
theorem rep_ptr {id off : Nat} {v : Value} (h : Rep A m ρ w (.ptr id off) v) : v = .pointer (some ⟨ρ id, off, none⟩) ∧ ∃ cs, m id = some (.cells cs) := by
  cases h with
  | base h => cases h
  | ptr id off cs h => exact ⟨rfl, cs, h⟩
theorem rep_ptrR {id ver i off k : Nat} {es : List AV} {v : Value} (h : Rep A m ρ w (.ptrR id ver i off) v) (hm : m id = some (.row k es ver)) : v = .pointer (some ⟨ρ id, i * k + off, none⟩) ∧ i < es.length := by
  cases h with
  | base h => cases h
  | ptrR id ver i off k' es' ver' a h hle hv =>
    rw [hm] at h; cases h
    obtain ⟨h1, rfl⟩ := hv rfl
    exact ⟨rfl, h1⟩
theorem rep_agg {cs : List AV} {v : Value} (h : Rep A m ρ w (.agg cs) v) : ∃ vs, v = .agg vs ∧ vs.size = cs.length ∧ ∀ i c, cs[i]? = some c → Rep A m ρ w c (vs.getD i undef) := by
  cases h with
  | base h => cases h with
    | agg cs vs hs h => exact ⟨vs, rfl, hs, fun i c hc => .base (h i c hc)⟩
  | agg cs vs hs h => exact ⟨vs, rfl, hs, h⟩
theorem rep_tuple {cs : List AV} {v : Value} (h : Rep A m ρ w (.tuple cs) v) : ∃ vs, v = .tuple vs ∧ vs.size = cs.length ∧ ∀ i c, cs[i]? = some c → Rep A m ρ w c (vs.getD i undef) := by
  cases h with
  | base h => cases h with
    | tuple cs vs hs h => exact ⟨vs, rfl, hs, fun i c hc => .base (h i c hc)⟩
  | tuple cs vs hs h => exact ⟨vs, rfl, hs, h⟩
theorem rep_func {f : Fn} {p c : List AV} {v : Value} (h : Rep A m ρ w (.func f p c) v) : ∃ ps cs, v = .func f ps cs ∧ ps.size = p.length ∧ cs.size = c.length ∧ (∀ i x, p[i]? = some x → Rep A m ρ w x (ps.getD i undef)) ∧ ∀ i x, c[i]? = some x → Rep A m ρ w x (cs.getD i undef) := by
  cases h with
  | base h => cases h with
    | func f p c ps cs hp hc h k => exact ⟨ps, cs, rfl, hp, hc, fun i x hx => .base (h i x hx), fun i x hx => .base (k i x hx)⟩
  | func f p c ps cs hp hc h k => exact ⟨ps, cs, rfl, hp, hc, h, k⟩
theorem rep_iface {t : TypeId} {x : AV} {v : Value} (h : Rep A m ρ w (.iface t x) v) : ∃ u, v = .iface t u ∧ Rep A m ρ w x u := by
  cases h with
  | base h => cases h with
    | iface t x u h => exact ⟨u, rfl, .base h⟩
  | iface t x u h => exact ⟨u, rfl, h⟩
theorem rep_list {l : List AV} {v : Value} (h : Rep A m ρ w (.list l) v) : ∃ a cap, v = .slice a l.length cap ∧ (a = none → cap = 0) := by
  cases h with
  | base h => cases h with
    | lnil a cap h => exact ⟨a, cap, rfl, h⟩
    | list l b o cap k x hc hB hk hx hr => exact ⟨_, cap, rfl, fun h => by cases h⟩
theorem rep_list_at {l : List AV} {v : Value} (h : Rep A m ρ w (.list l) v) (hl : l ≠ []) : ∃ (b o cap k : Nat) (x : Nat → Nat → Value), v = .slice (some ⟨b, o, none⟩) l.length cap ∧ Alien A m ρ w b ∧ (∀ e ∈ l, (cellsOf e).length = k) ∧
    (∀ i e j c, l[i]? = some e → (cellsOf e)[j]? = some c → w.cell? ⟨b, o + i * k + j, none⟩ = some (x i j)) ∧ (∀ i e j c, l[i]? = some e → (cellsOf e)[j]? = some c → RI w (Alien A m ρ w) c (x i j)) := by
  cases h with
  | base h => cases h with
    | lnil => exact absurd rfl hl
    | list l b o cap k x hc hB hk hx hr => exact ⟨b, o, cap, k, x, rfl, hB hl, hk, hx, hr⟩
theorem rep_ptrIn {e : AV} {off : Nat} {v : Value} (h : Rep A m ρ w (.ptrIn e off) v) : ∃ (b o : Nat) (x : Nat → Value), v = .pointer (some ⟨b, o + off, none⟩) ∧ Alien A m ρ w b ∧ (∀ j c, (cellsOf e)[j]? = some c → w.cell? ⟨b, o + j, none⟩ = some (x j)) ∧ ∀ j c, (cellsOf e)[j]? = some c → RI w (Alien A m ρ w) c (x j) := by
  cases h with
  | base h => cases h with
    | ptrIn e off b o x hB hx hr => exact ⟨b, o, x, rfl, hB, hx, hr⟩
theorem rep_slice {id lo len ver k : Nat} {es : List AV} {v : Value} (h : Rep A m ρ w (.slice id lo len ver) v) (hm : m id = some (.row k es ver)) :
    lo + len ≤ es.length ∧ ∃ o c vs t, v = .slice (some ⟨ρ id, o, none⟩) len c ∧ (0 < c → o = lo * k) ∧ len ≤ c ∧ w.heap[ρ id]? = some (.cells vs t (0, 0)) ∧ (lo + c) * k ≤ vs.size := by
  cases h with
  | base h => cases h
  | slice id lo len ver k' es' ver' a n c h hle hv =>
    rw [hm] at h; cases h
    obtain ⟨h1, rfl, o, vs, t, rfl, h2, h3, h4, h5⟩ := hv rfl
    exact ⟨h1, o, c, vs, t, rfl, h2, h3, h4, h5⟩

theorem rep_cell1 {x : AV} {v : Value} (h : Rep A m ρ w x v) (hx : isCell x = true) : v.cells = #[v] ∧ cellsOf x = [x] := by
  have h1 := h.oneC hx
  refine ⟨?_, ?_⟩
  · cases v <;> first | rfl | cases h1
  · cases x <;> first | rfl | cases hx

/-! ### Runs -/

theorem info_underlying {P : Program} {t : TypeId} {d : TypeDesc} (h : P.underlying t = some d) : ∃ i, P.info? t = some i := by
  unfold Program.underlying at h
  cases hi : P.info? t with
  | none => rw [hi] at h; cases h
  | some i => exact ⟨i, rfl⟩

theorem run_typeInfo {P : Program} {t : TypeId} {i : TypeInfo} (h : P.info? t = some i) (w : World) : (typeInfo t).run P w = .ok i w := by simp [typeInfo, h]
theorem run_sizeOf {P : Program} {t : TypeId} {i : TypeInfo} (h : P.info? t = some i) (w : World) : (sizeOf t).run P w = .ok i.size w := by simp [sizeOf, typeInfo, h]
theorem run_isAgg {P : Program} {t : TypeId} {d : TypeDesc} (h : P.underlying t = some d) (w : World) : (isAgg t).run P w = .ok (isAggT d) w := by
  simp only [isAgg, Sem.run_bind, run_underlying h, Result.andThen_ok]
  cases d <;> rfl

theorem addr_add (b o n : Nat) : Addr.add ⟨b, o, none⟩ n = ⟨b, o + n, none⟩ := by
  unfold Addr.add; split
  · subst_vars; rfl
  · rfl

theorem cell_of_cells {w : World} {b : Nat} {vs : Array Value} {t : TypeId} {f : Nat × Nat} (h : w.heap[b]? = some (.cells vs t f)) (i : Nat) : w.cell? ⟨b, i, none⟩ = vs[i]? := by simp [World.cell?, h]
theorem frozen_of_cells {w : World} {b : Nat} {vs : Array Value} {t : TypeId} (h : w.heap[b]? = some (.cells vs t (0, 0))) (i : Nat) : w.frozen? ⟨b, i, none⟩ = false := by simp [World.frozen?, h]

/-- A variable is read. -/
theorem run_loadVar {P : Program} {t : TypeId} {i : TypeInfo} {d : TypeDesc} (hi : P.info? t = some i) (hd : P.underlying t = some d) {b o off : Nat} {cs : List AV} {x : Nat → Value} {r : AV}
    (hr : (if isAggT d then (takeAt cs off i.size).map .agg else cs[off]?) = some r) (hx : ∀ j c, cs[j]? = some c → w.cell? ⟨b, o + j, none⟩ = some (x j)) (hc : ∀ j c, cs[j]? = some c → Rep A m ρ w c (x j)) :
    ∃ v, (loadVar t ⟨b, o + off, none⟩).run P w = .ok v w ∧ Rep A m ρ w r v := by
  simp only [loadVar, Sem.run_bind, run_isAgg hd, Result.andThen_ok]
  cases hg : isAggT d with
  | true =>
    rw [hg, if_pos rfl] at hr
    obtain ⟨l, h1, rfl⟩ := Option.map_eq_some_iff.1 hr
    unfold takeAt at h1
    split at h1
    · rename_i hle
      have hle := Nat.le_of_ble_eq_true hle
      obtain rfl := Option.some.inj h1
      simp only [if_true, Sem.run_bind, run_sizeOf hi, Result.andThen_ok]
      rw [run_loadCells w ⟨b, o + off, none⟩ i.size (fun j => x (off + j)) (fun j hj => by
        rw [addr_add]
        have h2 : off + j < cs.length := by omega
        have := hx (off + j) cs[off + j] (by simp [h2])
        rw [Nat.add_assoc]; exact this)]
      refine ⟨_, rfl, .agg _ _ (by simp; omega) fun j c hj => ?_⟩
      have hj2 : j < i.size := by
        rcases Nat.lt_or_ge j i.size with h | h
        · exact h
        · rw [List.getElem?_eq_none (by simp; omega)] at hj; cases hj
      rw [List.getElem?_take, if_pos hj2, List.getElem?_drop] at hj
      simpa [hj2] using hc (off + j) c hj
    · cases h1
  | false =>
    rw [hg, if_neg (by decide)] at hr
    simp only [Bool.false_eq_true, if_false, run_load, hx off r hr]
    exact ⟨_, rfl, hc off r hr⟩

theorem run_part {P : Program} {t : TypeId} {cs : List AV} {off : Nat} {r : AV} {vs : Array Value} (hr : partAV P t cs off = some r) (hs : vs.size = cs.length) (hc : ∀ j c, cs[j]? = some c → Rep A m ρ w c (vs.getD j undef)) :
    ∃ v, (part t vs off).run P w = .ok v w ∧ Rep A m ρ w r v := by
  unfold partAV at hr
  split at hr
  · rename_i i d hi hd
    simp only [part, Sem.run_bind, run_isAgg hd, Result.andThen_ok]
    cases hg : isAggT d with
    | true =>
      rw [hg, if_pos rfl] at hr
      obtain ⟨l, h1, rfl⟩ := Option.map_eq_some_iff.1 hr
      unfold takeAt at h1
      split at h1
      · rename_i hle
        have hle := Nat.le_of_ble_eq_true hle
        obtain rfl := Option.some.inj h1
        simp only [if_true, Sem.run_bind, run_sizeOf hi, Result.andThen_ok, Sem.run_pure]
        refine ⟨_, rfl, .agg _ _ (by simp; omega) fun j c hj => ?_⟩
        have hj2 : j < i.size := by
          rcases Nat.lt_or_ge j i.size with h | h
          · exact h
          · rw [List.getElem?_eq_none (by simp; omega)] at hj; cases hj
        rw [List.getElem?_take, if_pos hj2, List.getElem?_drop] at hj
        have h3 := hc (off + j) c hj
        have h4 : off + j < vs.size := by omega
        rw [Array.getD_eq_getD_getElem?] at h3 ⊢
        rw [Array.getElem?_extract, if_pos (by omega)]
        exact h3
      · cases h1
    | false =>
      rw [hg, if_neg (by decide)] at hr
      simp only [Bool.false_eq_true, if_false]
      have h4 : off < cs.length := (List.getElem?_eq_some_iff.1 hr).1
      have h5 : vs[off]? = some vs[off] := by simp [show off < vs.size by omega]
      simp only [h5, Sem.run_pure]
      refine ⟨_, rfl, ?_⟩
      have := hc off r hr
      rw [Array.getD_eq_getD_getElem?, h5] at this
      exact this
  · cases hr

end
end Go.Proofs.Ytkijlggnnbdeiaa
