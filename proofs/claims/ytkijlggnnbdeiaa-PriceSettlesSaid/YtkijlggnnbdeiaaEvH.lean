/- New rows: literals, make, append. For every program. -/
import Derived.Test.YtkijlggnnbdeiaaEvG
set_option linter.unusedVariables false
set_option linter.unusedSimpArgs false
namespace Go.Proofs.Ytkijlggnnbdeiaa
open Go.RowKit

section
variable {P : Program} {A : Nat → Prop} {m : Mem} {ρ : Nat → Nat} {w : World} {a : Act} {o : Oper} {n0 : Nat}

theorem zero_run {t : TypeId} {z : AV} (h : zeroAV P t = some z) : ∃ zv, (∀ w, (zeroValue t).run P w = .ok zv w) ∧ zv.cells.size = (cellsOf z).length ∧ ∀ (w : World) (B : Nat → Prop) i c, (cellsOf z)[i]? = some c → RI w B c (zv.cells.getD i undef) := by
  unfold zeroAV at h
  obtain ⟨zv, h1, rfl⟩ := Option.map_eq_some_iff.1 h
  obtain ⟨i, h2, h3⟩ := Option.bind_eq_some_iff.1 h1
  refine ⟨zv, fun w => by simp [zeroValue, run_typeInfo h2, h3], (avOf_cells default (fun _ => True) zv).1, fun w B => (avOf_cells w B zv).2⟩

theorem post_row {vs : Array Value} {t : TypeId} {k len cap : Nat} {es : List AV} {ob : List Prop} (hF : Fits A m ρ w) (hn : m n0 = none) {w1 : World} (hw1 : w1.heap = w.heap ∧ w1.os = w.os ∧ w1.tape = w.tape ∧ w1.output = w.output)
    (h : (execOp a.eval o).run P w = .ok (.value (.slice (some ⟨w.heap.size, 0, none⟩) len cap)) (w1.alloc (.cells vs t)))
    (h0 : 0 < k) (hR : RowR A m ρ w k es vs) (hlen : len = es.length) (hcap : len ≤ cap ∧ cap * k ≤ vs.size) : OpPost P A m ρ w a o n0 ⟨.slice n0 0 len 0, none, [.row k es 0], ob⟩ := fun ro K Q hK => by
  obtain ⟨e1, e2, e3, e4⟩ := hw1
  have hE1 : Ext m ρ w m ρ w1 := ⟨e2, e3, e4, by rw [e1]; exact Nat.le_refl _, fun b _ _ => by rw [e1], fun id h => .inl ⟨h, rfl⟩, fun id b hb => ⟨b, hb, .refl b, fun _ => ⟨rfl, fun vs t hv => ⟨vs, by rw [e1]; exact hv, rfl⟩⟩⟩⟩
  have hF1 : Fits A m ρ w1 := ⟨hF.inj, fun id b hb => (hF.at_ id b hb).mono hE1 (by rw [e1])⟩
  have hs1 : w1.heap.size = w.heap.size := by rw [e1]
  obtain ⟨ρ', h1, h2, h3⟩ := step_new hF1 hn (.cells vs t) (.row k es 0) (fun m' ρ' he => ((hR.mono hE1).mono he).fits h0 (heap_new w1 _))
  refine wp_val h (hK _ ρ' _ (hE1.trans h2) h3 ?_)
  rw [← hs1, ← h1]
  refine .slice n0 0 len 0 k es 0 _ len cap (by simp [updM]) (Nat.le_refl _) (fun _ => ⟨by omega, rfl, 0, vs, t, rfl, fun _ => by simp, hcap.1, by rw [h1]; exact heap_new w1 _, by simpa using hcap.2⟩)

/-! ### Literals -/

theorem zeros_row {z : AV} {zv : Value} {k n : Nat} (hk : (cellsOf z).length = k) (h1 : zv.cells.size = (cellsOf z).length) (h2 : ∀ i c, (cellsOf z)[i]? = some c → RI w (Alien A m ρ w) c (zv.cells.getD i undef)) (hk0 : 0 < k) :
    RowR A m ρ w k (List.replicate n z) ((Array.range (n * k)).map (fun q => zv.cells[q % zv.cells.size]!)) := by
  refine ⟨by simp, fun e he => by rw [List.eq_of_mem_replicate he]; exact hk, fun i e j c he hc => ?_⟩
  rw [List.getElem?_replicate] at he
  split at he
  · rename_i hi
    obtain rfl := Option.some.inj he
    have hj := (List.getElem?_eq_some_iff.1 hc).1
    have hlt := idx_lt hi (show j < k by omega)
    have hmod : (i * k + j) % zv.cells.size = j := by
      rw [h1, hk, Nat.mul_comm, Nat.mul_add_mod]
      exact Nat.mod_eq_of_lt (by omega)
    have : ((Array.range (n * k)).map (fun q => zv.cells[q % zv.cells.size]!)).getD (i * k + j) undef = zv.cells.getD j undef := by
      rw [Array.getD_eq_getD_getElem?, Array.getElem?_map, Array.getElem?_range, if_pos hlt]
      simp only [Option.map_some, Option.getD_some, hmod]
      rw [Array.getD_eq_getD_getElem?, getElem!_def, getD_of (show j < zv.cells.size by omega)]
      rfl
    rw [this]
    exact .base (h2 j c hc)
  · cases he

theorem putAt_row {k : Nat} {es : List AV} {vs : Array Value} {ix : Nat} {e : AV} {us : Array Value} (h : RowR A m ρ w k es vs) (hix : ix < es.length) (hl : (cellsOf e).length = k) (hu : CellsR A m ρ w (cellsOf e) us) :
    RowR A m ρ w k (es.set ix e) (putAt vs (ix * k) us) := by
  have hsz := h.size
  have hk : ix * k + us.size ≤ vs.size := by
    rw [hu.1, hl]
    have := Nat.mul_le_mul_right k hix
    rw [Nat.succ_mul] at this; omega
  refine h.set (putAt_size _ _ _) hix hl (fun j c hc => ?_) (fun i j hi hj => ?_)
  · have hj := (List.getElem?_eq_some_iff.1 hc).1
    rw [Array.getD_eq_getD_getElem?, putAt_get _ _ _ hk, if_pos (by rw [hu.1]; omega), Nat.add_sub_cancel_left, ← Array.getD_eq_getD_getElem?]
    exact hu.2 j c hc
  · rw [putAt_get _ _ _ hk, if_neg]
    intro ⟨h7, h8⟩
    rw [hu.1, hl] at h8
    have : i * k + j = ix * k + (i * k + j - ix * k) := by omega
    exact hi (idx_eq hj (show i * k + j - ix * k < k by omega) this).1

theorem fillRow_ok {k : Nat} : ∀ (parts : List (Nat × AV)) (us : List (Nat × Value)) (es : List AV) (vs : Array Value), RowR A m ρ w k es vs → (∀ p ∈ parts, boxable p.2 = true ∧ (cellsOf p.2).length = k ∧ p.1 < es.length) → us.length = parts.length →
    (∀ (i : Nat) (p : Nat × AV), parts[i]? = some p → ∃ u, us[i]? = some (p.1, u) ∧ Rep A m ρ w p.2 u) → ∃ rs, Instr.fill (fun i => some (i * k, k)) vs us = some rs ∧ rs.size = vs.size ∧ RowR A m ρ w k (parts.foldl (fun es p => es.set p.1 p.2) es) rs := by
  intro parts
  induction parts with
  | nil =>
    intro us es vs h _ hl _
    obtain rfl : us = [] := List.length_eq_zero_iff.1 (by simpa using hl)
    exact ⟨vs, rfl, rfl, h⟩
  | cons p parts ih =>
    intro us es vs h hp hl hu
    cases us with
    | nil => simp at hl
    | cons u us =>
      obtain ⟨u1, h1, h2⟩ := hu 0 p rfl
      simp at h1
      subst h1
      obtain ⟨hb, hk, hlt⟩ := hp p (by simp)
      have hbc : CellsR A m ρ w (cellsOf p.2) u1.cells := boxable_cells h2 hb
      have hrow := putAt_row h hlt hk hbc
      obtain ⟨rs, e1, e2, e3⟩ := ih us (es.set p.1 p.2) _ hrow (fun q hq => by rw [List.length_set]; exact hp q (by simp [hq])) (by simpa using hl) (fun i q hq => hu (i + 1) q (by simpa using hq))
      refine ⟨rs, ?_, by rw [e2, putAt_size], e3⟩
      simp only [Instr.fill]
      rw [if_neg]
      · exact e1
      · have h3 := hbc.1
        have h4 := h.size
        have h5 := Nat.mul_le_mul_right k hlt
        rw [Nat.succ_mul] at h5
        simp only [Bool.or_eq_true, decide_eq_true_eq, not_or]
        exact ⟨by simp; omega, by omega⟩

theorem buildSlice_ok {t : TypeId} {len : Nat} {parts : Array (Nat × Operand)} {τ : Nat → AV} {es : List AV} {k : Nat} (hF : Fits A m ρ w) (hn : m n0 = none) (ho : o.op = .buildSlice t len parts)
    (h : evBuildSlice P t len (parts.toList.map fun y => (y.1, opd τ y.2)) = some (es, k)) (hx : ∀ p ∈ parts, Rep A m ρ w (opd τ p.2) (a.eval p.2)) : OpPost P A m ρ w a o n0 ⟨.slice n0 0 len 0, none, [.row k es 0], []⟩ := by
  have hg := parts_get hx
  unfold evBuildSlice at h
  split at h
  · rename_i e hu
    split at h
    · rename_i i z hi hz
      split at h
      · rename_i hc
        simp only [Bool.and_eq_true, Nat.beq_eq] at hc
        obtain ⟨⟨⟨hb, h1⟩, hall⟩, hzl⟩ := hc
        have hb := Nat.le_of_ble_eq_true hb
        have h1 := Nat.le_of_ble_eq_true h1
        cases h
        obtain ⟨zv, hzr, hz1, hz2⟩ := zero_run hz
        have hrow0 := zeros_row (A := A) (m := m) (ρ := ρ) (w := w) (n := len) hzl hz1 (hz2 w _) (by omega)
        obtain ⟨rs, e1, e2, e3⟩ := fillRow_ok _ ((parts.map fun (i, x) => (i, a.eval x)).toList) _ _ hrow0 (fun p hp => by
          have := List.all_eq_true.1 hall p hp
          simp only [Bool.and_eq_true, Nat.beq_eq] at this
          exact ⟨this.1.1, this.1.2, by simpa using Eq.mp Nat.blt_eq this.2⟩) (by simp) hg
        have hlen : (List.foldl (fun es p => es.set p.1 p.2) (List.replicate len z) (parts.toList.map fun y => (y.1, opd τ y.2))).length = len := by
          have : ∀ (l : List (Nat × AV)) (es : List AV), (l.foldl (fun es p => es.set p.1 p.2) es).length = es.length := fun l => by
            induction l with
            | nil => intro es; rfl
            | cons p l ih => intro es; simp [ih]
          rw [this]; simp
        refine post_row hF hn (w1 := w) ⟨rfl, rfl, rfl, rfl⟩ (vs := rs) (t := e) (cap := len) (exec_v (s := Instr.buildSlice t len (parts.map fun (i, x) => (i, a.eval x))) (by unfold execOp; rw [ho]) ?_) (by omega) e3 hlen.symm ⟨Nat.le_refl _, by rw [e2]; simp⟩
        simp only [Instr.buildSlice, Sem.run_bind, run_underlying hu, Result.andThen_ok, run_sizeOf hi]
        rw [if_neg (by omega)]
        split
        · rename_i h0
          have : (Array.range (len * i.size)).map (fun q => (#[] : Array Value)[q % (#[] : Array Value).size]!) = (Array.range (len * i.size)).map (fun q => zv.cells[q % zv.cells.size]!) := by rw [h0]; simp
          simp only [Sem.run_bind, Sem.run_pure, Result.andThen_ok]
          rw [this, e1]
          simp [newRow]
        · simp only [Sem.run_bind, hzr, Result.andThen_ok, Sem.run_pure]
          rw [e1]
          simp [newRow]
      · cases h
    · cases h
  · cases h

/-! ### make -/

theorem makeSlice_ok {t : TypeId} {l c : Operand} {x y : AV} {n k : Nat} {es : List AV} {ob : List Prop} (hF : Fits A m ρ w) (hn : m n0 = none) (ho : o.op = .makeSlice t l c) (h : evMakeSlice P t x y = some (n, es, k, ob)) (hob : AllP ob)
    (hl : Rep A m ρ w x (a.eval l)) (hc : Rep A m ρ w y (a.eval c)) : OpPost P A m ρ w a o n0 ⟨.slice n0 0 n 0, none, [.row k es 0], ob⟩ := by
  unfold evMakeSlice at h
  split at h
  · rename_i e k1 nn k2 cc hu
    split at h
    · rename_i ei z hi hz
      split at h
      · rename_i hcd
        simp only [Bool.and_eq_true, Nat.beq_eq] at hcd
        have h1 := Nat.le_of_ble_eq_true hcd.1
        cases h
        obtain ⟨⟨q0, rfl, q1, q2⟩, -⟩ := hob
        obtain ⟨zv, hzr, hz1, hz2⟩ := zero_run hz
        have hrow0 := zeros_row (A := A) (m := m) (ρ := ρ) (w := w) (n := nn.toNat) hcd.2 hz1 (hz2 w _) (by omega)
        have hwrap : IntKind.i64.wrap nn = nn := by
          simp [IntKind.wrap, IntKind.bits, IntKind.signed]; omega
        refine post_row hF hn (w1 := w) ⟨rfl, rfl, rfl, rfl⟩ (t := e) (cap := nn.toNat) (exec_v (s := Instr.makeSlice t (a.eval l) (a.eval c)) (by unfold execOp; rw [ho]) ?_) (by omega) hrow0 (by simp) ⟨Nat.le_refl _, by simp⟩
        rw [rep_int hl, rep_int hc]
        simp only [Instr.makeSlice, Sem.run_bind, run_underlying hu, Result.andThen_ok, asInt, asIntOf, Sem.run_pure, run_typeInfo hi, hwrap]
        have h11 : ¬ nn < 0 := by omega
        have hq : decide (2 ^ 48 < (ei.bytes : Int) * nn) = false := by simp; omega
        simp only [h11, hq, decide_false, Bool.or_false, Int.lt_irrefl, gt_iff_lt, Bool.false_eq_true, if_false, Sem.run_bind, run_askRoom, Result.andThen_ok, run_sizeOf hi]
        split
        · rename_i h0
          have : (Array.range (nn.toNat * ei.size)).map (fun q => (#[] : Array Value)[q % (#[] : Array Value).size]!) = (Array.range (nn.toNat * ei.size)).map (fun q => zv.cells[q % zv.cells.size]!) := by rw [h0]; simp
          simp only [Sem.run_bind, Sem.run_pure, Result.andThen_ok]
          rw [this]; simp [newRow]
        · simp only [Sem.run_bind, hzr, Result.andThen_ok, Sem.run_pure]
          simp [newRow]
      · cases h
    · cases h
  · cases h

end
end Go.Proofs.Ytkijlggnnbdeiaa
