/- New rows: literals, make, append. For every program. append. For every program. append, joined; and every operation without a call. For every program. Every operation without a call: that it gives what the text says. For every program. -/
import Derived.Test.YtglfbdicclepcaaEvG
set_option linter.unusedVariables false
set_option linter.unusedSimpArgs false
namespace Go.Proofs.Ytglfbdicclepcaa
set_option maxRecDepth 100000
section
open Go.RowKit

section
variable {P : Program} {A : Nat → Prop} {m : Mem} {ρ : Nat → Nat} {w : World} {a : Act} {o : Oper} {n0 : Nat}

theorem zero_run {t : TypeId} {z : AV} (h : zeroAV P t = some z) : ∃ zv, (∀ w, (zeroValue t).run P w = .ok zv w) ∧ zv.cells.size = (cellsOf z).length ∧ ∀ (w : World) (B : Nat → Prop) i c, (cellsOf z)[i]? = some c → RI w B c (zv.cells.getD i undef) := by
  unfold zeroAV at h
  obtain ⟨zv, h1, rfl⟩ := Option.map_eq_some_iff.1 h
  obtain ⟨i, h2, h3⟩ := Option.bind_eq_some_iff.1 h1
  refine ⟨zv, fun w => by simp [zeroValue, run_typeInfo h2, h3], (avOf_cells default (fun _ => True) zv).1, fun w B => (avOf_cells w B zv).2⟩

theorem post_row {vs : Array Value} {t : TypeId} {k len cap : Nat} {es : List AV} {ob : List Prop} (hF : Fits A m ρ w) (hn : m n0 = none) {w1 : World} (hw1 : w1.heap = w.heap ∧ w1.os = w.os ∧ w1.tape = w.tape ∧ w1.output = w.output)
    (h : (execOp a.eval o).run P w = .ok (.value (.slice (some ⟨w.heap.size, 0, none⟩) len cap)) (w1.alloc (.cells vs t)))
    (h0 : 0 < k) (hR : RowR A m ρ w k es vs) (hlen : len = es.length) (hcap : len ≤ cap ∧ cap * k ≤ vs.size) : OpPost P A m ρ w a o n0 ⟨.slice n0 0 len 0, none, [.row k es 0], ob⟩ := fun ro K Q hK => by
  obtain ⟨e1, e2, e3, e4⟩ := hw1
  have hE1 : Ext m ρ w m ρ w1 := ⟨e2, e3, e4, by rw [e1]; exact Nat.le_refl _, fun b _ _ => by rw [e1], fun id h => .inl ⟨h, rfl⟩, fun id b hb => ⟨b, hb, .refl b, fun _ => ⟨rfl, fun vs t hv => ⟨vs, t, by rw [e1]; exact hv, rfl⟩⟩⟩⟩
  have hF1 : Fits A m ρ w1 := ⟨hF.inj, fun id b hb => (hF.at_ id b hb).mono hE1 (by rw [e1])⟩
  have hs1 : w1.heap.size = w.heap.size := by rw [e1]
  obtain ⟨ρ', h1, h2, h3⟩ := step_new hF1 hn (.cells vs t) (.row k es 0) (fun m' ρ' he => ((hR.mono hE1).mono he).fits h0 (heap_new w1 _))
  refine wp_val h (hK _ ρ' _ (hE1.trans h2) h3 ?_)
  rw [← hs1, ← h1]
  refine .slice n0 0 len 0 k es 0 _ len cap (by simp [updM]) (Nat.le_refl _) (fun _ => ⟨by omega, rfl, 0, vs, t, rfl, fun _ => by simp, hcap.1, by rw [h1]; exact heap_new w1 _, by simpa using hcap.2⟩)

/-! ### Literals -/

theorem zeros_row {z : AV} {zv : Value} {k n : Nat} (hk : (cellsOf z).length = k) (h1 : zv.cells.size = (cellsOf z).length) (h2 : ∀ i c, (cellsOf z)[i]? = some c → RI w (Alien A m ρ w) c (zv.cells.getD i undef)) (hk0 : 0 < k) :
    RowR A m ρ w k (List.replicate n z) ((Array.range (n * k)).map (fun q => zv.cells[q % zv.cells.size]!)) := by
  refine ⟨by simp, fun e he => by rw [List.eq_of_mem_replicate he]; exact hk, fun i e j c he hc => ?_⟩
  rw [List.getElem?_replicate] at he
  split at he
  · rename_i hi
    obtain rfl := Option.some.inj he
    have hj := (List.getElem?_eq_some_iff.1 hc).1
    have hlt := idx_lt hi (show j < k by omega)
    have hmod : (i * k + j) % zv.cells.size = j := by
      rw [h1, hk, Nat.mul_comm, Nat.mul_add_mod]
      exact Nat.mod_eq_of_lt (by omega)
    have : ((Array.range (n * k)).map (fun q => zv.cells[q % zv.cells.size]!)).getD (i * k + j) undef = zv.cells.getD j undef := by
      rw [Array.getD_eq_getD_getElem?, Array.getElem?_map, Array.getElem?_range, if_pos hlt]
      simp only [Option.map_some, Option.getD_some, hmod]
      rw [Array.getD_eq_getD_getElem?, getElem!_def, getD_of (show j < zv.cells.size by omega)]
      rfl
    rw [this]
    exact .base (h2 j c hc)
  · cases he

theorem putAt_row {k : Nat} {es : List AV} {vs : Array Value} {ix : Nat} {e : AV} {us : Array Value} (h : RowR A m ρ w k es vs) (hix : ix < es.length) (hl : (cellsOf e).length = k) (hu : CellsR A m ρ w (cellsOf e) us) :
    RowR A m ρ w k (es.set ix e) (putAt vs (ix * k) us) := by
  have hsz := h.size
  have hk : ix * k + us.size ≤ vs.size := by
    rw [hu.1, hl]
    have := Nat.mul_le_mul_right k hix
    rw [Nat.succ_mul] at this; omega
  refine h.set (putAt_size _ _ _) hix hl (fun j c hc => ?_) (fun i j hi hj => ?_)
  · have hj := (List.getElem?_eq_some_iff.1 hc).1
    rw [Array.getD_eq_getD_getElem?, putAt_get _ _ _ hk, if_pos (by rw [hu.1]; omega), Nat.add_sub_cancel_left, ← Array.getD_eq_getD_getElem?]
    exact hu.2 j c hc
  · rw [putAt_get _ _ _ hk, if_neg]
    intro ⟨h7, h8⟩
    rw [hu.1, hl] at h8
    have : i * k + j = ix * k + (i * k + j - ix * k) := by omega
    exact hi (idx_eq hj (show i * k + j - ix * k < k by omega) this).1

theorem fillRow_ok {k : Nat} : ∀ (parts : List (Nat × AV)) (us : List (Nat × Value)) (es : List AV) (vs : Array Value), RowR A m ρ w k es vs → (∀ p ∈ parts, boxable p.2 = true ∧ (cellsOf p.2).length = k ∧ p.1 < es.length) → us.length = parts.length →
    (∀ (i : Nat) (p : Nat × AV), parts[i]? = some p → ∃ u, us[i]? = some (p.1, u) ∧ Rep A m ρ w p.2 u) → ∃ rs, Instr.fill (fun i => some (i * k, k)) vs us = some rs ∧ rs.size = vs.size ∧ RowR A m ρ w k (parts.foldl (fun es p => es.set p.1 p.2) es) rs := by
  intro parts
  induction parts with
  | nil =>
    intro us es vs h _ hl _
    obtain rfl : us = [] := List.length_eq_zero_iff.1 (by simpa using hl)
    exact ⟨vs, rfl, rfl, h⟩
  | cons p parts ih =>
    intro us es vs h hp hl hu
    cases us with
    | nil => simp at hl
    | cons u us =>
      obtain ⟨u1, h1, h2⟩ := hu 0 p rfl
      simp at h1
      subst h1
      obtain ⟨hb, hk, hlt⟩ := hp p (by simp)
      have hbc : CellsR A m ρ w (cellsOf p.2) u1.cells := boxable_cells h2 hb
      have hrow := putAt_row h hlt hk hbc
      obtain ⟨rs, e1, e2, e3⟩ := ih us (es.set p.1 p.2) _ hrow (fun q hq => by rw [List.length_set]; exact hp q (by simp [hq])) (by simpa using hl) (fun i q hq => hu (i + 1) q (by simpa using hq))
      refine ⟨rs, ?_, by rw [e2, putAt_size], e3⟩
      simp only [Instr.fill]
      rw [if_neg]
      · exact e1
      · have h3 := hbc.1
        have h4 := h.size
        have h5 := Nat.mul_le_mul_right k hlt
        rw [Nat.succ_mul] at h5
        simp only [Bool.or_eq_true, decide_eq_true_eq, not_or]
        exact ⟨by simp; omega, by omega⟩

theorem buildSlice_ok {t : TypeId} {len : Nat} {parts : Array (Nat × Operand)} {τ : Nat → AV} {es : List AV} {k : Nat} (hF : Fits A m ρ w) (hn : m n0 = none) (ho : o.op = .buildSlice t len parts)
    (h : evBuildSlice P t len (parts.toList.map fun y => (y.1, opd τ y.2)) = some (es, k)) (hx : ∀ p ∈ parts, Rep A m ρ w (opd τ p.2) (a.eval p.2)) : OpPost P A m ρ w a o n0 ⟨.slice n0 0 len 0, none, [.row k es 0], []⟩ := by
  have hg := parts_get hx
  unfold evBuildSlice at h
  split at h
  · rename_i e hu
    split at h
    · rename_i i z hi hz
      split at h
      · rename_i hc
        simp only [Bool.and_eq_true, Nat.beq_eq] at hc
        obtain ⟨⟨⟨hb, h1⟩, hall⟩, hzl⟩ := hc
        have hb := Nat.le_of_ble_eq_true hb
        have h1 := Nat.le_of_ble_eq_true h1
        cases h
        obtain ⟨zv, hzr, hz1, hz2⟩ := zero_run hz
        have hrow0 := zeros_row (A := A) (m := m) (ρ := ρ) (w := w) (n := len) hzl hz1 (hz2 w _) (by omega)
        obtain ⟨rs, e1, e2, e3⟩ := fillRow_ok _ ((parts.map fun (i, x) => (i, a.eval x)).toList) _ _ hrow0 (fun p hp => by
          have := List.all_eq_true.1 hall p hp
          simp only [Bool.and_eq_true, Nat.beq_eq] at this
          exact ⟨this.1.1, this.1.2, by simpa using Eq.mp Nat.blt_eq this.2⟩) (by simp) hg
        have hlen : (List.foldl (fun es p => es.set p.1 p.2) (List.replicate len z) (parts.toList.map fun y => (y.1, opd τ y.2))).length = len := by
          have : ∀ (l : List (Nat × AV)) (es : List AV), (l.foldl (fun es p => es.set p.1 p.2) es).length = es.length := fun l => by
            induction l with
            | nil => intro es; rfl
            | cons p l ih => intro es; simp [ih]
          rw [this]; simp
        refine post_row hF hn (w1 := w) ⟨rfl, rfl, rfl, rfl⟩ (vs := rs) (t := e) (cap := len) (exec_v (s := Instr.buildSlice t len (parts.map fun (i, x) => (i, a.eval x))) (by unfold execOp; rw [ho]) ?_) (by omega) e3 hlen.symm ⟨Nat.le_refl _, by rw [e2]; simp⟩
        simp only [Instr.buildSlice, Sem.run_bind, run_underlying hu, Result.andThen_ok, run_sizeOf hi]
        rw [if_neg (by omega)]
        split
        · rename_i h0
          have : (Array.range (len * i.size)).map (fun q => (#[] : Array Value)[q % (#[] : Array Value).size]!) = (Array.range (len * i.size)).map (fun q => zv.cells[q % zv.cells.size]!) := by rw [h0]; simp
          simp only [Sem.run_bind, Sem.run_pure, Result.andThen_ok]
          rw [this, e1]
          simp [newRow]
        · simp only [Sem.run_bind, hzr, Result.andThen_ok, Sem.run_pure]
          rw [e1]
          simp [newRow]
      · cases h
    · cases h
  · cases h

/-! ### make -/

theorem makeSlice_ok {t : TypeId} {l c : Operand} {x y : AV} {n k : Nat} {es : List AV} {ob : List Prop} (hF : Fits A m ρ w) (hn : m n0 = none) (ho : o.op = .makeSlice t l c) (h : evMakeSlice P t x y = some (n, es, k, ob)) (hob : AllP ob)
    (hl : Rep A m ρ w x (a.eval l)) (hc : Rep A m ρ w y (a.eval c)) : OpPost P A m ρ w a o n0 ⟨.slice n0 0 n 0, none, [.row k es 0], ob⟩ := by
  unfold evMakeSlice at h
  split at h
  · rename_i e k1 nn k2 cc hu
    split at h
    · rename_i ei z hi hz
      split at h
      · rename_i hcd
        simp only [Bool.and_eq_true, Nat.beq_eq] at hcd
        have h1 := Nat.le_of_ble_eq_true hcd.1
        cases h
        obtain ⟨⟨q0, rfl, q1, q2⟩, -⟩ := hob
        obtain ⟨zv, hzr, hz1, hz2⟩ := zero_run hz
        have hrow0 := zeros_row (A := A) (m := m) (ρ := ρ) (w := w) (n := nn.toNat) hcd.2 hz1 (hz2 w _) (by omega)
        have hwrap : IntKind.i64.wrap nn = nn := by
          simp [IntKind.wrap, IntKind.bits, IntKind.signed]; omega
        refine post_row hF hn (w1 := w) ⟨rfl, rfl, rfl, rfl⟩ (t := e) (cap := nn.toNat) (exec_v (s := Instr.makeSlice t (a.eval l) (a.eval c)) (by unfold execOp; rw [ho]) ?_) (by omega) hrow0 (by simp) ⟨Nat.le_refl _, by simp⟩
        rw [rep_int hl, rep_int hc]
        simp only [Instr.makeSlice, Sem.run_bind, run_underlying hu, Result.andThen_ok, asInt, asIntOf, Sem.run_pure, run_typeInfo hi, hwrap]
        have h11 : ¬ nn < 0 := by omega
        have hq : decide (2 ^ 48 < (ei.bytes : Int) * nn) = false := by simp; omega
        simp only [h11, hq, decide_false, Bool.or_false, Int.lt_irrefl, gt_iff_lt, Bool.false_eq_true, if_false, Sem.run_bind, run_askRoom, Result.andThen_ok, run_sizeOf hi]
        split
        · rename_i h0
          have : (Array.range (nn.toNat * ei.size)).map (fun q => (#[] : Array Value)[q % (#[] : Array Value).size]!) = (Array.range (nn.toNat * ei.size)).map (fun q => zv.cells[q % zv.cells.size]!) := by rw [h0]; simp
          simp only [Sem.run_bind, Sem.run_pure, Result.andThen_ok]
          rw [this]; simp [newRow]
        · simp only [Sem.run_bind, hzr, Result.andThen_ok, Sem.run_pure]
          simp [newRow]
      · cases h
    · cases h
  · cases h

end
end
section
open Go.RowKit

section
variable {P : Program} {A : Nat → Prop} {m : Mem} {ρ : Nat → Nat} {w : World} {a : Act} {o : Oper} {n0 : Nat}

theorem RowR.app {k n : Nat} {es ys : List AV} {vs U vs' : Array Value} (h : RowR A m ρ w k es vs) (hn : n ≤ es.length) (hy : RowR A m ρ w k ys U) (hs : (n + ys.length) * k ≤ vs'.size)
    (h1 : ∀ q, q < n * k → vs'[q]? = vs[q]?) (h2 : ∀ q, q < ys.length * k → vs'[n * k + q]? = U[q]?) : RowR A m ρ w k (es.take n ++ ys) vs' := by
  have hlen : (es.take n).length = n := by simp; omega
  refine ⟨by rw [List.length_append, hlen]; exact hs, fun e he => ?_, fun i e j c he hc => ?_⟩
  · rcases List.mem_append.1 he with he | he
    · exact h.len e (List.mem_of_mem_take he)
    · exact hy.len e he
  · by_cases hi : i < n
    · rw [List.getElem?_append_left (by omega), List.getElem?_take, if_pos hi] at he
      have := (h.lt he hc).2
      rw [Array.getD_eq_getD_getElem?, h1 _ (idx_lt hi this), ← Array.getD_eq_getD_getElem?]
      exact h.at_ i e j c he hc
    · rw [List.getElem?_append_right (by omega), hlen] at he
      have h3 := (hy.lt he hc).2
      have h4 := (List.getElem?_eq_some_iff.1 he).1
      have h5 := idx_lt h4 h3
      have h6 : i * k + j = n * k + ((i - n) * k + j) := by
        rw [← Nat.add_assoc, ← Nat.add_mul, Nat.add_sub_cancel' (by omega)]
      rw [h6, Array.getD_eq_getD_getElem?, h2 _ h5, ← Array.getD_eq_getD_getElem?]
      exact hy.at_ _ e j c he hc

theorem ofRange {n : Nat} (f : Nat → Value) {q : Nat} (h : q < n) : (((List.range n).map f).toArray)[q]? = some (f q) := by simp [h]

theorem firstCells_ok {x : AV} {ys : List AV} {k : Nat} {look : Mem} {v : Value} (hF : Fits A m ρ w) (hl : ∀ id b, look id = some b → m id = some b) (h : elemsOf look x = some ys) (hk : ∀ y ∈ ys, (cellsOf y).length = k) (h0 : 0 < k) (hx : Rep A m ρ w x v) :
    ∃ U : Array Value, (∀ w1, (Builtin.lenOf v).run P w1 = .ok ys.length w1) ∧ (∀ w1 : World, w1.heap = w.heap → (Builtin.firstCells k ys.length v).run P w1 = .ok U w1) ∧ RowR A m ρ w k ys U ∧ U.size = ys.length * k := by
  have cellq : ∀ {w1 : World} {ad : Addr}, w1.heap = w.heap → w1.cell? ad = w.cell? ad := fun h => by simp [World.cell?, h]
  have nil : ∀ (c : Nat) (a' : Option Addr), v = .slice a' 0 c → ys = [] → ∃ U : Array Value, (∀ w1, (Builtin.lenOf v).run P w1 = .ok ys.length w1) ∧ (∀ w1 : World, w1.heap = w.heap → (Builtin.firstCells k ys.length v).run P w1 = .ok U w1) ∧ RowR A m ρ w k ys U ∧ U.size = ys.length * k := fun c a' hv hy => by
    subst hv hy
    refine ⟨#[], fun w1 => rfl, fun w1 _ => ?_, ⟨by simp, by simp, fun i e j c he => by simp at he⟩, by simp⟩
    cases a' with
    | none => rfl
    | some ad => simp [Builtin.firstCells, loadCells, loadCellsFrom]
  unfold elemsOf at h
  split at h
  · rename_i l
    obtain rfl := Option.some.inj h
    by_cases hnil : l = []
    · subst hnil
      obtain ⟨a', cap, rfl, _⟩ := rep_list hx
      exact nil _ _ rfl rfl
    · obtain ⟨b, o', cap, k', x, rfl, hB, hkk, hxx, hr⟩ := rep_list_at hx hnil
      have hke : k' = k := by
        cases l with
        | nil => exact absurd rfl hnil
        | cons e0 l => rw [← hkk e0 (by simp), hk e0 (by simp)]
      subst hke
      have hdiv : ∀ q, q < l.length * k' → q / k' < l.length ∧ q % k' < k' ∧ q = q / k' * k' + q % k' := fun q hq => ⟨(Nat.div_lt_iff_lt_mul h0).2 hq, Nat.mod_lt _ h0, by rw [Nat.mul_comm]; exact (Nat.div_add_mod q k').symm⟩
      refine ⟨((List.range (l.length * k')).map fun q => x (q / k') (q % k')).toArray, fun w1 => rfl, fun w1 hw1 => ?_, ⟨by simp, hk, fun i e j c he hc => ?_⟩, by simp⟩
      · simp only [Builtin.firstCells]
        rw [run_loadCells w1 ⟨b, o', none⟩ (l.length * k') (fun q => x (q / k') (q % k')) (fun q hq => ?_)]
        obtain ⟨h1, h2, h3⟩ := hdiv q hq
        rw [addr_add, cellq hw1]
        have he : l[q / k']? = some l[q / k'] := by simp [h1]
        have hlen := hkk l[q / k'] (List.getElem_mem h1)
        have := hxx (q / k') l[q / k'] (q % k') ((cellsOf l[q / k'])[q % k']'(by omega)) he (by simp)
        rw [← this]
        congr 2
        omega
      · have h1 := (List.getElem?_eq_some_iff.1 he).1
        have h2 := (List.getElem?_eq_some_iff.1 hc).1
        have h3 := hkk e (List.mem_iff_getElem?.2 ⟨i, he⟩)
        have h4 := idx_lt h1 (show j < k' by omega)
        rw [Array.getD_eq_getD_getElem?, ofRange _ h4]
        have h5 : (i * k' + j) / k' = i ∧ (i * k' + j) % k' = j := by
          obtain ⟨e1, e2, e3⟩ := hdiv _ h4
          have := idx_eq (show j < k' by omega) e2 e3
          exact ⟨this.1.symm, this.2.symm⟩
        rw [h5.1, h5.2]
        exact .base (hr i e j c he hc)
  · obtain rfl := Option.some.inj h
    rw [rep_nilslice hx] at nil ⊢
    exact nil _ _ rfl rfl
  · rename_i id lo len ver
    split at h
    · rename_i k' es ver' hlk
      split at h
      · rename_i hc
        obtain rfl := Nat.eq_of_beq_eq_true hc
        obtain rfl := Option.some.inj h
        have hm := hl _ _ hlk
        obtain ⟨h3, o', c, vs, t', rfl, h4, h5, h6, h7⟩ := rep_slice hx hm
        obtain ⟨h8, vs2, t2, h9, hR⟩ := row_of_fits hF hm
        rw [h6] at h9
        cases h9
        have hlen : ((es.drop lo).take len).length = len := by simp; omega
        by_cases hz : len = 0
        · subst hz
          exact nil _ _ rfl (List.length_eq_zero_iff.1 hlen)
        · have ho := h4 (by omega)
          have hkk : k' = k := by
            have h10 : ((es.drop lo).take len)[0]? = some es[lo] := by
              rw [List.getElem?_take, if_pos (by omega), List.getElem?_drop]; simp
            rw [← hk _ (List.mem_iff_getElem?.2 ⟨0, h10⟩), hR.len _ (List.getElem_mem _)]
          subst hkk
          have hsz : (lo + len) * k' ≤ vs.size := by
            have := Nat.mul_le_mul_right k' (show lo + len ≤ lo + c by omega)
            omega
          rw [Nat.add_mul] at hsz
          refine ⟨((List.range (len * k')).map fun q => vs.getD (lo * k' + q) undef).toArray, fun w1 => by rw [hlen]; rfl, fun w1 hw1 => ?_, ⟨by rw [hlen]; simp, hk, fun i e j c' he hc' => ?_⟩, by rw [hlen]; simp⟩
          · rw [hlen]
            simp only [Builtin.firstCells]
            rw [run_loadCells w1 ⟨ρ id, o', none⟩ (len * k') (fun q => vs.getD (lo * k' + q) undef) (fun q hq => ?_)]
            rw [addr_add, cellq hw1, cell_of_cells h6, ho]
            exact getD_of (by omega)
          · rw [List.getElem?_take] at he
            split at he
            · rename_i hi
              rw [List.getElem?_drop] at he
              have h11 := (hR.lt he hc').2
              rw [Array.getD_eq_getD_getElem?, ofRange _ (idx_lt hi h11), Option.getD_some]
              have := hR.at_ _ e j c' he hc'
              rw [Nat.add_mul, Nat.add_assoc] at this
              exact this
            · cases he
      · cases h
    · cases h
  · cases h

theorem zeroCells_size (zero : Array Value) (n : Nat) : (Builtin.zeroCells zero n).size = n * zero.size := by simp [Builtin.zeroCells]

theorem growBy_le (n : Nat) : ∀ (r c : Nat), Builtin.growBy n r c ≤ max c (n + (n + 768) / 4) := by
  intro r
  induction r with
  | zero => intro c; simp [Builtin.growBy]; omega
  | succ r ih =>
    intro c
    simp only [Builtin.growBy]
    split
    · omega
    · have := ih (c + (c + 768) / 4)
      omega
theorem nextcap_le {need c : Nat} (h : c < need) : 4 * Builtin.nextslicecap need c ≤ 5 * need + 4096 := by
  unfold Builtin.nextslicecap
  split
  · omega
  · split
    · omega
    · have := growBy_le need 4 c
      omega

theorem exec_append {t t2 : TypeId} {x y : Operand} (ho : o.op = .call { callee := .builtin .append, args := #[x, y], argTypes := #[t, t2] }) {v : Value} {w' : World} (h : (Builtin.append_ #[t, t2] o.type #[a.eval x, a.eval y]).run P w = .ok v w') :
    (execOp a.eval o).run P w = .ok (.value v) w' := by
  unfold execOp
  rw [ho]
  simp [resolve, invoke, builtin, h]

theorem notInt_ok {t : TypeId} (h : notInt (P.underlying t) = true) : ∃ d, P.underlying t = some d ∧ ∀ k, d ≠ .int k := by
  cases hd : P.underlying t with
  | none => rw [hd] at h; cases h
  | some d =>
    rw [hd] at h
    exact ⟨d, rfl, fun k e => by subst e; cases h⟩

section
variable {t t2 ty : TypeId} {e : TypeId} {ei : TypeInfo} {zv : Value} {d2 : TypeDesc} {base : Option Addr} {len cap n : Nat} {vy : Value} {U : Array Value}

theorem append_in (hu : P.underlying t = some (.slice e)) (hi : P.info? e = some ei) (hd2 : P.underlying t2 = some d2) (hd2n : ∀ k, d2 ≠ .int k) (u1 : ∀ w1, (Builtin.lenOf vy).run P w1 = .ok n w1) (h : len + n ≤ cap)
    (u : (Builtin.firstCells ei.size n vy).run P w = .ok U w) {w' : World} (st : match base with | some ad => (storeCells (ad.add (len * ei.size)) U.toList).run P w = .ok () w' | none => w' = w) :
    (Builtin.append_ #[t, t2] ty #[.slice base len cap, vy]).run P w = .ok (.slice base (len + n) cap) w' := by
  cases d2 <;> first
    | exact absurd rfl (hd2n _)
    | (simp only [Builtin.append_, List.getElem?_toArray, List.getElem?_cons_zero, List.getElem?_cons_succ, Sem.run_bind, run_underlying hu, Result.andThen_ok, run_sizeOf hi, run_underlying hd2, Sem.run_pure, Bool.false_eq_true, if_false, u1, Bool.not_false, if_true]
       rw [if_pos h]
       simp only [Sem.run_bind, u, Result.andThen_ok]
       cases base with
       | none => simp only at st; subst st; rfl
       | some ad => simp only at st; simp only [Sem.run_bind, st, Result.andThen_ok]; rfl)

theorem append_out (hu : P.underlying t = some (.slice e)) (hi : P.info? e = some ei) (hd2 : P.underlying t2 = some d2) (hd2n : ∀ k, d2 ≠ .int k) (u1 : ∀ w1, (Builtin.lenOf vy).run P w1 = .ok n w1) (h : ¬ len + n ≤ cap)
    (hz : ∀ w, (zeroValue e).run P w = .ok zv w) (hby : 1 ≤ ei.bytes) (hb : (5 * (len + n) + 4096) * ei.bytes ≤ 2 ^ 50) {O : Array Value} (u : ∀ w1 : World, w1.heap = w.heap → (Builtin.firstCells ei.size n vy).run P w1 = .ok U w1)
    (uo : ∀ w1 : World, w1.heap = w.heap → (Builtin.firstCells ei.size len (.slice base len cap)).run P w1 = .ok O w1) :
    ∃ c rest, len + n ≤ c ∧ rest.size = (c - (len + n)) * zv.cells.size ∧ (Builtin.append_ #[t, t2] ty #[.slice base len cap, vy]).run P w = .ok (.slice (some ⟨w.heap.size, 0, none⟩) (len + n) c) (w.drew.alloc (.cells (O ++ U ++ rest) e)) := by
  refine ⟨(Question.appendCap (len + n) cap e).cut (w.tape w.drawn (Question.appendCap (len + n) cap e)), _, by simp only [Question.cut]; omega, zeroCells_size _ _, ?_⟩
  have hnc : ¬ (Builtin.nextslicecap (len + n) cap * ei.bytes > 2 ^ 48) := by
    have h1 := nextcap_le (show cap < len + n by omega)
    have := Nat.mul_le_mul_right ei.bytes h1
    rw [Nat.mul_assoc] at this
    omega
  have hb0 : ¬ ei.bytes = 0 := by omega
  cases d2 <;> first
    | exact absurd rfl (hd2n _)
    | (simp only [Builtin.append_, List.getElem?_toArray, List.getElem?_cons_zero, List.getElem?_cons_succ, Sem.run_bind, run_underlying hu, Result.andThen_ok, run_sizeOf hi, run_underlying hd2, Sem.run_pure, Bool.false_eq_true, if_false, u1, Bool.not_false, if_true]
       rw [if_neg h]
       simp only [Sem.run_bind, run_typeInfo hi, Result.andThen_ok, hb0, or_self, and_false, if_false, hnc, run_choose, Question.forced, Bool.false_eq_true, run_askRoom]
       rw [uo { w with drawn := w.drawn + 1 } rfl]
       simp only [Result.andThen_ok]
       rw [u { w with drawn := w.drawn + 1 } rfl]
       simp only [Result.andThen_ok, hz, newRow, Sem.run_bind, run_newObj, Sem.run_pure]
       rfl)
end

end
end
section
open Go.RowKit

section
variable {P : Program} {A : Nat → Prop} {m : Mem} {ρ : Nat → Nat} {w : World} {a : Act} {o : Oper} {n0 : Nat}

theorem row_one {k : Nat} {ys : List AV} {U : Array Value} (hk0 : 0 < k) (hU : RowR A m ρ w k ys U) (u3 : U.size = ys.length * k) (hys : ∀ y ∈ ys, (cellsOf y).length = k ∧ ∀ c ∈ cellsOf y, isCell c = true) : ∀ u ∈ U.toList, oneC u = true := fun u hu => by
  obtain ⟨q, hq⟩ := List.mem_iff_getElem?.1 hu
  have hlt := (List.getElem?_eq_some_iff.1 hq).1
  rw [Array.length_toList, u3] at hlt
  have e1 : q / k < ys.length := (Nat.div_lt_iff_lt_mul hk0).2 hlt
  have e2 := Nat.mod_lt q hk0
  have e3 : q / k * k + q % k = q := by rw [Nat.mul_comm]; exact Nat.div_add_mod q k
  have hy0 := hys ys[q / k] (List.getElem_mem e1)
  have hc0 : q % k < (cellsOf ys[q / k]).length := by omega
  have := hU.at_ (q / k) ys[q / k] (q % k) (cellsOf ys[q / k])[q % k] (by simp) (by simp)
  rw [e3, Array.getD_eq_getD_getElem?, ← Array.getElem?_toList, hq] at this
  exact this.oneC (hy0.2 _ (List.getElem_mem hc0))

theorem drew_ext (m : Mem) (ρ : Nat → Nat) (w : World) : Ext m ρ w m ρ w.drew := ⟨rfl, rfl, rfl, Nat.le_refl _, fun _ _ _ => rfl, fun _ h => .inl ⟨h, rfl⟩, fun _ b h => ⟨b, h, .refl b, fun _ => ⟨rfl, fun vs t hv => ⟨vs, t, hv, rfl⟩⟩⟩⟩
theorem drew_fits (h : Fits A m ρ w) : Fits A m ρ w.drew := ⟨h.inj, fun id b hb => (h.at_ id b hb).mono (drew_ext m ρ w) rfl⟩

theorem append_old {t t2 : TypeId} {x y : Operand} {e : TypeId} {ei : TypeInfo} {z : AV} {ys es : List AV} {look : Mem} {id len ver : Nat} {vx : AV} (hF : Fits A m ρ w) (hl : ∀ id b, look id = some b → m id = some b)
    (ho : o.op = .call { callee := .builtin .append, args := #[x, y], argTypes := #[t, t2] }) (hu : P.underlying t = some (.slice e)) (hi : P.info? e = some ei) (hz : zeroAV P e = some z) (he : elemsOf look vx = some ys)
    (h1 : 1 ≤ ei.size) (h2 : 1 ≤ ei.bytes) (h3 : (cellsOf z).length = ei.size) (h4 : notInt (P.underlying t2) = true) (hm : m id = some (.row ei.size es ver)) (hb : (5 * (len + ys.length) + 4096) * ei.bytes ≤ 2 ^ 50)
    (hys : ∀ y ∈ ys, (cellsOf y).length = ei.size ∧ ∀ c ∈ cellsOf y, isCell c = true) (hx : Rep A m ρ w (.slice id 0 len ver) (a.eval x)) (hy : Rep A m ρ w vx (a.eval y)) (ob : List Prop) :
    OpPost P A m ρ w a o n0 ⟨.slice id 0 (len + ys.length) (ver + 1), some (id, .row ei.size (es.take len ++ ys) (ver + 1)), [], ob⟩ := by
  intro ro K Q hK
  obtain ⟨q1, o', c, vs, t', hxv, q2, q3, q4, q5⟩ := rep_slice hx hm
  obtain ⟨hk0, vs2, t3, q6, hR⟩ := row_of_fits hF hm
  rw [q4] at q6; cases q6
  obtain ⟨U, u1, u2, hU, u3⟩ := firstCells_ok hF hl he (fun y hy => (hys y hy).1) hk0 hy
  obtain ⟨d2, hd2, hd2n⟩ := notInt_ok h4
  obtain ⟨zv, hzr, hz1, hz2⟩ := zero_run hz
  have hUone := row_one hk0 hU u3 hys
  have hlk : len * ei.size ≤ es.length * ei.size := Nat.mul_le_mul_right _ (by omega)
  have hRs := hR.size
  have hlt : (es.take len).length = len := by simp; omega
  by_cases hc : len + ys.length ≤ c
  · have hck : (len + ys.length) * ei.size ≤ vs.size := by
      have := Nat.mul_le_mul_right ei.size (show len + ys.length ≤ 0 + c by omega)
      omega
    rw [Nat.add_mul] at hck
    have hst : ∃ w' vs', (storeCells (Addr.add ⟨ρ id, o', none⟩ (len * ei.size)) U.toList).run P w = .ok () w' ∧ w'.os = w.os ∧ w'.tape = w.tape ∧ w'.output = w.output ∧ w'.heap.size = w.heap.size ∧ w'.heap[ρ id]? = some (.cells vs' t' (0, 0)) ∧ vs'.size = vs.size ∧
        (∀ q, q ≠ ρ id → w'.heap[q]? = w.heap[q]?) ∧ ∀ q, vs'[q]? = if len * ei.size ≤ q ∧ q < len * ei.size + U.toList.length then U.toList[q - len * ei.size]? else vs[q]? := by
      by_cases hc0 : c = 0
      · have hU0 : U = #[] := Array.size_eq_zero_iff.1 (by rw [u3, show ys.length = 0 by omega]; simp)
        subst hU0
        exact ⟨w, vs, by simp [storeCells], rfl, rfl, rfl, rfl, q4, rfl, fun _ _ => rfl, fun q => by rw [if_neg (by rintro ⟨h8, h9⟩; have : q < len * ei.size + 0 := h9; omega)]⟩
      · have ho0 : o' = 0 := by have := q2 (by omega); simpa using this
        subst ho0
        obtain ⟨w', vs', e1, e2, e3, e4, e5, e6, e7, e8, e9⟩ := run_storeCells (P := P) U.toList (ρ id) (len * ei.size) 0 w vs t' q4 (by rw [Array.length_toList, u3]; omega) hUone
        exact ⟨w', vs', by rw [addr_add, Nat.zero_add]; exact e1, e2, e3, e4, e5, e6, e7, e8, e9⟩
    obtain ⟨w', vs', e1, e2, e3, e4, e5, e6, e7, e8, e9⟩ := hst
    have hrow : RowR A m ρ w ei.size (es.take len ++ ys) vs' := by
      refine hR.app (by omega) hU (by rw [e7, Nat.add_mul]; omega) (fun q hq => ?_) (fun q hq => ?_)
      · rw [e9, if_neg (by omega)]
      · rw [e9, if_pos (by rw [Array.length_toList, u3]; omega), Array.getElem?_toList]
        congr 1; omega
    obtain ⟨s1, s2⟩ := step_set (n0 := n0) (blk' := .row ei.size (es.take len ++ ys) (ver + 1)) hF hm ⟨rfl, by omega, fun h => by omega⟩ q4 e2 e3 e4 e5 e6 e7 e8 (fun m' he => (hrow.mono he).fits hk0 e6)
    refine wp_val (exec_append ho (by rw [hxv]; exact append_in hu hi hd2 hd2n u1 hc (u2 w rfl) e1)) (hK _ ρ w' s1 s2 ?_)
    exact .slice id 0 _ _ ei.size (es.take len ++ ys) (ver + 1) _ _ c (by simp [updM]) (Nat.le_refl _) (fun _ => ⟨by rw [List.length_append, hlt]; omega, rfl, o', vs', t', rfl, q2, hc, e6, by rw [e7]; exact q5⟩)
  · have hO : ∀ w1 : World, w1.heap = w.heap → (Builtin.firstCells ei.size len (.slice (some ⟨ρ id, o', none⟩) len c)).run P w1 = .ok ((List.range (len * ei.size)).map fun q => vs.getD q undef).toArray w1 := fun w1 hw1 => by
      simp only [Builtin.firstCells]
      by_cases hl0 : len = 0
      · subst hl0; simp [loadCells, loadCellsFrom]
      · have ho0 : o' = 0 := by have := q2 (by omega); simpa using this
        subst ho0
        rw [run_loadCells w1 ⟨ρ id, 0, none⟩ (len * ei.size) (fun q => vs.getD q undef) (fun q hq => ?_)]
        rw [addr_add, show w1.cell? ⟨ρ id, 0 + q, none⟩ = w.cell? ⟨ρ id, 0 + q, none⟩ by simp [World.cell?, hw1], cell_of_cells q4, Nat.zero_add]
        exact getD_of (by omega)
    obtain ⟨nc, rest, r1, r2, r3⟩ := append_out (ty := o.type) hu hi hd2 hd2n u1 hc hzr h2 hb u2 hO
    have hsz : (((List.range (len * ei.size)).map fun q => vs.getD q undef).toArray ++ U ++ rest).size = nc * ei.size := by
      simp only [Array.size_append, List.size_toArray, List.length_map, List.length_range, u3, r2, hz1, h3]
      rw [← Nat.add_mul, ← Nat.add_mul]; congr 1; omega
    have hrow : RowR A m ρ w ei.size (es.take len ++ ys) (((List.range (len * ei.size)).map fun q => vs.getD q undef).toArray ++ U ++ rest) := by
      refine hR.app (by omega) hU (by rw [hsz]; exact Nat.mul_le_mul_right _ r1) (fun q hq => ?_) (fun q hq => ?_)
      · rw [Array.getElem?_append_left (by simp; omega), Array.getElem?_append_left (by simpa using hq), ofRange _ hq, getD_of (by omega)]
      · rw [Array.getElem?_append_left (by simp; omega), Array.getElem?_append_right (by simp)]
        simp
    have hF1 := drew_fits hF
    have hE1 := drew_ext m ρ w
    obtain ⟨ρ', s0, s1, s2⟩ := step_move (n0 := n0) (blk' := .row ei.size (es.take len ++ ys) (ver + 1)) hF1 (.cells (((List.range (len * ei.size)).map fun q => vs.getD q undef).toArray ++ U ++ rest) e) hm ⟨rfl, by omega, fun h => by omega⟩ (by show ¬ ver = ver + 1; omega)
      (fun m' ρ' he => ((hrow.mono hE1).mono he).fits hk0 (heap_new w.drew _))
    refine wp_val (exec_append ho (by rw [hxv]; exact r3)) (hK _ ρ' _ (hE1.trans s1) s2 ?_)
    refine .slice id 0 _ _ ei.size (es.take len ++ ys) (ver + 1) _ _ nc (by simp [updM]) (Nat.le_refl _) (fun _ => ⟨by rw [List.length_append, hlt]; omega, rfl, 0, _, e, by rw [s0]; rfl, fun _ => by simp, r1, by rw [s0]; exact heap_new w.drew _, by rw [hsz]; simp⟩)

theorem append_new {t t2 : TypeId} {x y : Operand} {e : TypeId} {ei : TypeInfo} {z : AV} {ys : List AV} {look : Mem} {vx : AV} (hF : Fits A m ρ w) (hn : m n0 = none) (hl : ∀ id b, look id = some b → m id = some b)
    (ho : o.op = .call { callee := .builtin .append, args := #[x, y], argTypes := #[t, t2] }) (hu : P.underlying t = some (.slice e)) (hi : P.info? e = some ei) (hz : zeroAV P e = some z) (he : elemsOf look vx = some ys)
    (h1 : 1 ≤ ei.size) (h2 : 1 ≤ ei.bytes) (h3 : (cellsOf z).length = ei.size) (h4 : notInt (P.underlying t2) = true) (hb : (5 * ys.length + 4096) * ei.bytes ≤ 2 ^ 50) (hne : ys ≠ [])
    (hys : ∀ y ∈ ys, (cellsOf y).length = ei.size ∧ ∀ c ∈ cellsOf y, isCell c = true) (hx : Rep A m ρ w .nilslice (a.eval x)) (hy : Rep A m ρ w vx (a.eval y)) (ob : List Prop) :
    OpPost P A m ρ w a o n0 ⟨.slice n0 0 ys.length 0, none, [.row ei.size ys 0], ob⟩ := by
  obtain ⟨U, u1, u2, hU, u3⟩ := firstCells_ok hF hl he (fun y hy => (hys y hy).1) (by omega) hy
  obtain ⟨d2, hd2, hd2n⟩ := notInt_ok h4
  obtain ⟨zv, hzr, hz1, hz2⟩ := zero_run hz
  have hpos : 0 < ys.length := List.length_pos_iff.2 hne
  obtain ⟨nc, rest, r1, r2, r3⟩ := append_out (P := P) (w := w) (ty := o.type) (base := none) (len := 0) (cap := 0) hu hi hd2 hd2n u1 (by omega) hzr h2 (by rw [Nat.zero_add]; exact hb) u2 (O := #[]) (fun w1 _ => rfl)
  rw [Nat.zero_add] at r1 r2 r3
  have hsz : (#[] ++ U ++ rest).size = nc * ei.size := by
    simp only [Array.size_append, u3, r2, hz1, h3]
    rw [show (#[] : Array Value).size = 0 from rfl, Nat.zero_add, ← Nat.add_mul]; congr 1; omega
  refine post_row hF hn (w1 := w.drew) ⟨rfl, rfl, rfl, rfl⟩ (vs := #[] ++ U ++ rest) (t := e) (cap := nc) (exec_append ho (by rw [rep_nilslice hx]; exact r3)) (by omega) ?_ rfl ⟨r1, by rw [hsz]; exact Nat.le_refl _⟩
  refine ⟨by rw [hsz]; exact Nat.mul_le_mul_right _ r1, hU.len, fun i e j c he hc => ?_⟩
  have h5 := (hU.lt he hc).1
  rw [Array.getD_eq_getD_getElem?, Array.getElem?_append_left (by simp; omega), Array.getElem?_append_right (by simp)]
  simpa [Array.getD_eq_getD_getElem?] using hU.at_ i e j c he hc

theorem append_same {t t2 : TypeId} {x y : Operand} {e : TypeId} {ei : TypeInfo} {look : Mem} {vx : AV} (hF : Fits A m ρ w) (hl : ∀ id b, look id = some b → m id = some b)
    (ho : o.op = .call { callee := .builtin .append, args := #[x, y], argTypes := #[t, t2] }) (hu : P.underlying t = some (.slice e)) (hi : P.info? e = some ei) (he : elemsOf look vx = some [])
    (h1 : 1 ≤ ei.size) (h4 : notInt (P.underlying t2) = true) (hx : Rep A m ρ w .nilslice (a.eval x)) (hy : Rep A m ρ w vx (a.eval y)) (ob : List Prop) : OpPost P A m ρ w a o n0 ⟨.nilslice, none, [], ob⟩ := by
  obtain ⟨U, u1, u2, hU, u3⟩ := firstCells_ok (k := ei.size) hF hl he (fun y hy => by simp at hy) (by omega) hy
  obtain ⟨d2, hd2, hd2n⟩ := notInt_ok h4
  refine post_pure hF (exec_append ho ?_) (.base .nilslice)
  rw [rep_nilslice hx]
  exact append_in (base := none) (len := 0) (cap := 0) hu hi hd2 hd2n u1 (by simp) (u2 w rfl) rfl

theorem append_ok {t t2 : TypeId} {x y : Operand} {vs vx : AV} {look : Mem} {r : AppR} {ob : List Prop} (hF : Fits A m ρ w) (hn : (∃ b, r = .new b) → m n0 = none) (hl : ∀ id b, look id = some b → m id = some b)
    (ho : o.op = .call { callee := .builtin .append, args := #[x, y], argTypes := #[t, t2] }) (h : evAppend P t t2 vs vx look = some (r, ob)) (hob : AllP ob) (hx : Rep A m ρ w vs (a.eval x)) (hy : Rep A m ρ w vx (a.eval y)) :
    match r with
    | .same v => OpPost P A m ρ w a o n0 ⟨v, none, [], ob⟩
    | .old id b v => OpPost P A m ρ w a o n0 ⟨v, some (id, b), [], ob⟩
    | .new (.row k es ver) => OpPost P A m ρ w a o n0 ⟨.slice n0 0 es.length 0, none, [.row k es ver], ob⟩
    | .new _ => True := by
  unfold evAppend at h
  split at h
  · rename_i e hu
    split at h
    · rename_i ei z ys hi hz he
      split at h
      · rename_i hc
        simp only [Bool.and_eq_true, Nat.beq_eq] at hc
        obtain ⟨⟨⟨c1, c2⟩, c3⟩, c4⟩ := hc
        have c1 := Nat.le_of_ble_eq_true c1
        have c2 := Nat.le_of_ble_eq_true c2
        split at h
        · rename_i id lo len ver
          split at h
          · rename_i k es ver' hlk
            split at h
            · rename_i hv
              simp only [Bool.and_eq_true, Nat.beq_eq] at hv
              obtain ⟨⟨rfl, rfl⟩, rfl⟩ := hv
              cases h
              exact append_old hF hl ho hu hi hz he c1 c2 c3 c4 (hl _ _ hlk) hob.1 hob.2.1 hx hy _
            · cases h
          · cases h
        · split at h
          · cases h
            exact append_same hF hl ho hu hi he c1 c4 hx hy _
          · cases h
            exact append_new hF (hn ⟨_, rfl⟩) hl ho hu hi hz he c1 c2 c3 c4 hob.1 (by simp) hob.2.1 hx hy _
        · cases h
      · cases h
    · cases h
  · cases h

/-! ### Every operation -/

theorem fin_post {s : Sup} {r : ORes} (h : OpPost P A m ρ w a o n0 r) (hob : AllP (fin s r).ob) : OpPost P A m ρ w a o n0 (fin s r) := by
  unfold fin at hob ⊢
  split
  · have : r.v = _ := hob.1
    intro ro K Q hK
    exact h ro K Q fun v ρ' w' h1 h2 h3 => hK v ρ' w' h1 h2 (this ▸ h3)
  · rename_i l
    have e : reRow l r.wr = r.wr := by
      have h1 : reOb l r.wr := hob.1
      revert h1
      cases r.wr with
      | none => intro _; rfl
      | some x =>
        obtain ⟨id, b⟩ := x
        cases b with
        | cells _ => intro _; rfl
        | row k es ver => intro h1; simp only [reOb] at h1; subst h1; rfl
        | mp es => intro h1; simp only [reOb] at h1; subst h1; rfl
    show OpPost P A m ρ w a o n0 ⟨r.v, reRow l r.wr, r.ns, _⟩
    rw [e]
    exact h
  · rename_i l
    have e : reRow l r.wr = r.wr := by
      have h1 : reOb l r.wr := hob.1
      revert h1
      cases r.wr with
      | none => intro _; rfl
      | some x =>
        obtain ⟨id, b⟩ := x
        cases b with
        | cells _ => intro _; rfl
        | row k es ver => intro h1; simp only [reOb] at h1; subst h1; rfl
        | mp es => intro h1; simp only [reOb] at h1; subst h1; rfl
    show OpPost P A m ρ w a o n0 ⟨r.v, reRow l r.wr, r.ns, _⟩
    rw [e]
    exact h
  · exact h
theorem fin_ob {s : Sup} {r : ORes} (hob : AllP (fin s r).ob) : AllP r.ob := by
  unfold fin at hob
  split at hob
  · exact hob.2
  · exact hob.2
  · exact hob.2
  · exact hob

theorem post_p {x : Option AV} {r : ORes} {s : Sem Value} (hF : Fits A m ρ w) (h : x.map (fun v => (⟨v, none, [], []⟩ : ORes)) = some r) (ho : execOp a.eval o = (do pure (.value (← s)))) (hs : ∀ v, x = some v → ∃ u, s.run P w = .ok u w ∧ Rep A m ρ w v u) : OpPost P A m ρ w a o n0 r := by
  obtain ⟨v, h1, rfl⟩ := Option.map_eq_some_iff.1 h
  obtain ⟨u, h2, h3⟩ := hs v h1
  exact post_pure hF (exec_v ho h2) h3
theorem post_q {x : Option (AV × List Prop)} {r : ORes} {s : Sem Value} (hF : Fits A m ρ w) (h : x.map (fun v => (⟨v.1, none, [], v.2⟩ : ORes)) = some r) (ho : execOp a.eval o = (do pure (.value (← s)))) (hob : AllP r.ob)
    (hs : ∀ v ob, x = some (v, ob) → AllP ob → ∃ u, s.run P w = .ok u w ∧ Rep A m ρ w v u) : OpPost P A m ρ w a o n0 r := by
  obtain ⟨⟨v, ob⟩, h1, rfl⟩ := Option.map_eq_some_iff.1 h
  obtain ⟨u, h2, h3⟩ := hs v ob h1 hob
  exact post_pure hF (exec_v ho h2) h3

theorem exec_builtin {b : Builtin} {args : Array Operand} {ts : Array TypeId} {s : Sem Value} (ho : o.op = .call { callee := .builtin b, args := args, argTypes := ts }) (h : ∀ cs, builtin b ts o.type cs (args.map a.eval) = (do pure (.value (← s)))) :
    execOp a.eval o = (do pure (.value (← s))) := by
  unfold execOp
  rw [ho]
  simp only [resolve, pure_bind, invoke, h]

end
end
section
open Go.RowKit

section
variable {P : Program} {A : Nat → Prop} {m : Mem} {ρ : Nat → Nat} {w : World} {a : Act} {o : Oper} {n0 : Nat}

theorem func_rep {τ : Nat → AV} {f : Fn} {p c : Array Operand} (hp : ∀ x ∈ p, Rep A m ρ w (opd τ x) (a.eval x)) (hc : ∀ x ∈ c, Rep A m ρ w (opd τ x) (a.eval x)) :
    Rep A m ρ w (.func f (p.toList.map (opd τ)) (c.toList.map (opd τ))) (.func f (p.map a.eval) (c.map a.eval)) := by
  have key : ∀ (q : Array Operand), (∀ x ∈ q, Rep A m ρ w (opd τ x) (a.eval x)) → ∀ i x, (q.toList.map (opd τ))[i]? = some x → Rep A m ρ w x ((q.map a.eval).getD i undef) := fun q hq i x hx => by
    simp only [List.getElem?_map] at hx
    obtain ⟨y, h1, rfl⟩ := Option.map_eq_some_iff.1 hx
    rw [Array.getD_eq_getD_getElem?, Array.getElem?_map, ← Array.getElem?_toList, h1]
    exact hq y (Array.mem_toList_iff.1 (List.mem_iff_getElem?.2 ⟨i, h1⟩))
  exact .func f _ _ _ _ (by simp) (by simp) (key p hp) (key c hc)

theorem args_rep {τ : Nat → AV} {q : Array Operand} (hq : ∀ x ∈ q, Rep A m ρ w (opd τ x) (a.eval x)) : (q.map a.eval).size = (q.toList.map (opd τ)).length ∧ ∀ i x, (q.toList.map (opd τ))[i]? = some x → Rep A m ρ w x ((q.map a.eval).getD i undef) := by
  refine ⟨by simp, fun i x hx => ?_⟩
  simp only [List.getElem?_map] at hx
  obtain ⟨y, h1, rfl⟩ := Option.map_eq_some_iff.1 hx
  rw [Array.getD_eq_getD_getElem?, Array.getElem?_map, ← Array.getElem?_toList, h1]
  exact hq y (Array.mem_toList_iff.1 (List.mem_iff_getElem?.2 ⟨i, h1⟩))

theorem evNilCheck_ok {x : Operand} {r : AV} {y : AV} (ho : o.op = .nilCheck x) (h : evNilCheck y = some r) (hx : Rep A m ρ w y (a.eval x)) : (execOp a.eval o).run P w = .ok (.value (a.eval x)) w ∧ Rep A m ρ w r (a.eval x) := by
  unfold evNilCheck at h
  simp only [execOp, ho]
  split at h
  · obtain rfl := Option.some.inj h
    refine ⟨?_, hx⟩
    rw [(rep_ptr hx).1]; rfl
  · obtain rfl := Option.some.inj h
    refine ⟨?_, hx⟩
    obtain ⟨b, o', x, h1, _⟩ := rep_ptrIn hx
    rw [h1]; rfl
  · obtain rfl := Option.some.inj h
    refine ⟨?_, hx⟩
    obtain ⟨ps, cs, h1, _⟩ := rep_func hx
    rw [h1]; rfl
  · cases h

set_option maxHeartbeats 1000000 in
theorem evIface_ok {t : TypeId} {x r : AV} {v : Value} (h : evIface P t x = some r) (hx : Rep A m ρ w x v) : ∃ u, (Instr.makeInterface t v).run P w = .ok u w ∧ Rep A m ρ w r u := by
  unfold evIface at h
  split at h
  · cases h
  · rename_i d hd hu
    cases h
    refine ⟨.iface t v, ?_, .iface t x v hx⟩
    simp only [Instr.makeInterface, Sem.run_bind, run_underlying hu, Result.andThen_ok]
    rfl
  · cases h

theorem evAssert_ok {t xt : TypeId} {x r : AV} {ok : Bool} {v : Value} (h : evAssert P x t ok = some r) (hx : Rep A m ρ w x v) : ∃ u, (Instr.typeAssert v xt t ok).run P w = .ok u w ∧ Rep A m ρ w r u := by
  unfold evAssert at h
  split at h
  · cases h
  · rename_i d hd hu
    have hz : ∀ {z : AV}, zeroAV P t = some z → ∃ zv, (zeroValue t).run P w = .ok zv w ∧ Rep A m ρ w (.tuple [z, .bool false]) (.tuple #[zv, .bool false]) := fun hz => by
      obtain ⟨i, h1, h2⟩ := Option.map_eq_some_iff.1 hz
      obtain ⟨ti, h3, h4⟩ := Option.bind_eq_some_iff.1 h1
      refine ⟨i, by simp [zeroValue, typeInfo, h3, h4], .tuple _ _ rfl fun j c hc => ?_⟩
      match j with
      | 0 => simp at hc; subst hc; rw [← h2]; exact .base (avOf_ri ..)
      | 1 => simp at hc; subst hc; exact .base (.bool _)
      | j + 2 => simp at hc
    split at h
    · rw [rep_niliface hx]
      split at h
      · rename_i hok
        obtain ⟨z, h1, rfl⟩ := Option.map_eq_some_iff.1 h
        obtain ⟨zv, h2, h3⟩ := hz h1
        refine ⟨_, ?_, h3⟩
        cases d <;> first | exact (hd _ rfl).elim | simp [Instr.typeAssert, run_underlying hu, hok, h2]
      · cases h
    · rename_i u y
      obtain ⟨uv, rfl, q1⟩ := rep_iface hx
      split at h
      · rename_i hut
        cases h
        refine ⟨if ok then .tuple #[uv, .bool true] else uv, ?_, ?_⟩
        · subst hut
          cases d <;> first | exact (hd _ rfl).elim | simp [Instr.typeAssert, run_underlying hu]
        · cases ok
          · simpa using q1
          · refine .tuple _ _ rfl fun j c hc => ?_
            match j with
            | 0 => simp at hc; subst hc; exact q1
            | 1 => simp at hc; subst hc; exact .base (.bool _)
            | j + 2 => simp at hc
      · rename_i hut
        split at h
        · rename_i hok
          obtain ⟨z, h1, rfl⟩ := Option.map_eq_some_iff.1 h
          obtain ⟨zv, h2, h3⟩ := hz h1
          refine ⟨_, ?_, h3⟩
          cases d <;> first | exact (hd _ rfl).elim | simp [Instr.typeAssert, run_underlying hu, hok, h2, hut]
        · cases h
    · cases h
  · cases h

/-! ### Clear -/
theorem RowR.fill {k lo len : Nat} {es ys : List AV} {vs vs' : Array Value} (h : RowR A m ρ w k es vs) (hl : lo + len ≤ es.length) (hy : ys.length = len) (hk : ∀ e ∈ ys, (cellsOf e).length = k) (hs : vs'.size = vs.size)
    (h1 : ∀ q, (q < lo * k ∨ (lo + len) * k ≤ q) → vs'[q]? = vs[q]?) (h2 : ∀ i e j c, ys[i]? = some e → (cellsOf e)[j]? = some c → Rep A m ρ w c (vs'.getD ((lo + i) * k + j) undef)) : RowR A m ρ w k (es.take lo ++ (ys ++ es.drop (lo + len))) vs' := by
  have hlt : (es.take lo).length = lo := by simp; omega
  have hlen : (es.take lo ++ (ys ++ es.drop (lo + len))).length = es.length := by simp [hy]; omega
  refine ⟨by rw [hlen, hs]; exact h.size, fun e he => ?_, fun i e j c he hc => ?_⟩
  · rcases List.mem_append.1 he with he | he
    · exact h.len e (List.mem_of_mem_take he)
    · rcases List.mem_append.1 he with he | he
      · exact hk e he
      · exact h.len e (List.mem_of_mem_drop he)
  · by_cases hi : i < lo
    · rw [List.getElem?_append_left (by omega), List.getElem?_take, if_pos hi] at he
      have := (h.lt he hc).2
      rw [Array.getD_eq_getD_getElem?, h1 _ (.inl (idx_lt hi this)), ← Array.getD_eq_getD_getElem?]
      exact h.at_ i e j c he hc
    · rw [List.getElem?_append_right (by omega), hlt] at he
      by_cases hi2 : i < lo + len
      · rw [List.getElem?_append_left (by omega)] at he
        have := h2 (i - lo) e j c he hc
        rwa [show lo + (i - lo) = i by omega] at this
      · rw [List.getElem?_append_right (by omega), List.getElem?_drop, show lo + len + (i - lo - ys.length) = i by omega] at he
        have hj := (h.lt he hc).2
        have hge : (lo + len) * k ≤ i * k := Nat.mul_le_mul_right k (by omega)
        rw [Array.getD_eq_getD_getElem?, h1 _ (.inr (by omega)), ← Array.getD_eq_getD_getElem?]
        exact h.at_ i e j c he hc

theorem clear_ok {t : TypeId} {x : Operand} {y : AV} {look : Mem} {id : Nat} {b : Blk} (hF : Fits A m ρ w) (hl : ∀ id b, look id = some b → m id = some b)
    (ho : o.op = .call { callee := .builtin .clear, args := #[x], argTypes := #[t] }) (h : evClear P t y look = some (id, b)) (hx : Rep A m ρ w y (a.eval x)) : OpPost P A m ρ w a o n0 ⟨.tuple [], some (id, b), [], []⟩ := by
  intro ro K Q hK
  have fin : ∀ {w' : World}, (Builtin.clear_ #[t] o.type #[a.eval x]).run P w = .ok (.tuple #[]) w' → Ext m ρ w (updM m (some (id, b)) n0 []) ρ w' → Fits A (updM m (some (id, b)) n0 []) ρ w' → o.wpIn (FR ro) 0 P a w K Q := fun hr h1 h2 =>
    wp_val (exec_v (s := Builtin.clear_ #[t] o.type #[a.eval x]) (exec_builtin ho fun cs => by simp [builtin]) hr) (hK _ ρ _ h1 h2 (.base (.tuple [] #[] rfl (fun i c hc => by simp at hc))))
  unfold evClear at h
  split at h
  · rename_i e id' lo len ver hu
    split at h
    · rename_i k es ver' z hlk hz
      split at h
      · rename_i hc
        simp only [Bool.and_eq_true, Nat.beq_eq] at hc
        obtain ⟨⟨rfl, hk⟩, hone⟩ := hc
        cases h
        have hm := hl _ _ hlk
        obtain ⟨hle, o', c, vs, t', hv, ho', hlc, hw, hvs⟩ := rep_slice hx hm
        obtain ⟨h0, vs2, t2, hw2, hR⟩ := row_of_fits hF hm
        rw [hw] at hw2
        cases hw2
        obtain ⟨zv, hzr, hz1, hz2⟩ := zero_run hz
        by_cases hn : len = 0
        · subst hn
          have hsame : updM m (some (id, .row k (es.take lo ++ (List.replicate 0 z ++ es.drop (lo + 0))) ver)) n0 [] = m := by
            funext i
            have e1 : es.take lo ++ (List.replicate 0 z ++ es.drop (lo + 0)) = es := by simp
            rw [e1]
            simp only [updM]
            by_cases hi : i = id
            · subst hi; simp [hm]
            · have hi2 : ¬ id = i := fun e => hi e.symm
              simp [hi2]
          refine fin (w' := w) ?_ (by rw [hsame]; exact .refl _ _ _) (by rw [hsame]; exact hF)
          rw [hv]
          simp [Builtin.clear_, run_underlying hu]
        · have hoo := ho' (by omega)
          subst hoo
          have hzl : (Builtin.zeroCells zv.cells len).toList.length = len * k := by simp [Builtin.zeroCells, hz1, hk]
          have hb2 : lo * k + len * k ≤ vs.size := by rw [← Nat.add_mul]; exact Nat.le_trans (Nat.mul_le_mul_right k (by omega)) hvs
          have hcell : ∀ q, q < len * k → ∃ c, (cellsOf z)[q % k]? = some c ∧ (Builtin.zeroCells zv.cells len).toList[q]? = some (zv.cells.getD (q % k) undef) := fun q hq => by
            have hmod : q % k < k := Nat.mod_lt _ h0
            refine ⟨(cellsOf z)[q % k]'(by omega), List.getElem?_eq_getElem _, ?_⟩
            simp only [Builtin.zeroCells, Array.getElem?_toList, Array.getElem?_map, Array.getElem?_range, hz1, hk]
            rw [if_pos hq]
            simp only [Option.map_some, Option.some.injEq]
            rw [Array.getD_eq_getD_getElem?, getElem!_def, getD_of (show q % k < zv.cells.size by omega)]
            rfl
          obtain ⟨w', vs', e1, e2, e3, e4, e5, e6, e7, e8, e9⟩ := run_storeCells (P := P) (Builtin.zeroCells zv.cells len).toList (ρ id) (lo * k) 0 w vs t' hw (by rw [hzl]; omega) (fun u hu => by
            obtain ⟨q, hq⟩ := List.mem_iff_getElem?.1 hu
            have hql : q < len * k := by rw [← hzl]; exact (List.getElem?_eq_some_iff.1 hq).1
            obtain ⟨c', hc1, hc2⟩ := hcell q hql
            rw [hc2] at hq
            cases hq
            exact (hz2 w (fun _ => True) _ c' hc1).oneC (List.all_eq_true.1 hone c' (List.mem_of_getElem? hc1)))
          rw [hzl] at e9
          have hrow : RowR A m ρ w k (es.take lo ++ (List.replicate len z ++ es.drop (lo + len))) vs' := by
            refine hR.fill hle (by simp) (fun e he => by rw [List.eq_of_mem_replicate he]; exact hk) e7 (fun q hq => ?_) (fun i e j c' hi hj => ?_)
            · rw [e9, if_neg]
              rw [Nat.add_mul] at hq
              omega
            · rw [List.getElem?_replicate] at hi
              split at hi
              · rename_i hil
                cases hi
                have hj' : j < k := by rw [← hk]; exact (List.getElem?_eq_some_iff.1 hj).1
                have hlt := idx_lt hil hj'
                have hq : (lo + i) * k + j = lo * k + (i * k + j) := by rw [Nat.add_mul]; omega
                obtain ⟨c2, hc1, hc2⟩ := hcell (i * k + j) hlt
                have hmod : (i * k + j) % k = j := by rw [Nat.mul_comm, Nat.mul_add_mod]; exact Nat.mod_eq_of_lt hj'
                rw [hmod] at hc2
                rw [Array.getD_eq_getD_getElem?, hq, e9, if_pos (by omega), show lo * k + (i * k + j) - (lo * k + 0) = i * k + j by omega, hc2]
                exact .base (hz2 w _ j c' hj)
              · cases hi
          obtain ⟨h1, h2⟩ := step_set (n0 := n0) (blk' := .row k (es.take lo ++ (List.replicate len z ++ es.drop (lo + len))) ver) hF hm ⟨rfl, Nat.le_refl _, fun _ => by simp; omega⟩ hw e2 e3 e4 e5 e6 e7 e8 (fun m' he => (hrow.mono he).fits h0 e6)
          refine fin (w' := w') ?_ h1 h2
          rw [hv]
          obtain ⟨n, rfl⟩ : ∃ n, len = n + 1 := ⟨len - 1, by omega⟩
          simp [Builtin.clear_, run_underlying hu, hzr, e1]
      · cases h
    · cases h
  · cases h

theorem evOp_ok {τ : Nat → AV} {look : Mem} {s : Sup} {r : ORes} (hF : Fits A m ρ w) (hl : ∀ id b, look id = some b → m id = some b) (hn : ∀ j, j < r.ns.length → m (n0 + j) = none) (h : evOp P o.op o.type τ look n0 s = some r) (hob : AllP r.ob)
    (hr : ∀ x ∈ o.op.operands, Rep A m ρ w (opd τ x) (a.eval x)) : OpPost P A m ρ w a o n0 r := by
  cases hop : o.op with
  | move x =>
    rw [hop] at h hr
    obtain rfl := Option.some.inj h
    exact post_pure hF (by unfold execOp; rw [hop]; rfl) (hr x (by simp [Op.operands]))
  | assign x =>
    rw [hop] at h hr
    obtain rfl := Option.some.inj h
    exact post_pure hF (by unfold execOp; rw [hop]; rfl) (hr x (by simp [Op.operands]))
  | pick c x y =>
    rw [hop] at h hr
    obtain ⟨v, h1, rfl⟩ := Option.map_eq_some_iff.1 h
    obtain ⟨b, h2, h3⟩ := evPick_ok h1 (hr c (by simp [Op.operands])) (hr x (by simp [Op.operands])) (hr y (by simp [Op.operands]))
    refine post_pure hF ?_ h3
    unfold execOp; rw [hop]; simp [h2, asBool]
  | alloc t =>
    rw [hop] at h
    obtain ⟨z, h1, rfl⟩ := Option.map_eq_some_iff.1 h
    exact alloc_ok hF (hn 0 (by simp)) hop h1
  | box t x =>
    rw [hop] at h hr
    simp only [evOp] at h
    split at h
    · rename_i hb
      obtain rfl := Option.some.inj h
      exact box_ok hF (hn 0 (by simp)) hop (hr x (by simp [Op.operands])) hb
    · cases h
  | build t parts =>
    rw [hop] at h hr
    exact post_p hF h (s := Instr.build t (parts.map fun (i, x) => (i, a.eval x))) (by unfold execOp; rw [hop]) fun v hv => evBuild_ok hv fun p hp => hr p.2 (by simp only [Op.operands]; simp; exact ⟨p.1, hp⟩)
  | buildSlice t len parts =>
    rw [hop] at h hr
    obtain ⟨⟨es, k⟩, h1, rfl⟩ := Option.map_eq_some_iff.1 h
    exact buildSlice_ok hF (hn 0 (by simp)) hop h1 fun p hp => hr p.2 (by simp only [Op.operands]; simp; exact ⟨p.1, hp⟩)
  | load t x =>
    rw [hop] at h hr
    exact post_q hF h (s := Instr.loadAt t (a.eval x)) (by unfold execOp; rw [hop]) hob fun v ob hv ho => evLoad_ok hF hl hv ho (hr x (by simp [Op.operands]))
  | store t x y =>
    rw [hop] at h hr
    obtain ⟨⟨id, b, ob⟩, h1, rfl⟩ := Option.map_eq_some_iff.1 h
    exact store_ok hop hF hl h1 hob (hr x (by simp [Op.operands])) (hr y (by simp [Op.operands]))
  | nilCheck x =>
    rw [hop] at h hr
    obtain ⟨v, h1, rfl⟩ := Option.map_eq_some_iff.1 h
    obtain ⟨h2, h3⟩ := evNilCheck_ok hop h1 (hr x (by simp [Op.operands]))
    exact post_pure hF h2 h3
  | binOp op t x y yt =>
    rw [hop] at h hr
    exact post_q hF h (s := do eqGuard op t x y (a.eval x) (a.eval y); binOp op t (a.eval x) (a.eval y)) (by unfold execOp; rw [hop]) hob fun v ob hv ho => evBin_ok hv ho (hr x (by simp [Op.operands])) (hr y (by simp [Op.operands]))
  | unOp op t x =>
    rw [hop] at h hr
    exact post_p hF h (s := Op.unary op (a.eval x)) (by unfold execOp; rw [hop]) fun v hv => evUn_ok hv (hr x (by simp [Op.operands]))
  | convert src dst x =>
    rw [hop] at h hr
    exact post_p hF h (s := convert src dst (a.eval x)) (by unfold execOp; rw [hop]) fun v hv => evConv_ok hv (hr x (by simp [Op.operands]))
  | fieldAddr t x f =>
    rw [hop] at h hr
    exact post_p hF h (s := Instr.fieldAt t (a.eval x) f) (by unfold execOp; rw [hop]) fun v hv => evFieldAddr_ok hl hv (hr x (by simp [Op.operands]))
  | field t x f =>
    rw [hop] at h hr
    exact post_p hF h (s := Instr.field t (a.eval x) f) (by unfold execOp; rw [hop]) fun v hv => evField_ok hv (hr x (by simp [Op.operands]))
  | indexAddr t x i =>
    rw [hop] at h hr
    exact post_q hF h (s := Instr.indexAt t (a.eval x) (a.eval i)) (by unfold execOp; rw [hop]) hob fun v ob hv ho => evIndexAddr_ok hF hl hv ho (hr x (by simp [Op.operands])) (hr i (by simp [Op.operands]))
  | index t x i =>
    rw [hop] at h hr
    exact post_q hF h (s := Instr.index t (a.eval x) (a.eval i)) (by unfold execOp; rw [hop]) hob fun v ob hv ho => evIndex_ok hv ho (hr x (by simp [Op.operands])) (hr i (by simp [Op.operands]))
  | slice t x lo hi mx =>
    rw [hop] at h hr
    exact post_q hF h (s := Instr.sliceAt t (a.eval x) (lo.map a.eval) (hi.map a.eval) (mx.map a.eval)) (by unfold execOp; rw [hop]) hob fun v ob hv ho => evSlice_ok hF hl hv ho (hr x (by simp [Op.operands]))
      (fun y hy => hr y (by simp [Op.operands, hy])) (fun y hy => hr y (by simp [Op.operands, hy]))
  | makeInterface t x =>
    rw [hop] at h hr
    exact post_p hF h (s := Instr.makeInterface t (a.eval x)) (by unfold execOp; rw [hop]) fun v hv => evIface_ok hv (hr x (by simp [Op.operands]))
  | typeAssert x xt t ok =>
    rw [hop] at h hr
    exact post_p hF h (s := Instr.typeAssert (a.eval x) xt t ok) (by unfold execOp; rw [hop]) fun v hv => evAssert_ok hv (hr x (by simp [Op.operands]))
  | extract x i =>
    rw [hop] at h hr
    exact post_p hF h (s := Instr.extract (a.eval x) i) (by unfold execOp; rw [hop]) fun v hv => evExtract_ok hv (hr x (by simp [Op.operands]))
  | makeFunc f p c =>
    rw [hop] at h hr
    obtain rfl := Option.some.inj h
    exact post_pure hF (exec_v (s := Instr.makeFunc f (p.map a.eval) (c.map a.eval)) (by unfold execOp; rw [hop]) rfl) (func_rep (fun x hx => hr x (by simp [Op.operands, hx])) (fun x hx => hr x (by simp [Op.operands, hx])))
  | makeSlice t l c =>
    rw [hop] at h hr
    obtain ⟨⟨n, es, k, ob⟩, h1, rfl⟩ := Option.map_eq_some_iff.1 h
    exact makeSlice_ok hF (hn 0 (by simp)) hop h1 hob (hr l (by simp [Op.operands])) (hr c (by simp [Op.operands]))
  | makeMap t rs =>
    rw [hop] at h
    cases rs with
    | none =>
      obtain rfl := Option.some.inj h
      exact makeMap_ok hF (hn 0 (by simp)) hop
    | some _ => cases h
  | mapUpdate t x k v =>
    rw [hop] at h hr
    obtain ⟨⟨id, b⟩, h1, rfl⟩ := Option.map_eq_some_iff.1 h
    exact mapSet_ok hF hl (by unfold execOp; rw [hop]) h1 (hr x (by simp [Op.operands])) (hr k (by simp [Op.operands])) (hr v (by simp [Op.operands]))
  | insert t x k v =>
    rw [hop] at h hr
    obtain ⟨⟨id, b⟩, h1, rfl⟩ := Option.map_eq_some_iff.1 h
    exact mapSet_ok hF hl (by unfold execOp; rw [hop]) h1 (hr x (by simp [Op.operands])) (hr k (by simp [Op.operands])) (hr v (by simp [Op.operands]))
  | lookup t x k ok =>
    rw [hop] at h hr
    exact post_q hF h (s := Instr.lookup t (a.eval x) (a.eval k) ok) (by unfold execOp; rw [hop]) hob fun v ob hv ho => lookup_ok hF hl hv ho (hr x (by simp [Op.operands])) (hr k (by simp [Op.operands]))
  | call c =>
    obtain ⟨callee, args, argTypes⟩ := c
    rw [hop] at h hr
    cases callee with
    | value f => cases h
    | invoke r n => cases h
    | builtin b =>
      have hargs : ∀ x ∈ args, Rep A m ρ w (opd τ x) (a.eval x) := fun x hx => hr x (by simp [Op.operands, Call.operands, hx])
      simp only [evOp] at h
      split at h
      · rename_i t x hts hxs
        obtain rfl : argTypes = #[t] := by cases argTypes; simp_all
        obtain rfl : args = #[x] := by cases args; simp_all
        exact post_p hF h (s := Builtin.len_ #[t] o.type #[a.eval x]) (exec_builtin hop fun cs => by simp [builtin]) fun v hv => evLen_ok hF hl hv (hargs x (by simp))
      · rename_i t x hts hxs
        obtain rfl : argTypes = #[t] := by cases argTypes; simp_all
        obtain rfl : args = #[x] := by cases args; simp_all
        obtain ⟨⟨id, b⟩, h1, rfl⟩ := Option.map_eq_some_iff.1 h
        exact clear_ok hF hl hop h1 (hargs x (by simp))
      · rename_i ts xs
        obtain ⟨h1, h2⟩ := args_rep hargs
        exact post_p hF h (s := Builtin.max_ argTypes o.type (args.map a.eval)) (exec_builtin hop fun cs => by simp [builtin]) fun v hv => by
          simpa using evMax_ok (mx := true) argTypes o.type hv h1 h2
      · rename_i ts xs
        obtain ⟨h1, h2⟩ := args_rep hargs
        exact post_p hF h (s := Builtin.min_ argTypes o.type (args.map a.eval)) (exec_builtin hop fun cs => by simp [builtin]) fun v hv => by
          simpa using evMax_ok (mx := false) argTypes o.type hv h1 h2
      · rename_i t t2 x y hts hxs
        obtain rfl : argTypes = #[t, t2] := by cases argTypes; simp_all
        obtain rfl : args = #[x, y] := by cases args; simp_all
        split at h
        · rename_i v ob happ
          obtain rfl := Option.some.inj h
          exact append_ok hF (fun ⟨_, he⟩ => by cases he) hl hop happ hob (hargs x (by simp)) (hargs y (by simp))
        · rename_i id b v ob happ
          obtain rfl := Option.some.inj h
          exact append_ok hF (fun ⟨_, he⟩ => by cases he) hl hop happ hob (hargs x (by simp)) (hargs y (by simp))
        · rename_i k es ver ob happ
          obtain rfl := Option.some.inj h
          exact append_ok hF (fun _ => hn 0 (by simp)) hl hop happ hob (hargs x (by simp)) (hargs y (by simp))
        · cases h
      · cases h
  | _ => rw [hop] at h; cases h

end
end
end Go.Proofs.Ytglfbdicclepcaa
