/- Operations without calls, gone on. For every program. -/
import Derived.Test.YtkijlggnnbdeiaaEvD
set_option linter.unusedVariables false
set_option linter.unusedSimpArgs false
namespace Go.Proofs.Ytkijlggnnbdeiaa
open Go.RowKit

section
variable {P : Program} {A : Nat → Prop} {m : Mem} {ρ : Nat → Nat} {w : World} {a : Act} {o : Oper} {n0 : Nat}

theorem evUn_ok {op : UnOp} {x r : AV} {v : Value} (h : evUn op x = some r) (hx : Rep A m ρ w x v) : ∃ u, (Op.unary op v).run P w = .ok u w ∧ Rep A m ρ w r u := by
  unfold evUn at h
  split at h
  · obtain rfl := Option.some.inj h; rw [rep_bool hx]; exact ⟨_, rfl, .base (.bool _)⟩
  · obtain rfl := Option.some.inj h; rw [rep_int hx]; exact ⟨_, rfl, .base (.int _ _)⟩
  · obtain rfl := Option.some.inj h; rw [rep_int hx]; exact ⟨_, by simp only [Op.unary, intBits_xor]; rfl, .base (.int _ _)⟩
  · cases h

theorem evConv_ok {src dst : TypeId} {x r : AV} {v : Value} (h : evConv P src dst x = some r) (hx : Rep A m ρ w x v) : ∃ u, (convert src dst v).run P w = .ok u w ∧ Rep A m ρ w r u := by
  unfold evConv at h
  split at h
  · rename_i d k k' n hs hd
    obtain rfl := Option.some.inj h
    rw [rep_int hx]
    exact ⟨_, by simp [convert, run_underlying hs, run_underlying hd, Conv.intToInt], .base (.int _ _)⟩
  · cases h

/-! ### New variables -/

theorem boxable_cells {x : AV} {v : Value} (h : Rep A m ρ w x v) (hb : boxable x = true) : v.cells.size = (cellsOf x).length ∧ ∀ i c, (cellsOf x)[i]? = some c → Rep A m ρ w c (v.cells.getD i undef) :=
  cells_size h (by cases x <;> first | exact .inr ⟨_, rfl⟩ | exact .inl rfl | cases hb)

theorem post_new {vs : Array Value} {t : TypeId} {cs : List AV} {ob : List Prop} (hF : Fits A m ρ w) (hn : m n0 = none) (h : (execOp a.eval o).run P w = .ok (.value (.pointer (some ⟨w.heap.size, 0, none⟩))) (w.alloc (.cells vs t)))
    (hs : vs.size = cs.length) (hc : ∀ i c, cs[i]? = some c → Rep A m ρ w c (vs.getD i undef)) : OpPost P A m ρ w a o n0 ⟨.ptr n0 0, none, [.cells cs], ob⟩ := fun ro K Q hK => by
  obtain ⟨ρ', h1, h2, h3⟩ := step_new hF hn (.cells vs t) (.cells cs) (fun m' ρ' he => ⟨vs, t, heap_new w _, hs, fun i c hi => (hc i c hi).mono he⟩)
  refine wp_val h (hK _ ρ' _ h2 h3 ?_)
  rw [← h1]
  exact .ptr n0 0 cs (by simp [updM])

theorem alloc_ok {t : TypeId} {z : AV} (hF : Fits A m ρ w) (hn : m n0 = none) (ho : o.op = .alloc t) (h : zeroAV P t = some z) : OpPost P A m ρ w a o n0 ⟨.ptr n0 0, none, [.cells (cellsOf z)], []⟩ := by
  unfold zeroAV at h
  obtain ⟨zv, h1, rfl⟩ := Option.map_eq_some_iff.1 h
  obtain ⟨i, h2, h3⟩ := Option.bind_eq_some_iff.1 h1
  obtain ⟨h4, h5⟩ := avOf_cells w (Alien A m ρ w) zv
  refine post_new (vs := zv.cells) (t := t) hF hn (exec_v (s := Instr.alloc t true (.tuple #[])) (by unfold execOp; rw [ho]) ?_) h4 (fun i c hc => .base (h5 i c hc))
  simp [Instr.alloc, zeroValue, run_typeInfo h2, h3, newVar, newRow]

theorem box_ok {t : TypeId} {x : Operand} {y : AV} (hF : Fits A m ρ w) (hn : m n0 = none) (ho : o.op = .box t x) (hx : Rep A m ρ w y (a.eval x)) (h : boxable y = true) : OpPost P A m ρ w a o n0 ⟨.ptr n0 0, none, [.cells (cellsOf y)], []⟩ := by
  obtain ⟨h4, h5⟩ := boxable_cells hx h
  refine post_new (vs := (a.eval x).cells) (t := t) hF hn (exec_v (s := Instr.box t (a.eval x)) (by unfold execOp; rw [ho]) ?_) h4 h5
  simp [Instr.box, newVar, newRow]

/-! ### Structs and arrays by their parts -/

theorem splice_len {cs l : List AV} {off : Nat} (h : off + l.length ≤ cs.length) : (splice cs off l).length = cs.length := by simp [splice]; omega
theorem splice_get {cs l : List AV} {off : Nat} (h : off + l.length ≤ cs.length) (i : Nat) : (splice cs off l)[i]? = if off ≤ i ∧ i < off + l.length then l[i - off]? else cs[i]? := by
  unfold splice
  have hl : (cs.take off).length = off := by simp; omega
  by_cases h1 : i < off
  · rw [if_neg (by omega), List.append_assoc, List.getElem?_append_left (by omega), List.getElem?_take, if_pos h1]
  · by_cases h2 : i < off + l.length
    · rw [if_pos (by omega), List.append_assoc, List.getElem?_append_right (by omega), hl, List.getElem?_append_left (by omega)]
    · rw [if_neg (by omega), List.getElem?_append_right (by simp [hl]; omega), List.getElem?_drop]
      congr 1
      simp [hl]; omega

/-- Values written one behind the other into an array. -/
def putAt (cells : Array Value) (off : Nat) (vs : Array Value) : Array Value := vs.zipIdx.foldl (fun cs (c, j) => cs.setIfInBounds (off + j) c) cells

theorem putAt_list (off : Nat) : ∀ (l : List Value) (k : Nat) (cells : Array Value), ((l.zipIdx k).foldl (fun (cs : Array Value) (x : Value × Nat) => cs.setIfInBounds (off + x.2) x.1) cells).size = cells.size ∧
    ∀ i, ((l.zipIdx k).foldl (fun (cs : Array Value) (x : Value × Nat) => cs.setIfInBounds (off + x.2) x.1) cells)[i]? = if off + k ≤ i ∧ i < off + k + l.length ∧ i < cells.size then l[i - (off + k)]? else cells[i]? := by
  intro l
  induction l with
  | nil => intro k cells; exact ⟨rfl, fun i => by rw [if_neg (by simp; omega)]; rfl⟩
  | cons v l ih =>
    intro k cells
    simp only [List.zipIdx_cons, List.foldl_cons]
    obtain ⟨h1, h2⟩ := ih (k + 1) (cells.setIfInBounds (off + k) v)
    refine ⟨by rw [h1]; simp, fun i => ?_⟩
    rw [h2 i]
    simp only [Array.size_setIfInBounds, List.length_cons]
    by_cases h3 : off + (k + 1) ≤ i ∧ i < off + (k + 1) + l.length ∧ i < cells.size
    · rw [if_pos h3, if_pos (by omega), show i - (off + k) = (i - (off + (k + 1))) + 1 by omega, List.getElem?_cons_succ]
    · rw [if_neg h3, Array.getElem?_setIfInBounds]
      by_cases h4 : off + k = i
      · subst h4
        by_cases h5 : off + k < cells.size
        · rw [if_pos rfl, if_pos (by omega), if_pos (by omega)]; simp
        · rw [if_pos rfl, if_neg (by omega), if_neg (by omega), Array.getElem?_eq_none (by omega)]
      · rw [if_neg h4, if_neg (by omega)]

theorem putAt_size (cells : Array Value) (off : Nat) (vs : Array Value) : (putAt cells off vs).size = cells.size := by
  unfold putAt
  rw [← Array.foldl_toList, Array.toList_zipIdx]
  exact (putAt_list off vs.toList 0 cells).1
theorem putAt_get (cells : Array Value) (off : Nat) (vs : Array Value) (h : off + vs.size ≤ cells.size) (i : Nat) : (putAt cells off vs)[i]? = if off ≤ i ∧ i < off + vs.size then vs[i - off]? else cells[i]? := by
  unfold putAt
  rw [← Array.foldl_toList, Array.toList_zipIdx, (putAt_list off vs.toList 0 cells).2 i]
  simp only [Nat.add_zero, Array.length_toList, Array.getElem?_toList]
  by_cases h1 : off ≤ i ∧ i < off + vs.size
  · rw [if_pos h1, if_pos (by omega)]
  · rw [if_neg h1, if_neg (by omega)]

/-- Cells that stand for a list of values. -/
def CellsR (A : Nat → Prop) (m : Mem) (ρ : Nat → Nat) (w : World) (cs : List AV) (vs : Array Value) : Prop := vs.size = cs.length ∧ ∀ i c, cs[i]? = some c → Rep A m ρ w c (vs.getD i undef)

theorem CellsR.put {cs l : List AV} {vs us : Array Value} {off : Nat} (h : CellsR A m ρ w cs vs) (k : CellsR A m ρ w l us) (hle : off + l.length ≤ cs.length) : CellsR A m ρ w (splice cs off l) (putAt vs off us) := by
  refine ⟨by rw [putAt_size, splice_len hle]; exact h.1, fun i c hc => ?_⟩
  rw [splice_get hle] at hc
  rw [Array.getD_eq_getD_getElem?, putAt_get vs off us (by rw [k.1, h.1]; exact hle), k.1]
  split at hc
  · rename_i h1
    rw [if_pos h1, ← Array.getD_eq_getD_getElem?]
    exact k.2 _ c hc
  · rename_i h1
    rw [if_neg h1, ← Array.getD_eq_getD_getElem?]
    exact h.2 _ c hc

theorem fill_ok {place : Nat → Option (Nat × Nat)} {place' : Nat → Option (Nat × Nat)} (hp : ∀ i x, place i = some x → place' i = some x) : ∀ (parts : List (Nat × AV)) (us : List (Nat × Value)) (cs r : List AV) (vs : Array Value),
    fillAV place cs parts = some r → CellsR A m ρ w cs vs → us.length = parts.length → (∀ (i : Nat) (p : Nat × AV), parts[i]? = some p → ∃ u, us[i]? = some (p.1, u) ∧ Rep A m ρ w p.2 u) → ∃ rs, Instr.fill place' vs us = some rs ∧ CellsR A m ρ w r rs := by
  intro parts
  induction parts with
  | nil =>
    intro us cs r vs h hc hl hu
    simp only [fillAV] at h
    obtain rfl := Option.some.inj h
    have : us = [] := List.length_eq_zero_iff.1 (by simpa using hl)
    subst this
    exact ⟨vs, rfl, hc⟩
  | cons p parts ih =>
    intro us cs r vs h hc hl hu
    obtain ⟨i, v⟩ := p
    cases us with
    | nil => simp at hl
    | cons u us =>
      obtain ⟨u1, h1, h2⟩ := hu 0 (i, v) rfl
      simp at h1
      subst h1
      simp only [fillAV] at h
      split at h
      · cases h
      · rename_i off size hpl
        split at h
        · rename_i hcond
          simp only [Bool.and_eq_true, Nat.beq_eq] at hcond
          obtain ⟨⟨hb, hsz⟩, hle⟩ := hcond
          have hle := Nat.le_of_ble_eq_true hle
          have hbc := boxable_cells h2 hb
          have hput := hc.put (off := off) hbc hle
          obtain ⟨rs, e1, e2⟩ := ih us _ r _ h hput (by simpa using hl) (fun j p hj => hu (j + 1) p (by simpa using hj))
          refine ⟨rs, ?_, e2⟩
          simp only [Instr.fill, hp _ _ hpl]
          rw [if_neg]
          · exact e1
          · simp only [Bool.or_eq_true, decide_eq_true_eq, not_or]
            have h3 := hc.1
            have h4 : u1.cells.size = (cellsOf v).length := hbc.1
            exact ⟨by simp; omega, by omega⟩
        · cases h

theorem parts_get {parts : Array (Nat × Operand)} {τ : Nat → AV} (hx : ∀ p ∈ parts, Rep A m ρ w (opd τ p.2) (a.eval p.2)) :
    ∀ (i : Nat) (p : Nat × AV), (parts.toList.map fun y => (y.1, opd τ y.2))[i]? = some p → ∃ u, ((parts.map fun (i, x) => (i, a.eval x)).toList)[i]? = some (p.1, u) ∧ Rep A m ρ w p.2 u := fun i p hp => by
  simp only [List.getElem?_map] at hp
  obtain ⟨q, h1, rfl⟩ := Option.map_eq_some_iff.1 hp
  refine ⟨a.eval q.2, by simp only [Array.toList_map, List.getElem?_map, h1, Option.map_some], hx q ?_⟩
  exact Array.mem_toList_iff.1 (List.mem_iff_getElem?.2 ⟨i, h1⟩)

theorem run_places : ∀ (fs : List Field) (pl : List (Nat × Nat)) (acc : List (Nat × Nat)), placesOf P fs = some pl → (List.mapM (m := Sem) (fun f => do pure (f.offset, ← sizeOf f.type)) fs).run P w = .ok pl w := by
  intro fs
  induction fs with
  | nil => intro pl acc h; simp only [placesOf] at h; obtain rfl := Option.some.inj h; rfl
  | cons f fs ih =>
    intro pl acc h
    simp only [placesOf] at h
    split at h
    · rename_i i r hi hr
      obtain rfl := Option.some.inj h
      rw [List.mapM_cons]
      simp only [Sem.run_bind, run_sizeOf hi, Result.andThen_ok, Sem.run_pure, ih r acc hr]
    · cases h

theorem evBuild_ok {t : TypeId} {parts : Array (Nat × Operand)} {τ : Nat → AV} {r : AV} (h : evBuild P t (parts.toList.map fun y => (y.1, opd τ y.2)) = some r) (hx : ∀ p ∈ parts, Rep A m ρ w (opd τ p.2) (a.eval p.2)) :
    ∃ v, (Instr.build t (parts.map fun (i, x) => (i, a.eval x))).run P w = .ok v w ∧ Rep A m ρ w r v := by
  have hg := parts_get hx
  unfold evBuild at h
  split at h
  · rename_i z fs hz hu
    unfold zeroAV at hz
    obtain ⟨zv, h1, rfl⟩ := Option.map_eq_some_iff.1 hz
    obtain ⟨i, h2, h3⟩ := Option.bind_eq_some_iff.1 h1
    obtain ⟨h4, h5⟩ := avOf_cells w (Alien A m ρ w) zv
    split at h
    · rename_i pl hpl
      obtain ⟨l, hl, rfl⟩ := Option.map_eq_some_iff.1 h
      obtain ⟨rs, e1, e2⟩ := fill_ok (A := A) (m := m) (ρ := ρ) (w := w) (place := fun i => pl[i]?) (place' := fun i => (pl.toArray)[i]?) (fun i x hx => by simpa using hx) _ ((parts.map fun (i, x) => (i, a.eval x)).toList) _ l zv.cells hl ⟨h4, fun i c hc => .base (h5 i c hc)⟩ (by simp) hg
      refine ⟨.agg rs, ?_, .agg _ _ e2.1 e2.2⟩
      have hm : (fs.mapM (m := Sem) fun f => do pure (f.offset, ← sizeOf f.type)).run P w = .ok pl.toArray w := by
        rw [Array.mapM_eq_mapM_toList]
        simp only [Sem.run_map, run_places _ pl [] hpl, Result.andThen_ok]
      simp only [Instr.build, Sem.run_bind, zeroValue, run_typeInfo h2, Result.andThen_ok, h3, run_underlying hu, Sem.run_pure, hm]
      rw [e1]
      rfl
    · cases h
  · rename_i z n e hz hu
    unfold zeroAV at hz
    obtain ⟨zv, h1, rfl⟩ := Option.map_eq_some_iff.1 hz
    obtain ⟨i, h2, h3⟩ := Option.bind_eq_some_iff.1 h1
    obtain ⟨h4, h5⟩ := avOf_cells w (Alien A m ρ w) zv
    split at h
    · rename_i ei hei
      obtain ⟨l, hl, rfl⟩ := Option.map_eq_some_iff.1 h
      obtain ⟨rs, e1, e2⟩ := fill_ok (A := A) (m := m) (ρ := ρ) (w := w) (place := fun j => some (j * ei.size, ei.size)) (place' := fun j => some (j * ei.size, ei.size)) (fun i x hx => hx) _ ((parts.map fun (i, x) => (i, a.eval x)).toList) _ l zv.cells hl ⟨h4, fun i c hc => .base (h5 i c hc)⟩ (by simp) hg
      refine ⟨.agg rs, ?_, .agg _ _ e2.1 e2.2⟩
      simp only [Instr.build, Sem.run_bind, zeroValue, run_typeInfo h2, Result.andThen_ok, h3, run_underlying hu, Sem.run_pure, run_sizeOf hei]
      rw [e1]
      rfl
    · cases h
  · cases h

end
end Go.Proofs.Ytkijlggnnbdeiaa
