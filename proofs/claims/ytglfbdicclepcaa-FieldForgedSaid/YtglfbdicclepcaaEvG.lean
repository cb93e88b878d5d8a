/- Operations without calls, gone on. For every program. Operations on memory and slices, without calls. For every program. Addresses, slices and their lengths. For every program. -/
import Derived.Test.YtglfbdicclepcaaEvD
set_option linter.unusedVariables false
set_option linter.unusedSimpArgs false
namespace Go.Proofs.Ytglfbdicclepcaa
set_option maxRecDepth 100000
section
open Go.RowKit

section
variable {P : Program} {A : Nat → Prop} {m : Mem} {ρ : Nat → Nat} {w : World} {a : Act} {o : Oper} {n0 : Nat}

theorem evUn_ok {op : UnOp} {x r : AV} {v : Value} (h : evUn op x = some r) (hx : Rep A m ρ w x v) : ∃ u, (Op.unary op v).run P w = .ok u w ∧ Rep A m ρ w r u := by
  unfold evUn at h
  split at h
  · obtain rfl := Option.some.inj h; rw [rep_bool hx]; exact ⟨_, rfl, .base (.bool _)⟩
  · obtain rfl := Option.some.inj h; rw [rep_int hx]; exact ⟨_, rfl, .base (.int _ _)⟩
  · obtain rfl := Option.some.inj h; rw [rep_int hx]; exact ⟨_, by simp only [Op.unary, intBits_xor]; rfl, .base (.int _ _)⟩
  · cases h

theorem evConv_ok {src dst : TypeId} {x r : AV} {v : Value} (h : evConv P src dst x = some r) (hx : Rep A m ρ w x v) : ∃ u, (convert src dst v).run P w = .ok u w ∧ Rep A m ρ w r u := by
  unfold evConv at h
  split at h
  · rename_i d k k' n hs hd
    obtain rfl := Option.some.inj h
    rw [rep_int hx]
    exact ⟨_, by simp [convert, run_underlying hs, run_underlying hd, Conv.intToInt], .base (.int _ _)⟩
  · cases h

/-! ### New variables -/

theorem boxable_cells {x : AV} {v : Value} (h : Rep A m ρ w x v) (hb : boxable x = true) : v.cells.size = (cellsOf x).length ∧ ∀ i c, (cellsOf x)[i]? = some c → Rep A m ρ w c (v.cells.getD i undef) :=
  cells_size h (by cases x <;> first | exact .inr ⟨_, rfl⟩ | exact .inl rfl | cases hb)

theorem post_new {vs : Array Value} {t : TypeId} {cs : List AV} {ob : List Prop} (hF : Fits A m ρ w) (hn : m n0 = none) (h : (execOp a.eval o).run P w = .ok (.value (.pointer (some ⟨w.heap.size, 0, none⟩))) (w.alloc (.cells vs t)))
    (hs : vs.size = cs.length) (hc : ∀ i c, cs[i]? = some c → Rep A m ρ w c (vs.getD i undef)) : OpPost P A m ρ w a o n0 ⟨.ptr n0 0, none, [.cells cs], ob⟩ := fun ro K Q hK => by
  obtain ⟨ρ', h1, h2, h3⟩ := step_new hF hn (.cells vs t) (.cells cs) (fun m' ρ' he => ⟨vs, t, heap_new w _, hs, fun i c hi => (hc i c hi).mono he⟩)
  refine wp_val h (hK _ ρ' _ h2 h3 ?_)
  rw [← h1]
  exact .ptr n0 0 cs (by simp [updM])

theorem alloc_ok {t : TypeId} {z : AV} (hF : Fits A m ρ w) (hn : m n0 = none) (ho : o.op = .alloc t) (h : zeroAV P t = some z) : OpPost P A m ρ w a o n0 ⟨.ptr n0 0, none, [.cells (cellsOf z)], []⟩ := by
  unfold zeroAV at h
  obtain ⟨zv, h1, rfl⟩ := Option.map_eq_some_iff.1 h
  obtain ⟨i, h2, h3⟩ := Option.bind_eq_some_iff.1 h1
  obtain ⟨h4, h5⟩ := avOf_cells w (Alien A m ρ w) zv
  refine post_new (vs := zv.cells) (t := t) hF hn (exec_v (s := Instr.alloc t true (.tuple #[])) (by unfold execOp; rw [ho]) ?_) h4 (fun i c hc => .base (h5 i c hc))
  simp [Instr.alloc, zeroValue, run_typeInfo h2, h3, newVar, newRow]

theorem box_ok {t : TypeId} {x : Operand} {y : AV} (hF : Fits A m ρ w) (hn : m n0 = none) (ho : o.op = .box t x) (hx : Rep A m ρ w y (a.eval x)) (h : boxable y = true) : OpPost P A m ρ w a o n0 ⟨.ptr n0 0, none, [.cells (cellsOf y)], []⟩ := by
  obtain ⟨h4, h5⟩ := boxable_cells hx h
  refine post_new (vs := (a.eval x).cells) (t := t) hF hn (exec_v (s := Instr.box t (a.eval x)) (by unfold execOp; rw [ho]) ?_) h4 h5
  simp [Instr.box, newVar, newRow]

/-! ### Structs and arrays by their parts -/

theorem splice_len {cs l : List AV} {off : Nat} (h : off + l.length ≤ cs.length) : (splice cs off l).length = cs.length := by simp [splice]; omega
theorem splice_get {cs l : List AV} {off : Nat} (h : off + l.length ≤ cs.length) (i : Nat) : (splice cs off l)[i]? = if off ≤ i ∧ i < off + l.length then l[i - off]? else cs[i]? := by
  unfold splice
  have hl : (cs.take off).length = off := by simp; omega
  by_cases h1 : i < off
  · rw [if_neg (by omega), List.append_assoc, List.getElem?_append_left (by omega), List.getElem?_take, if_pos h1]
  · by_cases h2 : i < off + l.length
    · rw [if_pos (by omega), List.append_assoc, List.getElem?_append_right (by omega), hl, List.getElem?_append_left (by omega)]
    · rw [if_neg (by omega), List.getElem?_append_right (by simp [hl]; omega), List.getElem?_drop]
      congr 1
      simp [hl]; omega

/-- Values written one behind the other into an array. -/
def putAt (cells : Array Value) (off : Nat) (vs : Array Value) : Array Value := vs.zipIdx.foldl (fun cs (c, j) => cs.setIfInBounds (off + j) c) cells

theorem putAt_list (off : Nat) : ∀ (l : List Value) (k : Nat) (cells : Array Value), ((l.zipIdx k).foldl (fun (cs : Array Value) (x : Value × Nat) => cs.setIfInBounds (off + x.2) x.1) cells).size = cells.size ∧
    ∀ i, ((l.zipIdx k).foldl (fun (cs : Array Value) (x : Value × Nat) => cs.setIfInBounds (off + x.2) x.1) cells)[i]? = if off + k ≤ i ∧ i < off + k + l.length ∧ i < cells.size then l[i - (off + k)]? else cells[i]? := by
  intro l
  induction l with
  | nil => intro k cells; exact ⟨rfl, fun i => by rw [if_neg (by simp; omega)]; rfl⟩
  | cons v l ih =>
    intro k cells
    simp only [List.zipIdx_cons, List.foldl_cons]
    obtain ⟨h1, h2⟩ := ih (k + 1) (cells.setIfInBounds (off + k) v)
    refine ⟨by rw [h1]; simp, fun i => ?_⟩
    rw [h2 i]
    simp only [Array.size_setIfInBounds, List.length_cons]
    by_cases h3 : off + (k + 1) ≤ i ∧ i < off + (k + 1) + l.length ∧ i < cells.size
    · rw [if_pos h3, if_pos (by omega), show i - (off + k) = (i - (off + (k + 1))) + 1 by omega, List.getElem?_cons_succ]
    · rw [if_neg h3, Array.getElem?_setIfInBounds]
      by_cases h4 : off + k = i
      · subst h4
        by_cases h5 : off + k < cells.size
        · rw [if_pos rfl, if_pos (by omega), if_pos (by omega)]; simp
        · rw [if_pos rfl, if_neg (by omega), if_neg (by omega), Array.getElem?_eq_none (by omega)]
      · rw [if_neg h4, if_neg (by omega)]

theorem putAt_size (cells : Array Value) (off : Nat) (vs : Array Value) : (putAt cells off vs).size = cells.size := by
  unfold putAt
  rw [← Array.foldl_toList, Array.toList_zipIdx]
  exact (putAt_list off vs.toList 0 cells).1
theorem putAt_get (cells : Array Value) (off : Nat) (vs : Array Value) (h : off + vs.size ≤ cells.size) (i : Nat) : (putAt cells off vs)[i]? = if off ≤ i ∧ i < off + vs.size then vs[i - off]? else cells[i]? := by
  unfold putAt
  rw [← Array.foldl_toList, Array.toList_zipIdx, (putAt_list off vs.toList 0 cells).2 i]
  simp only [Nat.add_zero, Array.length_toList, Array.getElem?_toList]
  by_cases h1 : off ≤ i ∧ i < off + vs.size
  · rw [if_pos h1, if_pos (by omega)]
  · rw [if_neg h1, if_neg (by omega)]

/-- Cells that stand for a list of values. -/
def CellsR (A : Nat → Prop) (m : Mem) (ρ : Nat → Nat) (w : World) (cs : List AV) (vs : Array Value) : Prop := vs.size = cs.length ∧ ∀ i c, cs[i]? = some c → Rep A m ρ w c (vs.getD i undef)

theorem CellsR.put {cs l : List AV} {vs us : Array Value} {off : Nat} (h : CellsR A m ρ w cs vs) (k : CellsR A m ρ w l us) (hle : off + l.length ≤ cs.length) : CellsR A m ρ w (splice cs off l) (putAt vs off us) := by
  refine ⟨by rw [putAt_size, splice_len hle]; exact h.1, fun i c hc => ?_⟩
  rw [splice_get hle] at hc
  rw [Array.getD_eq_getD_getElem?, putAt_get vs off us (by rw [k.1, h.1]; exact hle), k.1]
  split at hc
  · rename_i h1
    rw [if_pos h1, ← Array.getD_eq_getD_getElem?]
    exact k.2 _ c hc
  · rename_i h1
    rw [if_neg h1, ← Array.getD_eq_getD_getElem?]
    exact h.2 _ c hc

theorem fill_ok {place : Nat → Option (Nat × Nat)} {place' : Nat → Option (Nat × Nat)} (hp : ∀ i x, place i = some x → place' i = some x) : ∀ (parts : List (Nat × AV)) (us : List (Nat × Value)) (cs r : List AV) (vs : Array Value),
    fillAV place cs parts = some r → CellsR A m ρ w cs vs → us.length = parts.length → (∀ (i : Nat) (p : Nat × AV), parts[i]? = some p → ∃ u, us[i]? = some (p.1, u) ∧ Rep A m ρ w p.2 u) → ∃ rs, Instr.fill place' vs us = some rs ∧ CellsR A m ρ w r rs := by
  intro parts
  induction parts with
  | nil =>
    intro us cs r vs h hc hl hu
    simp only [fillAV] at h
    obtain rfl := Option.some.inj h
    have : us = [] := List.length_eq_zero_iff.1 (by simpa using hl)
    subst this
    exact ⟨vs, rfl, hc⟩
  | cons p parts ih =>
    intro us cs r vs h hc hl hu
    obtain ⟨i, v⟩ := p
    cases us with
    | nil => simp at hl
    | cons u us =>
      obtain ⟨u1, h1, h2⟩ := hu 0 (i, v) rfl
      simp at h1
      subst h1
      simp only [fillAV] at h
      split at h
      · cases h
      · rename_i off size hpl
        split at h
        · rename_i hcond
          simp only [Bool.and_eq_true, Nat.beq_eq] at hcond
          obtain ⟨⟨hb, hsz⟩, hle⟩ := hcond
          have hle := Nat.le_of_ble_eq_true hle
          have hbc := boxable_cells h2 hb
          have hput := hc.put (off := off) hbc hle
          obtain ⟨rs, e1, e2⟩ := ih us _ r _ h hput (by simpa using hl) (fun j p hj => hu (j + 1) p (by simpa using hj))
          refine ⟨rs, ?_, e2⟩
          simp only [Instr.fill, hp _ _ hpl]
          rw [if_neg]
          · exact e1
          · simp only [Bool.or_eq_true, decide_eq_true_eq, not_or]
            have h3 := hc.1
            have h4 : u1.cells.size = (cellsOf v).length := hbc.1
            exact ⟨by simp; omega, by omega⟩
        · cases h

theorem parts_get {parts : Array (Nat × Operand)} {τ : Nat → AV} (hx : ∀ p ∈ parts, Rep A m ρ w (opd τ p.2) (a.eval p.2)) :
    ∀ (i : Nat) (p : Nat × AV), (parts.toList.map fun y => (y.1, opd τ y.2))[i]? = some p → ∃ u, ((parts.map fun (i, x) => (i, a.eval x)).toList)[i]? = some (p.1, u) ∧ Rep A m ρ w p.2 u := fun i p hp => by
  simp only [List.getElem?_map] at hp
  obtain ⟨q, h1, rfl⟩ := Option.map_eq_some_iff.1 hp
  refine ⟨a.eval q.2, by simp only [Array.toList_map, List.getElem?_map, h1, Option.map_some], hx q ?_⟩
  exact Array.mem_toList_iff.1 (List.mem_iff_getElem?.2 ⟨i, h1⟩)

theorem run_places : ∀ (fs : List Field) (pl : List (Nat × Nat)) (acc : List (Nat × Nat)), placesOf P fs = some pl → (List.mapM (m := Sem) (fun f => do pure (f.offset, ← sizeOf f.type)) fs).run P w = .ok pl w := by
  intro fs
  induction fs with
  | nil => intro pl acc h; simp only [placesOf] at h; obtain rfl := Option.some.inj h; rfl
  | cons f fs ih =>
    intro pl acc h
    simp only [placesOf] at h
    split at h
    · rename_i i r hi hr
      obtain rfl := Option.some.inj h
      rw [List.mapM_cons]
      simp only [Sem.run_bind, run_sizeOf hi, Result.andThen_ok, Sem.run_pure, ih r acc hr]
    · cases h

theorem evBuild_ok {t : TypeId} {parts : Array (Nat × Operand)} {τ : Nat → AV} {r : AV} (h : evBuild P t (parts.toList.map fun y => (y.1, opd τ y.2)) = some r) (hx : ∀ p ∈ parts, Rep A m ρ w (opd τ p.2) (a.eval p.2)) :
    ∃ v, (Instr.build t (parts.map fun (i, x) => (i, a.eval x))).run P w = .ok v w ∧ Rep A m ρ w r v := by
  have hg := parts_get hx
  unfold evBuild at h
  split at h
  · rename_i z fs hz hu
    unfold zeroAV at hz
    obtain ⟨zv, h1, rfl⟩ := Option.map_eq_some_iff.1 hz
    obtain ⟨i, h2, h3⟩ := Option.bind_eq_some_iff.1 h1
    obtain ⟨h4, h5⟩ := avOf_cells w (Alien A m ρ w) zv
    split at h
    · rename_i pl hpl
      obtain ⟨l, hl, rfl⟩ := Option.map_eq_some_iff.1 h
      obtain ⟨rs, e1, e2⟩ := fill_ok (A := A) (m := m) (ρ := ρ) (w := w) (place := fun i => pl[i]?) (place' := fun i => (pl.toArray)[i]?) (fun i x hx => by simpa using hx) _ ((parts.map fun (i, x) => (i, a.eval x)).toList) _ l zv.cells hl ⟨h4, fun i c hc => .base (h5 i c hc)⟩ (by simp) hg
      refine ⟨.agg rs, ?_, .agg _ _ e2.1 e2.2⟩
      have hm : (fs.mapM (m := Sem) fun f => do pure (f.offset, ← sizeOf f.type)).run P w = .ok pl.toArray w := by
        rw [Array.mapM_eq_mapM_toList]
        simp only [Sem.run_map, run_places _ pl [] hpl, Result.andThen_ok]
      simp only [Instr.build, Sem.run_bind, zeroValue, run_typeInfo h2, Result.andThen_ok, h3, run_underlying hu, Sem.run_pure, hm]
      rw [e1]
      rfl
    · cases h
  · rename_i z n e hz hu
    unfold zeroAV at hz
    obtain ⟨zv, h1, rfl⟩ := Option.map_eq_some_iff.1 hz
    obtain ⟨i, h2, h3⟩ := Option.bind_eq_some_iff.1 h1
    obtain ⟨h4, h5⟩ := avOf_cells w (Alien A m ρ w) zv
    split at h
    · rename_i ei hei
      obtain ⟨l, hl, rfl⟩ := Option.map_eq_some_iff.1 h
      obtain ⟨rs, e1, e2⟩ := fill_ok (A := A) (m := m) (ρ := ρ) (w := w) (place := fun j => some (j * ei.size, ei.size)) (place' := fun j => some (j * ei.size, ei.size)) (fun i x hx => hx) _ ((parts.map fun (i, x) => (i, a.eval x)).toList) _ l zv.cells hl ⟨h4, fun i c hc => .base (h5 i c hc)⟩ (by simp) hg
      refine ⟨.agg rs, ?_, .agg _ _ e2.1 e2.2⟩
      simp only [Instr.build, Sem.run_bind, zeroValue, run_typeInfo h2, Result.andThen_ok, h3, run_underlying hu, Sem.run_pure, run_sizeOf hei]
      rw [e1]
      rfl
    · cases h
  · cases h

end
end
section
open Go.RowKit

section
variable {P : Program} {A : Nat → Prop} {m : Mem} {ρ : Nat → Nat} {w : World} {a : Act} {o : Oper} {n0 : Nat}

/-- A row of elements, k cells each, at the start of an array. -/
structure RowR (A : Nat → Prop) (m : Mem) (ρ : Nat → Nat) (w : World) (k : Nat) (es : List AV) (vs : Array Value) : Prop where
  size : es.length * k ≤ vs.size
  len : ∀ e ∈ es, (cellsOf e).length = k
  at_ : ∀ i e j c, es[i]? = some e → (cellsOf e)[j]? = some c → Rep A m ρ w c (vs.getD (i * k + j) undef)

theorem RowR.mono {m' : Mem} {ρ' : Nat → Nat} {w' : World} {k : Nat} {es : List AV} {vs : Array Value} (h : RowR A m ρ w k es vs) (he : Ext m ρ w m' ρ' w') : RowR A m' ρ' w' k es vs :=
  ⟨h.size, h.len, fun i e j c h1 h2 => (h.at_ i e j c h1 h2).mono he⟩

theorem row_of_fits {id k ver : Nat} {es : List AV} (hF : Fits A m ρ w) (hm : m id = some (.row k es ver)) : 0 < k ∧ ∃ vs t, w.heap[ρ id]? = some (.cells vs t (0, 0)) ∧ RowR A m ρ w k es vs := by
  obtain ⟨h0, h1, vs, t, h2, h3, h4⟩ := hF.at_ id _ hm
  exact ⟨h0, vs, t, h2, h3, h1, h4⟩

theorem RowR.fits {k ver b : Nat} {es : List AV} {vs : Array Value} {t : TypeId} (h : RowR A m ρ w k es vs) (h0 : 0 < k) (hv : w.heap[b]? = some (.cells vs t (0, 0))) : FitsB A m ρ w b (.row k es ver) :=
  ⟨h0, h.len, vs, t, hv, h.size, h.at_⟩

theorem idx_lt {n k i j : Nat} (hi : i < n) (hj : j < k) : i * k + j < n * k := by
  have h1 : (i + 1) * k ≤ n * k := Nat.mul_le_mul_right k hi
  rw [Nat.add_mul, Nat.one_mul] at h1
  omega
theorem idx_eq {k i j i' j' : Nat} (hj : j < k) (hj' : j' < k) (h : i * k + j = i' * k + j') : i = i' ∧ j = j' := by
  have h1 : (i * k + j) / k = i := by rw [Nat.mul_comm, Nat.mul_add_div (by omega), Nat.div_eq_of_lt hj, Nat.add_zero]
  have h2 : (i' * k + j') / k = i' := by rw [Nat.mul_comm, Nat.mul_add_div (by omega), Nat.div_eq_of_lt hj', Nat.add_zero]
  have h3 : i = i' := by rw [← h1, ← h2, h]
  subst h3
  exact ⟨rfl, by omega⟩

theorem RowR.lt {k : Nat} {es : List AV} {vs : Array Value} (h : RowR A m ρ w k es vs) {i j : Nat} {e c : AV} (he : es[i]? = some e) (hc : (cellsOf e)[j]? = some c) : i * k + j < vs.size ∧ j < k := by
  have h1 := (List.getElem?_eq_some_iff.1 he).1
  have h2 := (List.getElem?_eq_some_iff.1 hc).1
  have h3 := h.len e (List.mem_iff_getElem?.2 ⟨i, he⟩)
  have := idx_lt h1 (show j < k by omega)
  have := h.size
  exact ⟨by omega, by omega⟩

theorem getD_of {vs : Array Value} {i : Nat} (h : i < vs.size) : vs[i]? = some (vs.getD i undef) := by simp [Array.getD_eq_getD_getElem?, h]

/-! ### Loads -/

theorem elemAt_ok {es : List AV} {ix : Nat} {s : Sup} {e : AV} {ob : List Prop} (h : elemAt es ix s = some (e, ob)) (hob : AllP ob) : es[ix]? = some e := by
  unfold elemAt at h
  split at h
  · cases h; exact hob.1
  · cases h; exact hob.1
  · obtain ⟨e', h1, h2⟩ := Option.map_eq_some_iff.1 h
    cases h2; exact h1

theorem evLoad_ok {t : TypeId} {p r : AV} {look : Mem} {s : Sup} {ob : List Prop} {v : Value} (hF : Fits A m ρ w) (hl : ∀ id b, look id = some b → m id = some b) (h : evLoad P t p look s = some (r, ob)) (hob : AllP ob) (hp : Rep A m ρ w p v) :
    ∃ u, (Instr.loadAt t v).run P w = .ok u w ∧ Rep A m ρ w r u := by
  unfold evLoad at h
  split at h
  · rename_i i d hi hd
    split at h
    · rename_i id off
      split at h
      · rename_i cs hlk
        obtain ⟨r', h1, h2⟩ := Option.map_eq_some_iff.1 h
        cases h2
        have hm := hl _ _ hlk
        obtain ⟨rfl, _⟩ := rep_ptr hp
        obtain ⟨vs, t', hv, hs, hr⟩ := hF.at_ id _ hm
        have := run_loadVar (A := A) (m := m) (ρ := ρ) (w := w) hi hd (b := ρ id) (o := 0) (off := off) (cs := cs) (x := fun j => vs.getD j undef) h1 (fun j c hc => by
          have hj := (List.getElem?_eq_some_iff.1 hc).1
          rw [cell_of_cells hv, Nat.zero_add]
          exact getD_of (by omega)) hr
        simpa [Instr.loadAt, Instr.sureAddr] using this
      · cases h
    · rename_i id ver ix off
      split at h
      · rename_i k es ver' hlk
        split at h
        · rename_i hv
          obtain rfl := Nat.eq_of_beq_eq_true hv
          split at h
          · rename_i e ob' hel
            obtain ⟨r', h1, h2⟩ := Option.map_eq_some_iff.1 h
            cases h2
            have hm := hl _ _ hlk
            have he := elemAt_ok hel hob
            obtain ⟨rfl, _⟩ := rep_ptrR hp hm
            obtain ⟨h0, vs, t', hv, hR⟩ := row_of_fits hF hm
            have := run_loadVar (A := A) (m := m) (ρ := ρ) (w := w) hi hd (b := ρ id) (o := ix * k) (off := off) (cs := cellsOf e) (x := fun j => vs.getD (ix * k + j) undef) h1 (fun j c hc => by
              rw [cell_of_cells hv]
              exact getD_of (hR.lt he hc).1) (fun j c hc => hR.at_ ix e j c he hc)
            simpa [Instr.loadAt, Instr.sureAddr] using this
          · cases h
        · cases h
      · cases h
    · rename_i e off
      obtain ⟨r', h1, h2⟩ := Option.map_eq_some_iff.1 h
      cases h2
      obtain ⟨b, o', x, rfl, hB, hx, hr⟩ := rep_ptrIn hp
      have := run_loadVar (A := A) (m := m) (ρ := ρ) (w := w) hi hd (b := b) (o := o') (off := off) (cs := cellsOf e) (x := x) h1 hx (fun j c hc => .base (hr j c hc))
      simpa [Instr.loadAt, Instr.sureAddr] using this
    · cases h
  · cases h

/-! ### Stores -/

theorem run_storeCells : ∀ (l : List Value) (b o i : Nat) (w : World) (vs : Array Value) (t : TypeId), w.heap[b]? = some (.cells vs t (0, 0)) → o + i + l.length ≤ vs.size → (∀ v ∈ l, oneC v = true) →
    ∃ w' vs', (storeCells ⟨b, o, none⟩ l i).run P w = .ok () w' ∧ w'.os = w.os ∧ w'.tape = w.tape ∧ w'.output = w.output ∧ w'.heap.size = w.heap.size ∧ w'.heap[b]? = some (.cells vs' t (0, 0)) ∧ vs'.size = vs.size ∧
      (∀ q, q ≠ b → w'.heap[q]? = w.heap[q]?) ∧ ∀ q, vs'[q]? = if o + i ≤ q ∧ q < o + i + l.length then l[q - (o + i)]? else vs[q]? := by
  intro l
  induction l with
  | nil =>
    intro b o i w vs t hv hle _
    exact ⟨w, vs, by simp [storeCells], rfl, rfl, rfl, rfl, hv, rfl, fun _ _ => rfl, fun q => by rw [if_neg (by simp only [List.length_nil]; omega)]⟩
  | cons v l ih =>
    intro b o i w vs t hv hle h1
    have hlt : o + i < vs.size := by simp at hle; omega
    have hset : (w.setCell ⟨b, o + i, none⟩ v).heap[b]? = some (.cells (vs.setIfInBounds (o + i) v) t (0, 0)) := by
      show (w.heap.modify b _)[b]? = _
      rw [Array.getElem?_modify, if_pos rfl, hv]
      rfl
    obtain ⟨w', vs', e1, e2, e3, e4, e5, e6, e7, e8, e9⟩ := ih b o (i + 1) (w.setCell ⟨b, o + i, none⟩ v) (vs.setIfInBounds (o + i) v) t hset (by simp at hle ⊢; omega) (fun u hu => h1 u (by simp [hu]))
    refine ⟨w', vs', ?_, e2, e3, e4, by rw [e5]; simp [World.setCell], e6, by rw [e7]; simp, fun q hq => ?_, fun q => ?_⟩
    · simp only [storeCells, Sem.run_bind, addr_add]
      have hv1 : v.oneCell' = true := by
        have := h1 v (by simp)
        cases v <;> first | rfl | cases this
      rw [run_store P w _ v _ hv1, cell_of_cells hv, getD_of hlt, frozen_of_cells hv]
      simpa using e1
    · rw [e8 q hq, Below.heap_setCell w ⟨b, o + i, none⟩ v q hq]
    · rw [e9 q]
      simp only [List.length_cons]
      by_cases h2 : o + (i + 1) ≤ q ∧ q < o + (i + 1) + l.length
      · rw [if_pos h2, if_pos (by omega), show q - (o + i) = (q - (o + (i + 1))) + 1 by omega, List.getElem?_cons_succ]
      · rw [if_neg h2, Array.getElem?_setIfInBounds]
        by_cases h3 : o + i = q
        · subst h3
          rw [if_pos rfl, if_pos (by omega), if_pos (by omega)]; simp
        · rw [if_neg h3, if_neg (by omega)]

theorem cellsR_put {cs l : List AV} {vs vs' us : Array Value} {off : Nat} (h : CellsR A m ρ w cs vs) (k : CellsR A m ρ w l us) (hle : off + l.length ≤ cs.length) (hs : vs'.size = vs.size)
    (hg : ∀ q, vs'[q]? = if off ≤ q ∧ q < off + us.toList.length then us.toList[q - off]? else vs[q]?) : CellsR A m ρ w (splice cs off l) vs' := by
  refine ⟨by rw [hs, splice_len hle]; exact h.1, fun i c hc => ?_⟩
  rw [splice_get hle] at hc
  rw [Array.getD_eq_getD_getElem?, hg, Array.length_toList, k.1]
  split at hc
  · rename_i h1
    rw [if_pos h1, Array.getElem?_toList, ← Array.getD_eq_getD_getElem?]
    exact k.2 _ c hc
  · rename_i h1
    rw [if_neg h1, ← Array.getD_eq_getD_getElem?]
    exact h.2 _ c hc

theorem all_cells {y : AV} (h : (cellsOf y).all isCell = true) : isCell y = true ∨ ∃ cs, y = .agg cs := by
  cases y <;> first | exact .inr ⟨_, rfl⟩ | exact .inl rfl | (simp [cellsOf, isCell] at h)

theorem oneC_cells {y : AV} {v : Value} (h : (cellsOf y).all isCell = true) (hv : Rep A m ρ w y v) : CellsR A m ρ w (cellsOf y) v.cells ∧ ∀ u ∈ v.cells.toList, oneC u = true := by
  have hc : CellsR A m ρ w (cellsOf y) v.cells := cells_size hv (all_cells h)
  refine ⟨hc, fun u hu => ?_⟩
  obtain ⟨i, hi⟩ := List.mem_iff_getElem?.1 hu
  have h1 := (List.getElem?_eq_some_iff.1 hi).1
  have h2 : i < (cellsOf y).length := by rw [← hc.1]; simpa using h1
  have h3 := hc.2 i (cellsOf y)[i] (by simp [h2])
  have h4 : isCell (cellsOf y)[i] = true := List.all_eq_true.1 h _ (List.getElem_mem h2)
  have h5 : v.cells.getD i undef = u := by
    rw [Array.getD_eq_getD_getElem?, ← Array.getElem?_toList, hi]; rfl
  rw [h5] at h3
  exact h3.oneC h4

theorem RowR.set {k : Nat} {es : List AV} {vs vs' : Array Value} {ix : Nat} {e : AV} (h : RowR A m ρ w k es vs) (hs : vs'.size = vs.size) (hix : ix < es.length) (hl : (cellsOf e).length = k)
    (h1 : ∀ j c, (cellsOf e)[j]? = some c → Rep A m ρ w c (vs'.getD (ix * k + j) undef)) (h2 : ∀ i j, i ≠ ix → j < k → vs'[i * k + j]? = vs[i * k + j]?) : RowR A m ρ w k (es.set ix e) vs' := by
  refine ⟨by rw [List.length_set, hs]; exact h.size, fun x hx => ?_, fun i x j c hx hc => ?_⟩
  · rcases List.mem_or_eq_of_mem_set hx with hx | rfl
    · exact h.len x hx
    · exact hl
  · rw [List.getElem?_set] at hx
    by_cases hi : ix = i
    · subst hi
      rw [if_pos rfl] at hx
      simp only [hix, if_true] at hx
      obtain rfl := Option.some.inj hx
      exact h1 j c hc
    · rw [if_neg hi] at hx
      have := h.lt hx hc
      rw [Array.getD_eq_getD_getElem?, h2 i j (Ne.symm hi) this.2, ← Array.getD_eq_getD_getElem?]
      exact h.at_ i x j c hx hc

theorem store_ok {t : TypeId} {x y : Operand} {p v : AV} {look : Mem} {s : Sup} {id : Nat} {blk : Blk} {ob : List Prop} (ho : o.op = .store t x y) (hF : Fits A m ρ w) (hl : ∀ id b, look id = some b → m id = some b)
    (h : evStore P t p v look s = some (id, blk, ob)) (hob : AllP ob) (hp : Rep A m ρ w p (a.eval x)) (hy : Rep A m ρ w v (a.eval y)) : OpPost P A m ρ w a o n0 ⟨.tuple [], some (id, blk), [], ob⟩ := by
  intro ro K Q hK
  have fin : ∀ {w' : World}, (Instr.storeAt t (a.eval x) (a.eval y)).run P w = .ok () w' → Ext m ρ w (updM m (some (id, blk)) n0 []) ρ w' → Fits A (updM m (some (id, blk)) n0 []) ρ w' → o.wpIn (FR ro) 0 P a w K Q := fun hr h1 h2 =>
    wp_unit (exec_u (s := Instr.storeAt t (a.eval x) (a.eval y)) (by unfold execOp; rw [ho]) hr) (hK undef ρ _ h1 h2 (.base (.tuple [] #[] rfl (fun i c hc => by simp at hc))))
  unfold evStore at h
  split at h
  · rename_i i hi
    split at h
    · rename_i hcond
      simp only [Bool.and_eq_true, Nat.beq_eq] at hcond
      obtain ⟨hall, hsz⟩ := hcond
      obtain ⟨hc, hone⟩ := oneC_cells hall hy
      have hst : ∀ (ad : Addr), (storeVar t ad (a.eval y)).run P w = (storeCells ad (a.eval y).cells.toList).run P w := fun ad => by
        simp only [storeVar, Sem.run_bind, run_sizeOf hi, Result.andThen_ok]
        rw [if_neg (by have := hc.1; omega)]
      split at h
      · rename_i id' off
        split at h
        · rename_i cs hlk
          split at h
          · rename_i hle
            have hle := Nat.le_of_ble_eq_true hle
            cases h
            have hm := hl _ _ hlk
            obtain ⟨hpe, _⟩ := rep_ptr hp
            obtain ⟨vs, t', hv, hs, hr⟩ := hF.at_ id _ hm
            obtain ⟨w', vs', e1, e2, e3, e4, e5, e6, e7, e8, e9⟩ := run_storeCells (P := P) (a.eval y).cells.toList (ρ id) off 0 w vs t' hv (by rw [Array.length_toList, hc.1]; omega) hone
            have hcp := cellsR_put ⟨hs, hr⟩ hc hle e7 (by simpa using e9)
            obtain ⟨h1, h2⟩ := step_set (n0 := n0) (blk' := .cells (splice cs off (cellsOf v))) hF hm (splice_len hle) hv e2 e3 e4 e5 e6 e7 e8 (fun m' he => ⟨vs', t', e6, hcp.1, fun i c hi => (hcp.2 i c hi).mono he⟩)
            exact fin (by rw [hpe]; simp only [Instr.storeAt, Instr.sureAddr, Sem.run_bind, Sem.run_pure, Result.andThen_ok, hst]; exact e1) h1 h2
          · cases h
        · cases h
      · rename_i id' ver ix off
        split at h
        · rename_i k es ver' hlk
          split at h
          · rename_i hvv
            obtain rfl := Nat.eq_of_beq_eq_true hvv
            split at h
            · rename_i e ob' hel
              split at h
              · rename_i hle
                have hle := Nat.le_of_ble_eq_true hle
                cases h
                have hm := hl _ _ hlk
                have he := elemAt_ok hel hob
                have hix := (List.getElem?_eq_some_iff.1 he).1
                obtain ⟨hpe, _⟩ := rep_ptrR hp hm
                obtain ⟨h0, vs, t', hv, hR⟩ := row_of_fits hF hm
                have hlen := hR.len e (List.mem_iff_getElem?.2 ⟨ix, he⟩)
                have hlt := idx_lt (k := k) (j := k - 1) hix (by omega)
                have hsz2 := hR.size
                obtain ⟨w', vs', e1, e2, e3, e4, e5, e6, e7, e8, e9⟩ := run_storeCells (P := P) (a.eval y).cells.toList (ρ id) (ix * k + off) 0 w vs t' hv (by rw [Array.length_toList, hc.1]; omega) hone
                have hre : cellsOf (reElem e off v) = splice (cellsOf e) off (cellsOf v) := by
                  unfold reElem
                  split
                  · rfl
                  · rename_i hna
                    have hne : cellsOf e = [e] := by cases e <;> first | rfl | exact (hna _ rfl).elim
                    rw [hne] at hle ⊢
                    have hlen1 := splice_len hle
                    have hg := splice_get hle 0
                    cases hsp : splice [e] off (cellsOf v) with
                    | nil => rw [hsp] at hlen1; cases hlen1
                    | cons c l =>
                      rw [hsp] at hlen1 hg
                      have hl0 : l = [] := List.length_eq_zero_iff.1 (by simpa using hlen1)
                      subst hl0
                      show cellsOf c = [c]
                      simp only [List.getElem?_cons_zero] at hg
                      split at hg
                      · have h9 : isCell c = true := List.all_eq_true.1 hall c (List.mem_iff_getElem?.2 ⟨_, hg.symm⟩)
                        cases c <;> first | rfl | cases h9
                      · obtain rfl := Option.some.inj hg
                        exact hne
                have hrow : RowR A m ρ w k (es.set ix (reElem e off v)) vs' := by
                  refine hR.set e7 hix (by rw [hre, splice_len hle]; exact hlen) (fun j c hjc => ?_) (fun i j hi hj => ?_)
                  · rw [hre, splice_get hle] at hjc
                    rw [Array.getD_eq_getD_getElem?, e9]
                    simp only [Nat.add_zero, Array.length_toList, hc.1]
                    split at hjc
                    · rename_i h7
                      rw [if_pos (by omega), Array.getElem?_toList, ← Array.getD_eq_getD_getElem?, show ix * k + j - (ix * k + off) = j - off by omega]
                      exact hc.2 _ c hjc
                    · rename_i h7
                      rw [if_neg (by omega), ← Array.getD_eq_getD_getElem?]
                      exact hR.at_ ix e j c he hjc
                  · rw [e9, if_neg]
                    simp only [Nat.add_zero, Array.length_toList, hc.1]
                    intro ⟨h7, h8⟩
                    have : i * k + j = ix * k + (i * k + j - ix * k) := by omega
                    exact hi (idx_eq hj (show i * k + j - ix * k < k by omega) this).1
                obtain ⟨h1, h2⟩ := step_set (n0 := n0) (blk' := .row k (es.set ix (reElem e off v)) ver) hF hm ⟨rfl, Nat.le_refl _, fun _ => by simp⟩ hv e2 e3 e4 e5 e6 e7 e8 (fun m' he => (hrow.mono he).fits h0 e6)
                exact fin (by rw [hpe]; simp only [Instr.storeAt, Instr.sureAddr, Sem.run_bind, Sem.run_pure, Result.andThen_ok, hst]; exact e1) h1 h2
              · cases h
            · cases h
          · cases h
        · cases h
      · cases h
    · cases h
  · cases h

end
end
section
open Go.RowKit

section
variable {P : Program} {A : Nat → Prop} {m : Mem} {ρ : Nat → Nat} {w : World} {a : Act} {o : Oper} {n0 : Nat}

theorem cur_ok {look : Mem} {id ver : Nat} (hl : ∀ id b, look id = some b → m id = some b) (h : cur look id ver = true) : ∃ k es, m id = some (.row k es ver) := by
  unfold cur at h
  split at h
  · rename_i k es ver' hlk
    obtain rfl := Nat.eq_of_beq_eq_true h
    exact ⟨k, es, hl _ _ hlk⟩
  · cases h

theorem evFieldAddr_ok {t : TypeId} {p r : AV} {f : Nat} {look : Mem} {v : Value} (hl : ∀ id b, look id = some b → m id = some b) (h : evFieldAddr P t p f look = some r) (hp : Rep A m ρ w p v) :
    ∃ u, (Instr.fieldAt t v f).run P w = .ok u w ∧ Rep A m ρ w r u := by
  unfold evFieldAddr at h
  split at h
  · rename_i fs hu
    split at h
    · rename_i fd hfd
      split at h
      · rename_i i hi
        split at h
        · cases h
        · rename_i hz
          have hz : ¬ i.size = 0 := fun e => hz (by rw [e]; rfl)
          have hplace : ∀ b o, (fieldPlace ⟨b, o, none⟩ fd).run P w = .ok ⟨b, o + fd.offset, none⟩ w := fun b o => by
            simp only [fieldPlace, Sem.run_bind, run_sizeOf hi, Result.andThen_ok, if_neg hz, Sem.run_pure, addr_add]
          split at h
          · rename_i id off
            obtain rfl := Option.some.inj h
            obtain ⟨rfl, cs, hm⟩ := rep_ptr hp
            exact ⟨_, by simp [Instr.fieldAt, run_underlying hu, hfd, Instr.sureAddr, hplace], .ptr id _ cs hm⟩
          · rename_i id ver ix off
            split at h
            · rename_i hcur
              obtain ⟨k, es, hm⟩ := cur_ok hl hcur
              obtain rfl := Option.some.inj h
              obtain ⟨rfl, hlt⟩ := rep_ptrR hp hm
              exact ⟨_, by simp [Instr.fieldAt, run_underlying hu, hfd, Instr.sureAddr, hplace]; rfl, .ptrR id ver ix _ k es ver _ hm (Nat.le_refl _) (fun _ => ⟨hlt, by rw [Nat.add_assoc]⟩)⟩
            · cases h
          · rename_i e off
            obtain rfl := Option.some.inj h
            obtain ⟨b, o', x, rfl, hB, hx, hr⟩ := rep_ptrIn hp
            exact ⟨_, by simp [Instr.fieldAt, run_underlying hu, hfd, Instr.sureAddr, hplace]; rfl, .base (by rw [Nat.add_assoc]; exact .ptrIn e _ b o' x hB hx hr)⟩
          · cases h
      · cases h
    · cases h
  · cases h

theorem evField_ok {t : TypeId} {x r : AV} {f : Nat} {v : Value} (h : evField P t x f = some r) (hx : Rep A m ρ w x v) : ∃ u, (Instr.field t v f).run P w = .ok u w ∧ Rep A m ρ w r u := by
  unfold evField at h
  split at h
  · rename_i fs cs hu
    split at h
    · rename_i fd hfd
      obtain ⟨vs, rfl, hs, hr⟩ := rep_agg hx
      obtain ⟨u, h1, h2⟩ := run_part h hs hr
      exact ⟨u, by simp [Instr.field, run_underlying hu, hfd, asAgg, h1], h2⟩
    · cases h
  · cases h

theorem idxOf_ok {i : Int} {n : Nat} {s : Sup} (h : AllP (idxOf i n s).2) : 0 ≤ i ∧ i < n ∧ i.toNat = (idxOf i n s).1 := by
  unfold idxOf at h ⊢
  split at h
  · have h1 : i = _ := h.1
    have h2 : _ < n := h.2.1
    subst h1
    exact ⟨by omega, by omega, by simp⟩
  · exact ⟨h.1.1, h.1.2, rfl⟩

theorem evIndexAddr_ok {t : TypeId} {x ix r : AV} {look : Mem} {s : Sup} {ob : List Prop} {v vi : Value} (hF : Fits A m ρ w) (hl : ∀ id b, look id = some b → m id = some b) (h : evIndexAddr P t x ix look s = some (r, ob)) (hob : AllP ob)
    (hx : Rep A m ρ w x v) (hi : Rep A m ρ w ix vi) : ∃ u, (Instr.indexAt t v vi).run P w = .ok u w ∧ Rep A m ρ w r u := by
  unfold evIndexAddr at h
  split at h
  · rename_i kk i n e hu
    rw [rep_int hi]
    split at h
    · rename_i ei hei
      have hrun : ∀ b o, AllP (idxOf i n s).2 → (Instr.indexAt t (.pointer (some ⟨b, o, none⟩)) (.int kk i)).run P w = .ok (.pointer (some ⟨b, o + (idxOf i n s).1 * ei.size, none⟩)) w := fun b o ho => by
        obtain ⟨h1, h2, h3⟩ := idxOf_ok ho
        simp only [Instr.indexAt, Sem.run_bind, asIntOf, Sem.run_pure, Result.andThen_ok, run_underlying hu, Instr.sureAddr, run_sizeOf hei]
        rw [if_pos ⟨h1, h2⟩]
        simp only [Sem.run_bind, run_sizeOf hei, Result.andThen_ok, Sem.run_pure, addr_add, h3]
      split at h
      · rename_i id off
        cases h
        obtain ⟨rfl, cs, hm⟩ := rep_ptr hx
        exact ⟨_, hrun _ _ hob, .ptr id _ cs hm⟩
      · rename_i id ver j off
        split at h
        · rename_i hcur
          cases h
          obtain ⟨k, es, hm⟩ := cur_ok hl hcur
          obtain ⟨rfl, hlt⟩ := rep_ptrR hx hm
          exact ⟨_, hrun _ _ hob, .ptrR id ver j _ k es ver _ hm (Nat.le_refl _) (fun _ => ⟨hlt, by rw [Nat.add_assoc]⟩)⟩
        · cases h
      · rename_i e off
        cases h
        obtain ⟨b, o', x, rfl, hB, hx, hr⟩ := rep_ptrIn hx
        exact ⟨_, hrun _ _ hob, .base (by rw [Nat.add_assoc]; exact .ptrIn e _ b o' x hB hx hr)⟩
      · cases h
    · cases h
  · rename_i kk i e hu
    rw [rep_int hi]
    split at h
    · rename_i ei hei
      split at h
      · rename_i l
        split at h
        · rename_i v' ob' hel
          split at h
          · rename_i hsz
            have hsz := Nat.eq_of_beq_eq_true hsz
            cases h
            have h0 : 0 ≤ i := hob.1
            have he := elemAt_ok hel hob.2
            have hlt := (List.getElem?_eq_some_iff.1 he).1
            obtain ⟨b, o', cap, k, x, rfl, hB, hk, hx, hr⟩ := rep_list_at hx (fun e => by subst e; simp at he)
            have hkk : k = ei.size := by rw [← hsz]; exact (hk _ (List.mem_iff_getElem?.2 ⟨_, he⟩)).symm
            subst hkk
            refine ⟨.pointer (some ⟨b, o' + i.toNat * ei.size + 0, none⟩), ?_, .base (.ptrIn v' 0 b (o' + i.toNat * ei.size) (x i.toNat) hB (fun j c hc => hx _ _ j c he hc) (fun j c hc => hr _ _ j c he hc))⟩
            simp only [Instr.indexAt, Sem.run_bind, asIntOf, Sem.run_pure, Result.andThen_ok, run_underlying hu]
            rw [if_pos ⟨h0, by omega⟩]
            simp only [Sem.run_bind, run_sizeOf hei, Result.andThen_ok, Sem.run_pure, addr_add, Nat.add_zero]
          · cases h
        · cases h
      · rename_i id lo len ver
        split at h
        · rename_i k es ver' hlk
          split at h
          · rename_i hc
            simp only [Bool.and_eq_true, Nat.beq_eq] at hc
            obtain ⟨rfl, rfl⟩ := hc
            cases h
            have hm := hl _ _ hlk
            obtain ⟨h1, h2⟩ := hob.1
            obtain ⟨h3, o', c, vs, t', rfl, h4, h5, h6, h7⟩ := rep_slice hx hm
            have hlt : i.toNat < len := by omega
            have ho' := h4 (by omega)
            refine ⟨.pointer (some ⟨ρ id, (lo + i.toNat) * ei.size + 0, none⟩), ?_, .ptrR id ver _ 0 ei.size es ver _ hm (Nat.le_refl _) (fun _ => ⟨by omega, rfl⟩)⟩
            simp only [Instr.indexAt, Sem.run_bind, asIntOf, Sem.run_pure, Result.andThen_ok, run_underlying hu]
            rw [if_pos ⟨h1, by omega⟩]
            simp only [Sem.run_bind, run_sizeOf hei, Result.andThen_ok, Sem.run_pure, addr_add, Nat.add_zero, ho', Nat.add_mul]
          · cases h
        · cases h
      · cases h
    · cases h
  · cases h

theorem evIndex_ok {t : TypeId} {x ix r : AV} {s : Sup} {ob : List Prop} {v vi : Value} (h : evIndex P t x ix s = some (r, ob)) (hob : AllP ob) (hx : Rep A m ρ w x v) (hi : Rep A m ρ w ix vi) :
    ∃ u, (Instr.index t v vi).run P w = .ok u w ∧ Rep A m ρ w r u := by
  unfold evIndex at h
  split at h
  · rename_i kk i n e cs hu
    rw [rep_int hi]
    split at h
    · rename_i ei hei
      obtain ⟨r', h1, h2⟩ := Option.map_eq_some_iff.1 h
      cases h2
      obtain ⟨vs, rfl, hs, hr⟩ := rep_agg hx
      obtain ⟨h3, h4, h5⟩ := idxOf_ok hob
      obtain ⟨u, h6, h7⟩ := run_part h1 hs hr
      refine ⟨u, ?_, h7⟩
      simp only [Instr.index, Sem.run_bind, asIntOf, Sem.run_pure, Result.andThen_ok, run_underlying hu]
      rw [if_pos ⟨h3, h4⟩]
      simp only [Sem.run_bind, run_sizeOf hei, Result.andThen_ok, h5, h6]
    · cases h
  · rename_i kk i b hu
    split at h
    · rename_i k n
      cases h
      obtain ⟨⟨h0, h1⟩, _⟩ := hob
      rw [rep_int hi, rep_str hx]
      obtain ⟨y, h2, h3⟩ := Option.map_eq_some_iff.1 h1
      subst h3
      refine ⟨_, ?_, .base (.int _ _)⟩
      simp only [Instr.index, Sem.run_bind, asIntOf, Sem.run_pure, Result.andThen_ok, run_underlying hu]
      rw [if_pos h0, h2]
      rfl
    · cases h
  · cases h

/-! ### Maps -/

theorem find_mp {k : Int} : ∀ {es : List AV} {ents : List MapEntry} {b : Nat} (j : Nat), ents.length = es.length → (∀ i x e, es[i]? = some x → ents[i]? = some e → FitsE A m ρ w (i + b) x e) →
    (mpGet es k = none ∧ (∀ y, mpPut es k y = es ++ [.agg [.int .i64 k, y]]) ∧ Instr.findNow (.int .i64) (.int .i64 k) ents j = some none) ∨
    ∃ i x e, es[i]? = some (.agg [.int .i64 k, x]) ∧ ents[i]? = some e ∧ mpGet es k = some x ∧ (∀ y, mpPut es k y = es.set i (.agg [.int .i64 k, y])) ∧ e.key = .int .i64 k ∧ Instr.findNow (.int .i64) (.int .i64 k) ents j = some (some (i + j, e.val))
  | [], [], b, j, _, _ => .inl ⟨rfl, fun _ => rfl, rfl⟩
  | [], _ :: _, _, _, h, _ => by simp at h
  | _ :: _, [], _, _, h, _ => by simp at h
  | x :: es, e :: ents, b, j, h, hf => by
    obtain ⟨k', v, rfl, q2, q3, q4⟩ := hf 0 x e rfl rfl
    by_cases hk : k' = k
    · subst hk
      exact .inr ⟨0, v, e, rfl, rfl, by simp [mpGet], fun y => by simp [mpPut], q2, by simp [Instr.findNow, q2, Instr.sameNow]⟩
    · have hne : Instr.sameNow (.int .i64) (.int .i64 k) e.key = some false := by rw [q2]; simp [Instr.sameNow, Ne.symm hk]
      rcases find_mp (k := k) (es := es) (ents := ents) (b := b + 1) (j + 1) (by simpa using h) (fun i x e hx he => by
        have := hf (i + 1) x e (by simpa using hx) (by simpa using he)
        rwa [show i + 1 + b = i + (b + 1) by omega] at this) with ⟨h1, h2, h3⟩ | ⟨i, x, e', h1, h2, h3, h4, h5, h6⟩
      · exact .inl ⟨by simp [mpGet, hk, h1], fun y => by simp [mpPut, hk, h2], by simp [Instr.findNow, hne, h3]⟩
      · exact .inr ⟨i + 1, x, e', by simpa using h1, by simpa using h2, by simp [mpGet, hk, h3], fun y => by simp [mpPut, hk, h4], h5, by simp [Instr.findNow, hne, h6]; omega⟩

theorem mp_of_fits {id : Nat} {es : List AV} (hF : Fits A m ρ w) (hm : m id = some (.mp es)) : ∃ ents, w.heap[ρ id]? = some (.map ents ents.size) ∧ ents.size = es.length ∧ ∀ i x e, es[i]? = some x → ents[i]? = some e → FitsE A m ρ w i x e := hF.at_ id _ hm

theorem intKey_ok {t e : TypeId} (h : intKey P t = some e) : ∃ k, P.underlying t = some (.map k e) ∧ P.underlying k = some (.int .i64) := by
  unfold intKey at h
  split at h
  · rename_i k e' hu
    split at h
    · rename_i hk
      cases h
      exact ⟨k, hu, hk⟩
    · cases h
  · cases h

theorem makeMap_ok {t : TypeId} (hF : Fits A m ρ w) (hn : m n0 = none) (ho : o.op = .makeMap t none) : OpPost P A m ρ w a o n0 ⟨.map n0, none, [.mp []], []⟩ := by
  intro ro K Q hK
  obtain ⟨ρ', h0, h1, h2⟩ := step_new hF hn (.map #[] 0) (.mp []) (fun m' ρ' he => ⟨#[], heap_new w _, rfl, fun i x e hx => by simp at hx⟩)
  refine wp_val (v := .map (some w.heap.size)) (exec_v (s := Instr.makeMap t none) (by unfold execOp; rw [ho]; rfl) rfl) (hK _ ρ' _ h1 h2 ?_)
  rw [← h0]
  exact .map n0 [] (by simp [updM])

theorem mapSet_ok {t : TypeId} {x y z : Operand} {vx vy vz : AV} {look : Mem} {id : Nat} {b : Blk} (hF : Fits A m ρ w) (hl : ∀ id b, look id = some b → m id = some b) (ho : execOp a.eval o = (do Instr.mapUpdate t (a.eval x) (a.eval y) (a.eval z); pure .skip))
    (h : evMapSet P t vx vy vz look = some (id, b)) (hx : Rep A m ρ w vx (a.eval x)) (hy : Rep A m ρ w vy (a.eval y)) (hz : Rep A m ρ w vz (a.eval z)) : OpPost P A m ρ w a o n0 ⟨.tuple [], some (id, b), [], []⟩ := by
  intro ro K Q hK
  unfold evMapSet at h
  split at h
  · rename_i e i n he
    split at h
    · rename_i es hlk
      cases h
      obtain ⟨kt, hu, hku⟩ := intKey_ok he
      have hm := hl _ _ hlk
      obtain ⟨hxe, _⟩ := rep_map hx
      have hye := rep_int hy
      obtain ⟨ents, hv, hs, hr⟩ := mp_of_fits hF hm
      have hkey : MapKept.IsKey (.int .i64) (.int .i64 n) := by simp [MapKept.IsKey]
      have fin : ∀ {w' : World}, (Instr.mapUpdate t (a.eval x) (a.eval y) (a.eval z)).run P w = .ok () w' → Ext m ρ w (updM m (some (id, .mp (mpPut es n vz))) n0 []) ρ w' → Fits A (updM m (some (id, .mp (mpPut es n vz))) n0 []) ρ w' → o.wpIn (FR ro) 0 P a w K Q := fun hr h1 h2 =>
        wp_unit (exec_u ho hr) (hK undef ρ _ h1 h2 (.base (.tuple [] #[] rfl (fun i c hc => by simp at hc))))
      obtain ⟨hlt, hve⟩ := Array.getElem?_eq_some_iff.1 hv
      rcases find_mp (k := n) (es := es) (ents := ents.toList) (b := 0) 0 (by simpa using hs) (fun i x e q1 q2 => hr i x e q1 (by simpa using q2)) with ⟨h1, h2, h3⟩ | ⟨i, x0, e0, h1, h2, h3, h4, h5, h6⟩
      · refine fin (w' := { w with heap := w.heap.setIfInBounds (ρ id) (.map (ents.push { key := .int .i64 n, val := a.eval z, born := ents.size }) (ents.size + 1)) }) ?_ ?_ ?_ <;> try rw [h2]
        · rw [hxe, hye]
          simp [Instr.mapUpdate, run_underlying hu, MapKept.run_getObj_map hv, MapKept.run_checkKey hku hkey, MapKept.run_findKey hku h3, MapKept.run_setObj_map _ hv, Result.andThen]
        all_goals
          have hst := step_setM (n0 := n0) (es' := es ++ [.agg [.int .i64 n, vz]]) (w' := { w with heap := w.heap.setIfInBounds (ρ id) (.map (ents.push { key := .int .i64 n, val := a.eval z, born := ents.size }) (ents.size + 1)) }) hF hm hv (fun vs t h => by cases h) rfl rfl rfl (by simp) (fun b hb => by simp [Ne.symm hb])
            (fun m' hE => ⟨_, by simp [hlt]; exact ⟨rfl, by simp⟩, by simp [hs], fun j y e q1 q2 => ?_⟩)
          · first
              | exact hst.1
              | exact hst.2
          · rw [List.getElem?_append] at q1
            rw [Array.getElem?_push] at q2
            split at q1
            · rename_i hj
              rw [if_neg (by omega)] at q2
              obtain ⟨k, v, e1, e2, e3, e4⟩ := hr j y e q1 q2
              exact ⟨k, v, e1, e2, e3, e4.mono hE⟩
            · rename_i hj
              have hj2 : j = es.length := by
                have := (List.getElem?_eq_some_iff.1 q1).1
                simp at this; omega
              subst hj2
              rw [if_pos (by omega)] at q2
              simp at q1 q2
              subst q1 q2
              exact ⟨n, vz, rfl, rfl, by simp [hs], hz.mono hE⟩
      · have hj : ents[i]? = some e0 := by simpa using h2
        refine fin (w' := { w with heap := w.heap.setIfInBounds (ρ id) (.map (ents.modify i fun e => { e with key := .int .i64 n, val := a.eval z }) ents.size) }) ?_ ?_ ?_ <;> try rw [h4]
        · rw [hxe, hye]
          simp [Instr.mapUpdate, run_underlying hu, MapKept.run_getObj_map hv, MapKept.run_checkKey hku hkey, MapKept.run_findKey hku h6, hj, h5, MapKept.run_keyThatStays hkey, MapKept.run_setObj_map _ hv, Result.andThen]
        all_goals
          have hst := step_setM (n0 := n0) (es' := es.set i (.agg [.int .i64 n, vz])) (w' := { w with heap := w.heap.setIfInBounds (ρ id) (.map (ents.modify i fun e => { e with key := .int .i64 n, val := a.eval z }) ents.size) }) hF hm hv (fun vs t h => by cases h) rfl rfl rfl (by simp) (fun b hb => by simp [Ne.symm hb])
            (fun m' hE => ⟨_, by simp [hlt]; exact ⟨rfl, by simp⟩, by simp [hs], fun j y e q1 q2 => ?_⟩)
          · first
              | exact hst.1
              | exact hst.2
          · rw [List.getElem?_set] at q1
            rw [Array.getElem?_modify] at q2
            by_cases hij : i = j
            · subst hij
              rw [if_pos rfl] at q1 q2
              rw [hj] at q2
              simp at q1 q2
              subst q2
              obtain ⟨_, rfl⟩ := q1
              obtain ⟨k, v, e1, e2, e3, e4⟩ := hr i _ e0 h1 hj
              exact ⟨n, vz, rfl, rfl, e3, hz.mono hE⟩
            · rw [if_neg hij] at q1 q2
              obtain ⟨k, v, e1, e2, e3, e4⟩ := hr j y e q1 q2
              exact ⟨k, v, e1, e2, e3, e4.mono hE⟩
    · cases h
  · cases h

theorem mpAt_ok {es : List AV} {n : Int} {z : AV} {s : Sup} (h : AllP (mpAt es n z s).2.2) : (mpGet es n = some (mpAt es n z s).1 ∧ (mpAt es n z s).2.1 = true) ∨ (mpGet es n = none ∧ (mpAt es n z s).1 = z ∧ (mpAt es n z s).2.1 = false) := by
  unfold mpAt at h ⊢
  split
  · exact .inl ⟨h.1, rfl⟩
  · exact .inr ⟨h.1, rfl, rfl⟩
  · split
    · rename_i hg; exact .inl ⟨hg, rfl⟩
    · rename_i hg; exact .inr ⟨hg, rfl, rfl⟩

theorem lookup_ok {t : TypeId} {mv k r : AV} {ok : Bool} {look : Mem} {s : Sup} {ob : List Prop} {vm vk : Value} (hF : Fits A m ρ w) (hl : ∀ id b, look id = some b → m id = some b) (h : evLookup P t mv k ok look s = some (r, ob)) (hob : AllP ob)
    (hm : Rep A m ρ w mv vm) (hk : Rep A m ρ w k vk) : ∃ u, (Instr.lookup t vm vk ok).run P w = .ok u w ∧ Rep A m ρ w r u := by
  unfold evLookup at h
  split at h
  · rename_i e n he
    obtain ⟨kt, hu, hku⟩ := intKey_ok he
    have hkey : MapKept.IsKey (.int .i64) (.int .i64 n) := by simp [MapKept.IsKey]
    have hye := rep_int hk
    subst hye
    split at h
    · rename_i z hz
      obtain ⟨zv, h1, rfl⟩ := Option.map_eq_some_iff.1 hz
      obtain ⟨ti, h3, h4⟩ := Option.bind_eq_some_iff.1 h1
      have two : ∀ {x : AV} {u : Value} {b : Bool}, Rep A m ρ w x u → Rep A m ρ w (if ok then .tuple [x, .bool b] else x) (if ok then .tuple #[u, .bool b] else u) := fun {x u b} hr => by
        cases ok
        · exact hr
        · refine .tuple _ _ rfl fun j c hc => ?_
          match j with
          | 0 => simp at hc; subst hc; exact hr
          | 1 => simp at hc; subst hc; exact .base (.bool _)
          | j + 2 => simp at hc
      have hzr : Rep A m ρ w (avOf zv) zv := .base (avOf_ri ..)
      split at h
      · rename_i id
        split at h
        · rename_i es hlk
          cases h
          obtain ⟨hxe, _⟩ := rep_map hm
          subst hxe
          obtain ⟨ents, hv, hs, hr⟩ := mp_of_fits hF (hl _ _ hlk)
          rcases find_mp (k := n) (es := es) (ents := ents.toList) (b := 0) 0 (by simpa using hs) (fun i x e q1 q2 => hr i x e q1 (by simpa using q2)) with ⟨q1, q2, q3⟩ | ⟨i, x0, e0, q1, q2, q3, q4, q5, q6⟩
          · rcases mpAt_ok hob with ⟨g1, _⟩ | ⟨_, g2, g3⟩
            · rw [q1] at g1; cases g1
            · rw [g2, g3]
              refine ⟨_, ?_, two hzr⟩
              simp [Instr.lookup, run_underlying hu, MapKept.run_getObj_map hv, MapKept.run_checkKey hku hkey, MapKept.run_findKey hku q3, Result.andThen, zeroValue, typeInfo, h3, h4]
          · rcases mpAt_ok hob with ⟨g1, g2⟩ | ⟨g1, _⟩
            · rw [q3] at g1
              rw [g2, ← Option.some.inj g1]
              obtain ⟨k', v', e1, _, _, e4⟩ := hr i _ e0 q1 (by simpa using q2)
              simp only [AV.agg.injEq, List.cons.injEq, AV.int.injEq, true_and, and_true] at e1
              obtain ⟨_, rfl⟩ := e1
              refine ⟨_, ?_, two e4⟩
              simp [Instr.lookup, run_underlying hu, MapKept.run_getObj_map hv, MapKept.run_checkKey hku hkey, MapKept.run_findKey hku q6, Result.andThen]
            · rw [q3] at g1; cases g1
        · cases h
      · cases h
        rw [rep_nilmap hm]
        refine ⟨_, ?_, two hzr⟩
        have : (Instr.findKey kt (.int .i64 n) []).run P w = .ok none w := MapKept.run_findKey hku rfl
        simp [Instr.lookup, run_underlying hu, MapKept.run_checkKey hku hkey, this, Result.andThen, zeroValue, typeInfo, h3, h4]
      · cases h
    · cases h
  · cases h

theorem evLen_ok {t ty : TypeId} {x r : AV} {look : Mem} {v : Value} (hF : Fits A m ρ w) (hl : ∀ id b, look id = some b → m id = some b) (h : evLen P t x look = some r) (hx : Rep A m ρ w x v) : ∃ u, (Builtin.len_ #[t] ty #[v]).run P w = .ok u w ∧ Rep A m ρ w r u := by
  unfold evLen at h
  split at h
  · rename_i e l hu
    obtain rfl := Option.some.inj h
    obtain ⟨a', cap, rfl, _⟩ := rep_list hx
    exact ⟨_, by simp [Builtin.len_, run_underlying hu, goInt], .base (.int _ _)⟩
  · rename_i e id lo len ver hu
    split at h
    · rename_i k es ver' hlk
      split at h
      · rename_i hc
        obtain rfl := Nat.eq_of_beq_eq_true hc
        obtain rfl := Option.some.inj h
        obtain ⟨h3, o', c, vs, t', rfl, h4, h5, h6, h7⟩ := rep_slice hx (hl _ _ hlk)
        exact ⟨_, by simp [Builtin.len_, run_underlying hu, goInt], .base (.int _ _)⟩
      · cases h
    · cases h
  · rename_i e hu
    obtain rfl := Option.some.inj h
    rw [rep_nilslice hx]
    exact ⟨_, by simp [Builtin.len_, run_underlying hu, goInt], .base (.int _ _)⟩
  · rename_i n e hu
    obtain rfl := Option.some.inj h
    exact ⟨_, by cases v <;> simp [Builtin.len_, run_underlying hu, goInt], .base (.int _ _)⟩
  · rename_i s hu
    obtain rfl := Option.some.inj h
    rw [rep_str hx]
    exact ⟨_, by simp [Builtin.len_, run_underlying hu, goInt], .base (.int _ _)⟩
  · rename_i k e id hu
    split at h
    · rename_i es hlk
      obtain rfl := Option.some.inj h
      rw [(rep_map hx).1]
      obtain ⟨ents, hv, hs, _⟩ := mp_of_fits hF (hl _ _ hlk)
      refine ⟨.int .i64 ents.size, by simp [Builtin.len_, run_underlying hu, goInt, MapKept.run_getObj_map hv], ?_⟩
      rw [hs]; exact .base (.int _ _)
    · cases h
  · rename_i k e hu
    obtain rfl := Option.some.inj h
    rw [rep_nilmap hx]
    exact ⟨_, by simp [Builtin.len_, run_underlying hu, goInt], .base (.int _ _)⟩
  · cases h

theorem evMaxF_ok (mx : Bool) (k : IntKind) : ∀ (l : List AV) (vs : List Value) (x : Int) (r : AV), evMaxF mx k x l = some r → vs.length = l.length → (∀ i y, l[i]? = some y → Rep A m ρ w y (vs.getD i undef)) →
    ∃ u, (vs.foldlM (if mx then Builtin.max2 else Builtin.min2) (.int k x)).run P w = .ok u w ∧ Rep A m ρ w r u := by
  intro l
  induction l with
  | nil =>
    intro vs x r h hl _
    simp only [evMaxF] at h
    obtain rfl := Option.some.inj h
    obtain rfl : vs = [] := List.length_eq_zero_iff.1 (by simpa using hl)
    exact ⟨_, rfl, .base (.int _ _)⟩
  | cons y l ih =>
    intro vs x r h hl hr
    cases vs with
    | nil => simp at hl
    | cons v vs =>
      have hv := hr 0 y rfl
      simp at hv
      cases y <;> simp only [evMaxF] at h <;> first | (cases h; done) | skip
      rw [rep_int hv]
      obtain ⟨u, h1, h2⟩ := ih vs _ r h (by simpa using hl) (fun i z hz => by simpa using hr (i + 1) z (by simpa using hz))
      refine ⟨u, ?_, h2⟩
      simp only [List.foldlM_cons, Sem.run_bind]
      cases mx
      · simp only [Bool.false_eq_true, if_false, Builtin.min2, Sem.run_pure, Result.andThen_ok] at h1 ⊢
        rename_i k' n
        rw [show (if n < x then n else x) = min x n by split <;> omega]
        exact h1
      · simp only [if_true, Builtin.max2, Sem.run_pure, Result.andThen_ok] at h1 ⊢
        rename_i k' n
        rw [show (if n > x then n else x) = max x n by split <;> omega]
        exact h1

theorem evMax_ok {mx : Bool} {l : List AV} {vs : Array Value} {r : AV} (ts : Array TypeId) (ty : TypeId) (h : evMax mx l = some r) (hs : vs.size = l.length) (hr : ∀ i y, l[i]? = some y → Rep A m ρ w y (vs.getD i undef)) :
    ∃ u, (if mx then Builtin.max_ ts ty vs else Builtin.min_ ts ty vs).run P w = .ok u w ∧ Rep A m ρ w r u := by
  unfold evMax at h
  split at h
  · rename_i k x l
    obtain ⟨vl⟩ := vs
    cases vl with
    | nil => simp at hs
    | cons v vl =>
      have hv := hr 0 _ rfl
      simp at hv
      rw [rep_int hv]
      obtain ⟨u, h1, h2⟩ := evMaxF_ok mx k l vl x r h (by simpa using hs) (fun i z hz => by simpa using hr (i + 1) z (by simpa using hz))
      refine ⟨u, ?_, h2⟩
      cases mx
      · simpa [Builtin.min_] using h1
      · simpa [Builtin.max_] using h1
  · cases h

theorem evExtract_ok {x r : AV} {i : Nat} {v : Value} (h : evExtract x i = some r) (hx : Rep A m ρ w x v) : ∃ u, (Instr.extract v i).run P w = .ok u w ∧ Rep A m ρ w r u := by
  unfold evExtract at h
  split at h
  · obtain ⟨vs, rfl, hs, hr⟩ := rep_tuple hx
    have h1 := (List.getElem?_eq_some_iff.1 h).1
    exact ⟨_, by simp only [Instr.extract]; rw [getD_of (show i < vs.size by omega)]; rfl, hr i r h⟩
  · cases h

theorem bound_ok {d : Int} {τ : Nat → AV} {x : Option Operand} {b : Int} (h : boundOf d (x.map (opd τ)) = some b) (hx : ∀ y, x = some y → Rep A m ρ w (opd τ y) (a.eval y)) : (x = none ∧ b = d) ∨ ∃ y k, x = some y ∧ a.eval y = .int k b := by
  cases x with
  | none => simp only [Option.map_none, boundOf] at h; exact .inl ⟨rfl, (Option.some.inj h).symm⟩
  | some y =>
    simp only [Option.map_some] at h
    have hy := hx y rfl
    generalize opd τ y = z at h hy
    cases z <;> simp only [boundOf] at h <;> first | (cases h; done) | skip
    obtain rfl := Option.some.inj h
    exact .inr ⟨y, _, rfl, rep_int hy⟩

theorem sliceBounds_ok {len cap : Nat} {lo hi : Option Operand} {x y : Int} {dh : Int} (hlo : (lo = none ∧ x = 0) ∨ ∃ z k, lo = some z ∧ a.eval z = .int k x) (hhi : (hi = none ∧ y = dh) ∨ ∃ z k, hi = some z ∧ a.eval z = .int k y) (hd : dh = len)
    (h0 : 0 ≤ x) (h1 : x ≤ y) (h2 : y ≤ cap) : (Instr.sliceBounds true len cap (lo.map a.eval) (hi.map a.eval) none).run P w = .ok (x.toNat, y.toNat, cap) w := by
  subst hd
  rcases hlo with ⟨rfl, rfl⟩ | ⟨z, k, rfl, hz⟩ <;> rcases hhi with ⟨rfl, rfl⟩ | ⟨z', k', rfl, hz'⟩
  · simp [Instr.sliceBounds]
  · simp [Instr.sliceBounds, Instr.sliceBound, hz', asIntOf, h1, h2]
  · simp [Instr.sliceBounds, Instr.sliceBound, hz, asIntOf, h0, h1]
  · have h3 : 0 ≤ y := by omega
    have h4 : ¬ (max y 0 < x) := by omega
    simp [Instr.sliceBounds, Instr.sliceBound, hz, hz', asIntOf, h0, h2, h3, h4]

theorem evSlice_ok {t : TypeId} {x : Operand} {lo hi mx : Option Operand} {τ : Nat → AV} {r : AV} {look : Mem} {ob : List Prop} (hF : Fits A m ρ w) (hl : ∀ id b, look id = some b → m id = some b)
    (h : evSlice P t (opd τ x) (lo.map (opd τ)) (hi.map (opd τ)) (mx.map (opd τ)) look = some (r, ob)) (hob : AllP ob) (hx : Rep A m ρ w (opd τ x) (a.eval x)) (hlo : ∀ y, lo = some y → Rep A m ρ w (opd τ y) (a.eval y)) (hhi : ∀ y, hi = some y → Rep A m ρ w (opd τ y) (a.eval y)) :
    ∃ u, (Instr.sliceAt t (a.eval x) (lo.map a.eval) (hi.map a.eval) (mx.map a.eval)).run P w = .ok u w ∧ Rep A m ρ w r u := by
  cases mx with
  | some y =>
    unfold evSlice at h
    split at h
    · rename_i hmx; simp at hmx
    · cases h
  | none =>
    unfold evSlice at h
    simp only [Option.map_none] at h
    split at h
    · rename_i e hu _
      generalize opd τ x = z at h hx
      generalize a.eval x = v at hx
      have hrun : ∀ b len cap, v = .slice b len cap → (Instr.sliceAt t v (lo.map a.eval) (hi.map a.eval) none).run P w = (Instr.slice t v (lo.map a.eval) (hi.map a.eval) none).run P w := fun b len cap _ => by
        simp only [Instr.sliceAt, Sem.run_bind, run_underlying hu, Result.andThen_ok]
      simp only [Option.map_none]
      split at h
      · rename_i l
        split at h
        · rename_i ei x1 y1 hei hb1 hb2
          cases h
          obtain ⟨⟨h0, h1, h2⟩, hk, -⟩ := hob
          have hl1 := bound_ok hb1 hlo
          have hl2 := bound_ok hb2 hhi
          by_cases hnil : l = []
          · subst hnil
            obtain ⟨a', cap, rfl, hcap⟩ := rep_list hx
            simp only [List.length_nil, Int.natCast_zero] at h2
            obtain rfl : x1 = 0 := by omega
            obtain rfl : y1 = 0 := by omega
            rw [hrun _ _ _ rfl]
            have := sliceBounds_ok (P := P) (w := w) (len := 0) (cap := cap) hl1 hl2 (by simp) (by omega) (by omega) (by omega)
            refine ⟨.slice a' 0 cap, ?_, ?_⟩
            · simp only [Instr.slice, Sem.run_bind, run_underlying hu, Result.andThen_ok, List.length_nil, this, run_sizeOf hei, Sem.run_pure]
              cases a' with
              | none => simp
              | some ad => simp [Addr.add]
            · simpa using hx
          · obtain ⟨b, o', cap, k, xx, rfl, hB, hkk, hxx, hr⟩ := rep_list_at hx hnil
            have hlc : l.length ≤ cap := by
              cases hx with
              | base hx => cases hx with
                | list l b o cap k x hc hB hk hx hr => exact hc
                | lnil a cap h => exact Nat.zero_le _
            have hke : k = ei.size := by
              cases l with
              | nil => exact absurd rfl hnil
              | cons e0 l => rw [← hkk e0 (by simp), hk e0 (by simp)]
            subst hke
            rw [hrun _ _ _ rfl]
            have hb := sliceBounds_ok (P := P) (w := w) (len := l.length) (cap := cap) hl1 hl2 rfl h0 h1 (by omega)
            have hlen : ((l.take y1.toNat).drop x1.toNat).length = y1.toNat - x1.toNat := by simp; omega
            have hel : ∀ i e, ((l.take y1.toNat).drop x1.toNat)[i]? = some e → l[x1.toNat + i]? = some e := fun i e he => by
              rw [List.getElem?_drop, List.getElem?_take] at he
              split at he
              · exact he
              · cases he
            refine ⟨.slice (some (if cap = x1.toNat then ⟨b, o', none⟩ else ⟨b, o' + x1.toNat * ei.size, none⟩)) ((l.take y1.toNat).drop x1.toNat).length (cap - x1.toNat), ?_, .base ?_⟩
            · simp only [Instr.slice, Sem.run_bind, run_underlying hu, Result.andThen_ok, hb, run_sizeOf hei, Sem.run_pure, hlen]
              congr 1
              by_cases hc : cap = x1.toNat
              · rw [if_pos hc, if_pos hc]
              · rw [if_neg hc, if_neg hc]; simp [addr_add]
            · by_cases hc : cap = x1.toNat
              · rw [if_pos hc]
                have hn : (l.take y1.toNat).drop x1.toNat = [] := List.length_eq_zero_iff.1 (by rw [hlen]; omega)
                rw [hn]
                exact .list [] b o' _ ei.size (fun _ _ => undef) (by simp) (fun h => absurd rfl h) (by simp) (fun i e j c h => by simp at h) (fun i e j c h => by simp at h)
              · rw [if_neg hc]
                refine .list _ b _ _ ei.size (fun i j => xx (x1.toNat + i) j) (by rw [hlen]; omega) (fun _ => hB) (fun e he => hkk e ?_) (fun i e j c he hcc => ?_) (fun i e j c he hcc => hr _ e j c (hel i e he) hcc)
                · exact List.mem_of_mem_take (List.mem_of_mem_drop he)
                · rw [← hxx _ e j c (hel i e he) hcc]
                  congr 2
                  rw [Nat.add_mul]; omega
        · cases h
      · rename_i id l0 len ver
        split at h
        · rename_i k es ver' hlk
          split at h
          · rename_i ei x1 y1 hei hb1 hb2
            split at h
            · rename_i hc
              simp only [Bool.and_eq_true, Nat.beq_eq] at hc
              obtain ⟨rfl, rfl⟩ := hc
              cases h
              obtain ⟨⟨h0, h1, h2⟩, -⟩ := hob
              have hm := hl _ _ hlk
              obtain ⟨h3, o', c, vs, t', rfl, h4, h5, h6, h7⟩ := rep_slice hx hm
              rw [hrun _ _ _ rfl]
              have hb := sliceBounds_ok (P := P) (w := w) (len := len) (cap := c) (bound_ok hb1 hlo) (bound_ok hb2 hhi) rfl h0 h1 (by omega)
              refine ⟨.slice (some (if c = x1.toNat then ⟨ρ id, o', none⟩ else ⟨ρ id, o' + x1.toNat * ei.size, none⟩)) (y1.toNat - x1.toNat) (c - x1.toNat), ?_, ?_⟩
              · simp only [Instr.slice, Sem.run_bind, run_underlying hu, Result.andThen_ok, hb, run_sizeOf hei, Sem.run_pure]
                congr 1
                by_cases hc : c = x1.toNat
                · rw [if_pos hc, if_pos hc]
                · rw [if_neg hc, if_neg hc]; simp [addr_add]
              · refine .slice id _ _ ver ei.size es ver _ _ _ hm (Nat.le_refl _) (fun _ => ⟨by omega, rfl, if c = x1.toNat then o' else o' + x1.toNat * ei.size, vs, t', by split <;> rfl, fun hcc => ?_, by omega, h6, ?_⟩)
                · rw [if_neg (by omega), h4 (by omega), Nat.add_mul]
                · rw [show l0 + x1.toNat + (c - x1.toNat) = l0 + c by omega]; exact h7
            · cases h
          · cases h
        · cases h
      · split at h
        · rename_i ei x1 y1 hei hb1 hb2
          cases h
          obtain ⟨⟨rfl, rfl⟩, -⟩ := hob
          rw [rep_nilslice hx] at hrun ⊢
          rw [hrun _ _ _ rfl]
          have hb := sliceBounds_ok (P := P) (w := w) (len := 0) (cap := 0) (bound_ok hb1 hlo) (bound_ok hb2 hhi) rfl (by omega) (by omega) (by omega)
          refine ⟨.slice none 0 0, ?_, .base .nilslice⟩
          simp only [Instr.slice, Sem.run_bind, run_underlying hu, Result.andThen_ok, hb, run_sizeOf hei, Sem.run_pure]
          simp
        · cases h
      · cases h
    · cases h

end
end
end Go.Proofs.Ytglfbdicclepcaa
