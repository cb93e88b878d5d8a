/- Operations on memory and slices, without calls. For every program. -/
import Derived.Test.YtkijlggnnbdeiaaEvE
set_option linter.unusedVariables false
set_option linter.unusedSimpArgs false
namespace Go.Proofs.Ytkijlggnnbdeiaa
open Go.RowKit

section
variable {P : Program} {A : Nat → Prop} {m : Mem} {ρ : Nat → Nat} {w : World} {a : Act} {o : Oper} {n0 : Nat}

/-- A row of elements, k cells each, at the start of an array. -/
structure RowR (A : Nat → Prop) (m : Mem) (ρ : Nat → Nat) (w : World) (k : Nat) (es : List AV) (vs : Array Value) : Prop where
  size : es.length * k ≤ vs.size
  len : ∀ e ∈ es, (cellsOf e).length = k
  at_ : ∀ i e j c, es[i]? = some e → (cellsOf e)[j]? = some c → Rep A m ρ w c (vs.getD (i * k + j) undef)

theorem RowR.mono {m' : Mem} {ρ' : Nat → Nat} {w' : World} {k : Nat} {es : List AV} {vs : Array Value} (h : RowR A m ρ w k es vs) (he : Ext m ρ w m' ρ' w') : RowR A m' ρ' w' k es vs :=
  ⟨h.size, h.len, fun i e j c h1 h2 => (h.at_ i e j c h1 h2).mono he⟩

theorem row_of_fits {id k ver : Nat} {es : List AV} (hF : Fits A m ρ w) (hm : m id = some (.row k es ver)) : 0 < k ∧ ∃ vs t, w.heap[ρ id]? = some (.cells vs t (0, 0)) ∧ RowR A m ρ w k es vs := by
  obtain ⟨h0, h1, vs, t, h2, h3, h4⟩ := hF.at_ id _ hm
  exact ⟨h0, vs, t, h2, h3, h1, h4⟩

theorem RowR.fits {k ver b : Nat} {es : List AV} {vs : Array Value} {t : TypeId} (h : RowR A m ρ w k es vs) (h0 : 0 < k) (hv : w.heap[b]? = some (.cells vs t (0, 0))) : FitsB A m ρ w b (.row k es ver) :=
  ⟨h0, h.len, vs, t, hv, h.size, h.at_⟩

theorem idx_lt {n k i j : Nat} (hi : i < n) (hj : j < k) : i * k + j < n * k := by
  have h1 : (i + 1) * k ≤ n * k := Nat.mul_le_mul_right k hi
  rw [Nat.add_mul, Nat.one_mul] at h1
  omega
theorem idx_eq {k i j i' j' : Nat} (hj : j < k) (hj' : j' < k) (h : i * k + j = i' * k + j') : i = i' ∧ j = j' := by
  have h1 : (i * k + j) / k = i := by rw [Nat.mul_comm, Nat.mul_add_div (by omega), Nat.div_eq_of_lt hj, Nat.add_zero]
  have h2 : (i' * k + j') / k = i' := by rw [Nat.mul_comm, Nat.mul_add_div (by omega), Nat.div_eq_of_lt hj', Nat.add_zero]
  have h3 : i = i' := by rw [← h1, ← h2, h]
  subst h3
  exact ⟨rfl, by omega⟩

theorem RowR.lt {k : Nat} {es : List AV} {vs : Array Value} (h : RowR A m ρ w k es vs) {i j : Nat} {e c : AV} (he : es[i]? = some e) (hc : (cellsOf e)[j]? = some c) : i * k + j < vs.size ∧ j < k := by
  have h1 := (List.getElem?_eq_some_iff.1 he).1
  have h2 := (List.getElem?_eq_some_iff.1 hc).1
  have h3 := h.len e (List.mem_iff_getElem?.2 ⟨i, he⟩)
  have := idx_lt h1 (show j < k by omega)
  have := h.size
  exact ⟨by omega, by omega⟩

theorem getD_of {vs : Array Value} {i : Nat} (h : i < vs.size) : vs[i]? = some (vs.getD i undef) := by simp [Array.getD_eq_getD_getElem?, h]

/-! ### Loads -/

theorem elemAt_ok {es : List AV} {ix : Nat} {s : Sup} {e : AV} {ob : List Prop} (h : elemAt es ix s = some (e, ob)) (hob : AllP ob) : es[ix]? = some e := by
  unfold elemAt at h
  split at h
  · cases h; exact hob.1
  · cases h; exact hob.1
  · obtain ⟨e', h1, h2⟩ := Option.map_eq_some_iff.1 h
    cases h2; exact h1

theorem evLoad_ok {t : TypeId} {p r : AV} {look : Mem} {s : Sup} {ob : List Prop} {v : Value} (hF : Fits A m ρ w) (hl : ∀ id b, look id = some b → m id = some b) (h : evLoad P t p look s = some (r, ob)) (hob : AllP ob) (hp : Rep A m ρ w p v) :
    ∃ u, (Instr.loadAt t v).run P w = .ok u w ∧ Rep A m ρ w r u := by
  unfold evLoad at h
  split at h
  · rename_i i d hi hd
    split at h
    · rename_i id off
      split at h
      · rename_i cs hlk
        obtain ⟨r', h1, h2⟩ := Option.map_eq_some_iff.1 h
        cases h2
        have hm := hl _ _ hlk
        obtain ⟨rfl, _⟩ := rep_ptr hp
        obtain ⟨vs, t', hv, hs, hr⟩ := hF.at_ id _ hm
        have := run_loadVar (A := A) (m := m) (ρ := ρ) (w := w) hi hd (b := ρ id) (o := 0) (off := off) (cs := cs) (x := fun j => vs.getD j undef) h1 (fun j c hc => by
          have hj := (List.getElem?_eq_some_iff.1 hc).1
          rw [cell_of_cells hv, Nat.zero_add]
          exact getD_of (by omega)) hr
        simpa [Instr.loadAt, Instr.sureAddr] using this
      · cases h
    · rename_i id ver ix off
      split at h
      · rename_i k es ver' hlk
        split at h
        · rename_i hv
          obtain rfl := Nat.eq_of_beq_eq_true hv
          split at h
          · rename_i e ob' hel
            obtain ⟨r', h1, h2⟩ := Option.map_eq_some_iff.1 h
            cases h2
            have hm := hl _ _ hlk
            have he := elemAt_ok hel hob
            obtain ⟨rfl, _⟩ := rep_ptrR hp hm
            obtain ⟨h0, vs, t', hv, hR⟩ := row_of_fits hF hm
            have := run_loadVar (A := A) (m := m) (ρ := ρ) (w := w) hi hd (b := ρ id) (o := ix * k) (off := off) (cs := cellsOf e) (x := fun j => vs.getD (ix * k + j) undef) h1 (fun j c hc => by
              rw [cell_of_cells hv]
              exact getD_of (hR.lt he hc).1) (fun j c hc => hR.at_ ix e j c he hc)
            simpa [Instr.loadAt, Instr.sureAddr] using this
          · cases h
        · cases h
      · cases h
    · rename_i e off
      obtain ⟨r', h1, h2⟩ := Option.map_eq_some_iff.1 h
      cases h2
      obtain ⟨b, o', x, rfl, hB, hx, hr⟩ := rep_ptrIn hp
      have := run_loadVar (A := A) (m := m) (ρ := ρ) (w := w) hi hd (b := b) (o := o') (off := off) (cs := cellsOf e) (x := x) h1 hx (fun j c hc => .base (hr j c hc))
      simpa [Instr.loadAt, Instr.sureAddr] using this
    · cases h
  · cases h

/-! ### Stores -/

theorem run_storeCells : ∀ (l : List Value) (b o i : Nat) (w : World) (vs : Array Value) (t : TypeId), w.heap[b]? = some (.cells vs t (0, 0)) → o + i + l.length ≤ vs.size → (∀ v ∈ l, oneC v = true) →
    ∃ w' vs', (storeCells ⟨b, o, none⟩ l i).run P w = .ok () w' ∧ w'.os = w.os ∧ w'.tape = w.tape ∧ w'.output = w.output ∧ w'.heap.size = w.heap.size ∧ w'.heap[b]? = some (.cells vs' t (0, 0)) ∧ vs'.size = vs.size ∧
      (∀ q, q ≠ b → w'.heap[q]? = w.heap[q]?) ∧ ∀ q, vs'[q]? = if o + i ≤ q ∧ q < o + i + l.length then l[q - (o + i)]? else vs[q]? := by
  intro l
  induction l with
  | nil =>
    intro b o i w vs t hv hle _
    exact ⟨w, vs, by simp [storeCells], rfl, rfl, rfl, rfl, hv, rfl, fun _ _ => rfl, fun q => by rw [if_neg (by simp only [List.length_nil]; omega)]⟩
  | cons v l ih =>
    intro b o i w vs t hv hle h1
    have hlt : o + i < vs.size := by simp at hle; omega
    have hset : (w.setCell ⟨b, o + i, none⟩ v).heap[b]? = some (.cells (vs.setIfInBounds (o + i) v) t (0, 0)) := by
      show (w.heap.modify b _)[b]? = _
      rw [Array.getElem?_modify, if_pos rfl, hv]
      rfl
    obtain ⟨w', vs', e1, e2, e3, e4, e5, e6, e7, e8, e9⟩ := ih b o (i + 1) (w.setCell ⟨b, o + i, none⟩ v) (vs.setIfInBounds (o + i) v) t hset (by simp at hle ⊢; omega) (fun u hu => h1 u (by simp [hu]))
    refine ⟨w', vs', ?_, e2, e3, e4, by rw [e5]; simp [World.setCell], e6, by rw [e7]; simp, fun q hq => ?_, fun q => ?_⟩
    · simp only [storeCells, Sem.run_bind, addr_add]
      have hv1 : v.oneCell' = true := by
        have := h1 v (by simp)
        cases v <;> first | rfl | cases this
      rw [run_store P w _ v _ hv1, cell_of_cells hv, getD_of hlt, frozen_of_cells hv]
      simpa using e1
    · rw [e8 q hq, Below.heap_setCell w ⟨b, o + i, none⟩ v q hq]
    · rw [e9 q]
      simp only [List.length_cons]
      by_cases h2 : o + (i + 1) ≤ q ∧ q < o + (i + 1) + l.length
      · rw [if_pos h2, if_pos (by omega), show q - (o + i) = (q - (o + (i + 1))) + 1 by omega, List.getElem?_cons_succ]
      · rw [if_neg h2, Array.getElem?_setIfInBounds]
        by_cases h3 : o + i = q
        · subst h3
          rw [if_pos rfl, if_pos (by omega), if_pos (by omega)]; simp
        · rw [if_neg h3, if_neg (by omega)]

theorem cellsR_put {cs l : List AV} {vs vs' us : Array Value} {off : Nat} (h : CellsR A m ρ w cs vs) (k : CellsR A m ρ w l us) (hle : off + l.length ≤ cs.length) (hs : vs'.size = vs.size)
    (hg : ∀ q, vs'[q]? = if off ≤ q ∧ q < off + us.toList.length then us.toList[q - off]? else vs[q]?) : CellsR A m ρ w (splice cs off l) vs' := by
  refine ⟨by rw [hs, splice_len hle]; exact h.1, fun i c hc => ?_⟩
  rw [splice_get hle] at hc
  rw [Array.getD_eq_getD_getElem?, hg, Array.length_toList, k.1]
  split at hc
  · rename_i h1
    rw [if_pos h1, Array.getElem?_toList, ← Array.getD_eq_getD_getElem?]
    exact k.2 _ c hc
  · rename_i h1
    rw [if_neg h1, ← Array.getD_eq_getD_getElem?]
    exact h.2 _ c hc

theorem all_cells {y : AV} (h : (cellsOf y).all isCell = true) : isCell y = true ∨ ∃ cs, y = .agg cs := by
  cases y <;> first | exact .inr ⟨_, rfl⟩ | exact .inl rfl | (simp [cellsOf, isCell] at h)

theorem oneC_cells {y : AV} {v : Value} (h : (cellsOf y).all isCell = true) (hv : Rep A m ρ w y v) : CellsR A m ρ w (cellsOf y) v.cells ∧ ∀ u ∈ v.cells.toList, oneC u = true := by
  have hc : CellsR A m ρ w (cellsOf y) v.cells := cells_size hv (all_cells h)
  refine ⟨hc, fun u hu => ?_⟩
  obtain ⟨i, hi⟩ := List.mem_iff_getElem?.1 hu
  have h1 := (List.getElem?_eq_some_iff.1 hi).1
  have h2 : i < (cellsOf y).length := by rw [← hc.1]; simpa using h1
  have h3 := hc.2 i (cellsOf y)[i] (by simp [h2])
  have h4 : isCell (cellsOf y)[i] = true := List.all_eq_true.1 h _ (List.getElem_mem h2)
  have h5 : v.cells.getD i undef = u := by
    rw [Array.getD_eq_getD_getElem?, ← Array.getElem?_toList, hi]; rfl
  rw [h5] at h3
  exact h3.oneC h4

theorem RowR.set {k : Nat} {es : List AV} {vs vs' : Array Value} {ix : Nat} {e : AV} (h : RowR A m ρ w k es vs) (hs : vs'.size = vs.size) (hix : ix < es.length) (hl : (cellsOf e).length = k)
    (h1 : ∀ j c, (cellsOf e)[j]? = some c → Rep A m ρ w c (vs'.getD (ix * k + j) undef)) (h2 : ∀ i j, i ≠ ix → j < k → vs'[i * k + j]? = vs[i * k + j]?) : RowR A m ρ w k (es.set ix e) vs' := by
  refine ⟨by rw [List.length_set, hs]; exact h.size, fun x hx => ?_, fun i x j c hx hc => ?_⟩
  · rcases List.mem_or_eq_of_mem_set hx with hx | rfl
    · exact h.len x hx
    · exact hl
  · rw [List.getElem?_set] at hx
    by_cases hi : ix = i
    · subst hi
      rw [if_pos rfl] at hx
      simp only [hix, if_true] at hx
      obtain rfl := Option.some.inj hx
      exact h1 j c hc
    · rw [if_neg hi] at hx
      have := h.lt hx hc
      rw [Array.getD_eq_getD_getElem?, h2 i j (Ne.symm hi) this.2, ← Array.getD_eq_getD_getElem?]
      exact h.at_ i x j c hx hc

theorem store_ok {t : TypeId} {x y : Operand} {p v : AV} {look : Mem} {s : Sup} {id : Nat} {blk : Blk} {ob : List Prop} (ho : o.op = .store t x y) (hF : Fits A m ρ w) (hl : ∀ id b, look id = some b → m id = some b)
    (h : evStore P t p v look s = some (id, blk, ob)) (hob : AllP ob) (hp : Rep A m ρ w p (a.eval x)) (hy : Rep A m ρ w v (a.eval y)) : OpPost P A m ρ w a o n0 ⟨.tuple [], some (id, blk), [], ob⟩ := by
  intro ro K Q hK
  have fin : ∀ {w' : World}, (Instr.storeAt t (a.eval x) (a.eval y)).run P w = .ok () w' → Ext m ρ w (updM m (some (id, blk)) n0 []) ρ w' → Fits A (updM m (some (id, blk)) n0 []) ρ w' → o.wpIn (FR ro) 0 P a w K Q := fun hr h1 h2 =>
    wp_unit (exec_u (s := Instr.storeAt t (a.eval x) (a.eval y)) (by unfold execOp; rw [ho]) hr) (hK undef ρ _ h1 h2 (.base (.tuple [] #[] rfl (fun i c hc => by simp at hc))))
  unfold evStore at h
  split at h
  · rename_i i hi
    split at h
    · rename_i hcond
      simp only [Bool.and_eq_true, Nat.beq_eq] at hcond
      obtain ⟨hall, hsz⟩ := hcond
      obtain ⟨hc, hone⟩ := oneC_cells hall hy
      have hst : ∀ (ad : Addr), (storeVar t ad (a.eval y)).run P w = (storeCells ad (a.eval y).cells.toList).run P w := fun ad => by
        simp only [storeVar, Sem.run_bind, run_sizeOf hi, Result.andThen_ok]
        rw [if_neg (by have := hc.1; omega)]
      split at h
      · rename_i id' off
        split at h
        · rename_i cs hlk
          split at h
          · rename_i hle
            have hle := Nat.le_of_ble_eq_true hle
            cases h
            have hm := hl _ _ hlk
            obtain ⟨hpe, _⟩ := rep_ptr hp
            obtain ⟨vs, t', hv, hs, hr⟩ := hF.at_ id _ hm
            obtain ⟨w', vs', e1, e2, e3, e4, e5, e6, e7, e8, e9⟩ := run_storeCells (P := P) (a.eval y).cells.toList (ρ id) off 0 w vs t' hv (by rw [Array.length_toList, hc.1]; omega) hone
            have hcp := cellsR_put ⟨hs, hr⟩ hc hle e7 (by simpa using e9)
            obtain ⟨h1, h2⟩ := step_set (n0 := n0) (blk' := .cells (splice cs off (cellsOf v))) hF hm (splice_len hle) hv e2 e3 e4 e5 e6 e7 e8 (fun m' he => ⟨vs', t', e6, hcp.1, fun i c hi => (hcp.2 i c hi).mono he⟩)
            exact fin (by rw [hpe]; simp only [Instr.storeAt, Instr.sureAddr, Sem.run_bind, Sem.run_pure, Result.andThen_ok, hst]; exact e1) h1 h2
          · cases h
        · cases h
      · rename_i id' ver ix off
        split at h
        · rename_i k es ver' hlk
          split at h
          · rename_i hvv
            obtain rfl := Nat.eq_of_beq_eq_true hvv
            split at h
            · rename_i e ob' hel
              split at h
              · rename_i hle
                have hle := Nat.le_of_ble_eq_true hle
                cases h
                have hm := hl _ _ hlk
                have he := elemAt_ok hel hob
                have hix := (List.getElem?_eq_some_iff.1 he).1
                obtain ⟨hpe, _⟩ := rep_ptrR hp hm
                obtain ⟨h0, vs, t', hv, hR⟩ := row_of_fits hF hm
                have hlen := hR.len e (List.mem_iff_getElem?.2 ⟨ix, he⟩)
                have hlt := idx_lt (k := k) (j := k - 1) hix (by omega)
                have hsz2 := hR.size
                obtain ⟨w', vs', e1, e2, e3, e4, e5, e6, e7, e8, e9⟩ := run_storeCells (P := P) (a.eval y).cells.toList (ρ id) (ix * k + off) 0 w vs t' hv (by rw [Array.length_toList, hc.1]; omega) hone
                have hre : cellsOf (reElem e off v) = splice (cellsOf e) off (cellsOf v) := by
                  unfold reElem
                  split
                  · rfl
                  · rename_i hna
                    have hne : cellsOf e = [e] := by cases e <;> first | rfl | exact (hna _ rfl).elim
                    rw [hne] at hle ⊢
                    have hlen1 := splice_len hle
                    have hg := splice_get hle 0
                    cases hsp : splice [e] off (cellsOf v) with
                    | nil => rw [hsp] at hlen1; cases hlen1
                    | cons c l =>
                      rw [hsp] at hlen1 hg
                      have hl0 : l = [] := List.length_eq_zero_iff.1 (by simpa using hlen1)
                      subst hl0
                      show cellsOf c = [c]
                      simp only [List.getElem?_cons_zero] at hg
                      split at hg
                      · have h9 : isCell c = true := List.all_eq_true.1 hall c (List.mem_iff_getElem?.2 ⟨_, hg.symm⟩)
                        cases c <;> first | rfl | cases h9
                      · obtain rfl := Option.some.inj hg
                        exact hne
                have hrow : RowR A m ρ w k (es.set ix (reElem e off v)) vs' := by
                  refine hR.set e7 hix (by rw [hre, splice_len hle]; exact hlen) (fun j c hjc => ?_) (fun i j hi hj => ?_)
                  · rw [hre, splice_get hle] at hjc
                    rw [Array.getD_eq_getD_getElem?, e9]
                    simp only [Nat.add_zero, Array.length_toList, hc.1]
                    split at hjc
                    · rename_i h7
                      rw [if_pos (by omega), Array.getElem?_toList, ← Array.getD_eq_getD_getElem?, show ix * k + j - (ix * k + off) = j - off by omega]
                      exact hc.2 _ c hjc
                    · rename_i h7
                      rw [if_neg (by omega), ← Array.getD_eq_getD_getElem?]
                      exact hR.at_ ix e j c he hjc
                  · rw [e9, if_neg]
                    simp only [Nat.add_zero, Array.length_toList, hc.1]
                    intro ⟨h7, h8⟩
                    have : i * k + j = ix * k + (i * k + j - ix * k) := by omega
                    exact hi (idx_eq hj (show i * k + j - ix * k < k by omega) this).1
                obtain ⟨h1, h2⟩ := step_set (n0 := n0) (blk' := .row k (es.set ix (reElem e off v)) ver) hF hm ⟨rfl, Nat.le_refl _, fun _ => by simp⟩ hv e2 e3 e4 e5 e6 e7 e8 (fun m' he => (hrow.mono he).fits h0 e6)
                exact fin (by rw [hpe]; simp only [Instr.storeAt, Instr.sureAddr, Sem.run_bind, Sem.run_pure, Result.andThen_ok, hst]; exact e1) h1 h2
              · cases h
            · cases h
          · cases h
        · cases h
      · cases h
    · cases h
  · cases h

end
end Go.Proofs.Ytkijlggnnbdeiaa
