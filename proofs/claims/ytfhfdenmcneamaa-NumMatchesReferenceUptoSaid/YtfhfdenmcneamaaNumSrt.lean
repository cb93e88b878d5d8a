/- A row of whole numbers turned in its place, as a step of a walk by hand. -/
import Derived.Test.YtfhfdenmcneamaaNumSort
set_option linter.unusedVariables false
set_option linter.unusedSimpArgs false
namespace Go.Proofs.Ytfhfdenmcneamaa
open Go.RowKit Go.Sort
theorem slice_of {A : Nat → Prop} {ρ : Nat → Nat} {w : World} {l : List Int} {u : Value} (hn : 0 < l.length) (hF : Fits A (memL [.row 1 (l.map encI) 0]) ρ w) (hr : Rep A (memL [.row 1 (l.map encI) 0]) ρ w (.slice 0 0 l.length 0) u) :
    ∃ c ws t, u = .slice (some ⟨ρ 0, 0, none⟩) l.length c ∧ w.heap[ρ 0]? = some (.cells ws t (0, 0)) ∧ l.length ≤ c ∧ c ≤ ws.size ∧ ∀ (i : Nat) (x : Int), l[i]? = some x → ws.getD i undef = .int .i64 x := by
  cases hr with
  | base h => cases h
  | slice id lo len ver k es ver' a n c hm hle hv =>
    obtain ⟨hlen, rfl, o, ws, t, rfl, ho, hcl, hw, hsz⟩ := hv (by simp [memL] at hm; omega)
    have hk : k = 1 := by simp [memL] at hm; omega
    subst hk
    obtain rfl : o = 0 := by have := ho (by omega); omega
    obtain ⟨_, _, cs, t2, hcs, hcsl, hce⟩ := hF.at_ 0 _ rfl
    rw [hw] at hcs
    obtain ⟨rfl, rfl⟩ : ws = cs ∧ t = t2 := by simpa using hcs
    refine ⟨c, ws, t, rfl, hw, hcl, by omega, fun i x hi => ?_⟩
    have := hce i (encI x) 0 (encI x) (by rw [List.getElem?_map, hi]; rfl) rfl
    rw [Nat.mul_one, Nat.add_zero] at this
    revert this
    generalize ws.getD i undef = v
    intro this
    cases this with
    | base h => cases h; rfl
theorem row_after {A : Nat → Prop} {ρ : Nat → Nat} {w w' : World} {l l' : List Int} {ws : Array Value} {t : TypeId} {q : Nat} {os : Array Obj} (hl : l'.length = l.length) (hF : Fits A (memL [.row 1 (l.map encI) 0]) ρ w) (hw : w.heap[ρ 0]? = some (.cells ws t (0, 0))) (hlw : l.length ≤ ws.size)
    (hw' : w' = grow (putRow (Value.int .i64) (Sort.ahead w q) (ρ 0) 0 l'.toArray) os) :
    Ext (memL [.row 1 (l.map encI) 0]) ρ w (memL [.row 1 (l'.map encI) 0]) ρ w' ∧ Fits A (memL [.row 1 (l'.map encI) 0]) ρ w' ∧ ∃ ws', w'.heap[ρ 0]? = some (.cells ws' t (0, 0)) ∧ ws'.size = ws.size := by
  have hb : ρ 0 < w.heap.size := (Array.getElem?_eq_some_iff.1 hw).1
  have hrow : w'.heap[ρ 0]? = some (.cells (putCells (Value.int .i64) 0 l'.toArray ws) t (0, 0)) := by
    subst hw'
    rw [heap_grow_old _ _ (by rw [size_putRow]; exact hb)]
    show (w.heap.modify (ρ 0) _)[ρ 0]? = _
    rw [Array.getElem?_modify, if_pos rfl, hw]; rfl
  have hsize : (putCells (Value.int .i64) 0 l'.toArray ws).size = ws.size := by simp [putCells]
  have hids : ∀ (m : List Int) id, memL [.row 1 (m.map encI) 0] id ≠ none → id = 0 := fun m id hid => by
    match id with
    | 0 => rfl
    | k + 1 => exact absurd rfl hid
  refine ⟨⟨?_, ?_, ?_, ?_, ?_, ?_, ?_⟩, ⟨?_, ?_⟩, _, hrow, hsize⟩
  · subst hw'; rfl
  · subst hw'; rfl
  · subst hw'; rfl
  · subst hw'; rw [size_grow, size_putRow]; exact Nat.le_add_right _ _
  · intro b hb2 hne
    have hne0 : ρ 0 ≠ b := hne 0 (by simp [memL])
    subst hw'
    rw [heap_grow_old _ _ (by rw [size_putRow]; exact hb2)]
    show (w.heap.modify (ρ 0) _)[b]? = _
    rw [Array.getElem?_modify, if_neg hne0]
  · intro id hid
    rw [hids _ id hid]
    exact .inl ⟨by simp [memL], rfl⟩
  · intro id b hb2
    have := hids _ id (by rw [hb2]; simp)
    subst this
    obtain rfl : b = .row 1 (l.map encI) 0 := by simpa [memL] using hb2.symm
    refine ⟨_, rfl, ⟨rfl, Nat.le_refl _, fun _ => by simp [hl]⟩, fun _ => ⟨rfl, fun vs t2 hv => ?_⟩⟩
    rw [hw] at hv
    obtain ⟨rfl, rfl⟩ : ws = vs ∧ t = t2 := by simpa using hv
    exact ⟨_, _, hrow, hsize⟩
  · intro i j hi hj _
    rw [hids _ i hi, hids _ j hj]
  · intro id b hb2
    have := hids _ id (by rw [hb2]; simp)
    subst this
    obtain rfl : b = .row 1 (l'.map encI) 0 := by simpa [memL] using hb2.symm
    refine ⟨Nat.one_pos, fun e he => ?_, _, t, hrow, by rw [hsize]; simp [hl]; exact hlw, fun i e' j c' hi hj => ?_⟩
    · obtain ⟨x, _, rfl⟩ := List.mem_map.1 he; rfl
    · rw [List.getElem?_map] at hi
      obtain ⟨x, hx2, rfl⟩ := Option.map_eq_some_iff.1 hi
      match j, hj with
      | 0, hj =>
        obtain rfl : encI x = c' := by simpa [cellsOf] using hj
        obtain ⟨hi2, hxe⟩ := List.getElem?_eq_some_iff.1 hx2
        have : (putCells (Value.int .i64) 0 l'.toArray ws).getD (i * 1 + 0) undef = .int .i64 x := by
          rw [Nat.mul_one, Nat.add_zero, Array.getD_eq_getD_getElem?]
          unfold putCells
          rw [Array.getElem?_mapIdx, Array.getElem?_eq_getElem (by omega)]
          simp only [Option.map_some, Option.getD_some]
          rw [if_pos ⟨Nat.zero_le _, by simpa using hi2⟩, Nat.sub_zero, getElem!_pos _ _ (by simpa using hi2)]
          simp [hxe]
        rw [this]
        exact .base (.int _ _)
      | j + 1, hj => simp [cellsOf] at hj
/-- What collects a list's numbers and sorts them. -/
theorem sorted_of {l : List Int} {x : AV} (hl : l.length ≤ 1099511627776) (hn : 0 < l.length) (hc : FnM Try.prog 64 [] [x] (.slice 0 0 l.length 0) [.row 1 (l.map encI) 0]) :
    FnM Try.prog 46 [] [x] (.slice 0 0 l.length 0) [.row 1 ((sortI l).map encI) 0] := by
  refine ⟨by kernel_rfl, fun B ρ w vs hF hs ha => ?_⟩
  obtain ⟨vs⟩ := vs
  match vs, hs with
  | [v], _ =>
    have hcol := hc.2 B ρ w #[v] hF rfl ha
    clear ha
    go_enter Try.func46, Try.ntmps46
    go_wp2_with (first
      | (go_at_call 64; refine hcol.mono ?_; rintro e w1 ⟨u, ρ1, rfl, hx1, hf1, hr1⟩; obtain ⟨c, ws, t, rfl, hw1, hlc, hcw, hval⟩ := slice_of hn hf1 hr1)
      | (go_at_call 65; refine (Try.slices_Sort_int (ρ1 0) 0 c l w1 (holds_int hw1 (by omega) hval) (Array.getElem?_eq_some_iff.1 hw1).1 (by omega)).mono ?_; rintro e w2 ⟨rfl, q, os, hw2⟩))
    go_ret
    obtain ⟨k1, k2, ws', k3, k4⟩ := row_after (sortI_len l) hf1 hw1 (by omega) (q := q) (os := os) rfl
    refine ⟨_, ρ1, rfl, hx1.trans k1, k2, .slice 0 0 _ 0 1 _ 0 _ _ c rfl (Nat.le_refl _) fun _ => ⟨by rw [List.length_map, sortI_len]; omega, rfl, 0, ws', t, rfl, fun _ => by simp, hlc, k3, by omega⟩⟩
end Go.Proofs.Ytfhfdenmcneamaa
