/- Versions of rows begin anew: rows are of version 0 again, slices of them too, elder ones are forgotten. For every program. -/
import Derived.Test.YtkijlggnnbdeiaaEvT
set_option linter.unusedVariables false
set_option linter.unusedSimpArgs false
namespace Go.Proofs.Ytkijlggnnbdeiaa
open Go.RowKit

mutual
def renV (look : Mem) : AV → AV
  | .slice id lo len ver => match look id with
    | some (.row _ _ ver') => if Nat.beq ver ver' then .slice id lo len 0 else .any
    | _ => .any
  | .ptrR _ _ _ _ => .any
  | .agg cs => .agg (renL look cs)
  | .tuple cs => .tuple (renL look cs)
  | .func f p c => .func f (renL look p) (renL look c)
  | .iface t v => .iface t (renV look v)
  | v => v
def renL (look : Mem) : List AV → List AV
  | [] => []
  | v :: l => renV look v :: renL look l
end
def renB (look : Mem) : Blk → Blk
  | .cells cs => .cells (renL look cs)
  | .row k es _ => .row k es 0
def St.renew (s : St) : St := ⟨renL (memL s.mem) s.tmps, s.mem.map (renB (memL s.mem))⟩

theorem renL_get (look : Mem) : ∀ (l : List AV) (i : Nat), (renL look l)[i]? = (l[i]?).map (renV look)
  | [], i => by simp [renL]
  | v :: l, 0 => by simp [renL]
  | v :: l, i + 1 => by simpa [renL] using renL_get look l i
theorem renL_len (look : Mem) : ∀ (l : List AV), (renL look l).length = l.length
  | [] => rfl
  | v :: l => by simp [renL, renL_len look l]

theorem renV_ri (look : Mem) {w : World} {B : Nat → Prop} {x : AV} {v : Value} (h : RI w B x v) : RI w B (renV look x) v := by
  induction h with
  | agg cs vs hs h ih =>
    simp only [renV]
    refine .agg _ vs (by rw [renL_len]; exact hs) fun i c hc => ?_
    rw [renL_get] at hc
    obtain ⟨c', h1, rfl⟩ := Option.map_eq_some_iff.1 hc
    exact ih i c' h1
  | tuple cs vs hs h ih =>
    simp only [renV]
    refine .tuple _ vs (by rw [renL_len]; exact hs) fun i c hc => ?_
    rw [renL_get] at hc
    obtain ⟨c', h1, rfl⟩ := Option.map_eq_some_iff.1 hc
    exact ih i c' h1
  | func f p c ps cs hp hc h k ih ik =>
    simp only [renV]
    refine .func f _ _ ps cs (by rw [renL_len]; exact hp) (by rw [renL_len]; exact hc) (fun i x hx => ?_) (fun i x hx => ?_)
    · rw [renL_get] at hx
      obtain ⟨x', h1, rfl⟩ := Option.map_eq_some_iff.1 hx
      exact ih i x' h1
    · rw [renL_get] at hx
      obtain ⟨x', h1, rfl⟩ := Option.map_eq_some_iff.1 hx
      exact ik i x' h1
  | iface t x v h ih => simp only [renV]; exact .iface t _ v ih
  | ptrIn e off b o x hB hx hr ih => simp only [renV]; exact .ptrIn e off b o x hB hx hr
  | list l b o cap k x hc hB hk hx hr ih => simp only [renV]; exact .list l b o cap k x hc hB hk hx hr
  | lnil a cap h => simp only [renV]; exact .lnil a cap h
  | _ => simp only [renV]; constructor

theorem renV_rep {A : Nat → Prop} {m m' : Mem} {ρ : Nat → Nat} {w : World} (hm : ∀ id, m' id = (m id).map (renB m)) {x : AV} {v : Value} (h : Rep A m ρ w x v) : Rep A m' ρ w (renV m x) v := by
  have hal : ∀ b, Alien A m ρ w b → Alien A m' ρ w b := fun b hb => ⟨hb.1, hb.2.1, fun id hid => hb.2.2 id fun hn => hid (by rw [hm, hn]; rfl)⟩
  induction h with
  | base h => exact .base (renV_ri m (h.mono hal (fun _ _ _ => rfl)))
  | ptr id off cs h => simp only [renV]; exact .ptr id off (renL m cs) (by rw [hm, h]; rfl)
  | ptrR id ver i off k es ver' a h hle hv => simp only [renV]; exact .base (.any _)
  | slice id lo len ver k es ver' a n c h hle hv =>
    simp only [renV, h]
    split
    · rename_i hc
      obtain rfl := Nat.eq_of_beq_eq_true hc
      exact .slice id lo len 0 k es 0 a n c (by rw [hm, h]; rfl) (Nat.le_refl _) (fun _ => hv rfl)
    · exact .base (.any _)
  | agg cs vs hs h ih =>
    simp only [renV]
    refine .agg _ vs (by rw [renL_len]; exact hs) fun i c hc => ?_
    rw [renL_get] at hc
    obtain ⟨c', h1, rfl⟩ := Option.map_eq_some_iff.1 hc
    exact ih i c' h1
  | tuple cs vs hs h ih =>
    simp only [renV]
    refine .tuple _ vs (by rw [renL_len]; exact hs) fun i c hc => ?_
    rw [renL_get] at hc
    obtain ⟨c', h1, rfl⟩ := Option.map_eq_some_iff.1 hc
    exact ih i c' h1
  | func f p c ps cs hp hc h k ih ik =>
    simp only [renV]
    refine .func f _ _ ps cs (by rw [renL_len]; exact hp) (by rw [renL_len]; exact hc) (fun i x hx => ?_) (fun i x hx => ?_)
    · rw [renL_get] at hx
      obtain ⟨x', h1, rfl⟩ := Option.map_eq_some_iff.1 hx
      exact ih i x' h1
    · rw [renL_get] at hx
      obtain ⟨x', h1, rfl⟩ := Option.map_eq_some_iff.1 hx
      exact ik i x' h1
  | iface t x v h ih => simp only [renV]; exact .iface t _ v ih

/-- Rows bear no names within. -/
def RowsFree (M : List Blk) : Prop := ∀ id k es ver, memL M id = some (.row k es ver) → ∀ e ∈ es, idsOf e = []

theorem ids_cell {e c : AV} {j : Nat} (h : idsOf e = []) (hc : (cellsOf e)[j]? = some c) : idsOf c = [] := by
  rw [List.eq_nil_iff_forall_not_mem]
  intro n hn
  have : n ∈ idsOf e := by
    cases e with
    | agg cs => simp only [idsOf]; exact idsL_get hc hn
    | _ =>
      simp only [cellsOf] at hc
      obtain ⟨q1, q2⟩ := List.getElem?_eq_some_iff.1 hc
      have : j = 0 := by simp at q1; omega
      subst this
      simp at q2
      rw [← q2] at hn; exact hn
  rw [h] at this; cases this

theorem renew_rs {dd : List Deferred} {A : Nat → Prop} {ρ : Nat → Nat} {s : St} {a : Act} {w : World} (h : RS dd A ρ s a w) (hr : RowsFree s.mem) : RS dd A ρ s.renew a w ∧ ∀ id, memL s.renew.mem id ≠ none → memL s.mem id ≠ none := by
  have hm : ∀ id, memL s.renew.mem id = (memL s.mem id).map (renB (memL s.mem)) := fun id => by simp [memL, St.renew]
  have hal : ∀ id, memL s.renew.mem id ≠ none → memL s.mem id ≠ none := fun id hid hn => hid (by rw [hm, hn]; rfl)
  refine ⟨⟨⟨fun i j hi hj he => h.fits.inj i j (hal i hi) (hal j hj) he, fun id b hb => ?_⟩, by rw [h.size]; simp [St.renew, renL_len], h.df, fun t v hv => ?_⟩, hal⟩
  · rw [hm] at hb
    obtain ⟨b', h1, rfl⟩ := Option.map_eq_some_iff.1 hb
    have hf := h.fits.at_ id b' h1
    cases b' with
    | cells cs =>
      obtain ⟨vs, t, h2, h3, h4⟩ := hf
      refine ⟨vs, t, h2, by rw [renL_len]; exact h3, fun i c hc => ?_⟩
      rw [renL_get] at hc
      obtain ⟨c', h5, rfl⟩ := Option.map_eq_some_iff.1 hc
      exact renV_rep hm (h4 i c' h5)
    | row k es ver =>
      obtain ⟨h0, h5, vs, t, h2, h3, h4⟩ := hf
      refine ⟨h0, h5, vs, t, h2, h3, fun i e q c he hc => ?_⟩
      have hid := ids_cell (hr id k es ver h1 e (List.mem_iff_getElem?.2 ⟨i, he⟩)) hc
      refine .base (((h4 i e q c he hc).ri hid).mono (fun b hb => ⟨hb.1, hb.2.1, fun id' hid' => hb.2.2 id' (hal id' hid')⟩) (fun _ _ _ => rfl))
  · simp only [St.renew] at hv
    rw [renL_get] at hv
    obtain ⟨x, h1, rfl⟩ := Option.map_eq_some_iff.1 hv
    exact renV_rep hm (h.rep t x h1)

/-- Cells below j; rows without names. -/
def closedR (j : Nat) : List Blk → Option (List Prop)
  | [] => some []
  | .cells cs :: l => if cs.all (belowV j) then closedR j l else none
  | .row _ es _ :: l => (closedR j l).map fun r => (∀ e ∈ es, idsOf e = []) :: r
theorem closedR_of {j : Nat} : ∀ (M : List Blk) (ob : List Prop), closedR j M = some ob → AllP ob → (∀ b ∈ M, ∀ x ∈ cellsB b, belowV j x = true) ∧ RowsFree M
  | [], ob, _, _ => ⟨fun b hb => by simp at hb, fun id k es ver h => by simp [memL] at h⟩
  | .cells cs :: l, ob, h, hob => by
    simp only [closedR] at h
    split at h
    · rename_i hc
      obtain ⟨e1, e2⟩ := closedR_of l ob h hob
      refine ⟨fun b hb x hx => ?_, fun id k es ver h => ?_⟩
      · rcases List.mem_cons.1 hb with rfl | hb
        · exact List.all_eq_true.1 hc x hx
        · exact e1 b hb x hx
      · cases id with
        | zero => simp [memL] at h
        | succ id => exact e2 id k es ver (by simpa [memL] using h)
    · cases h
  | .row k es ver :: l, ob, h, hob => by
    simp only [closedR] at h
    obtain ⟨r, h1, rfl⟩ := Option.map_eq_some_iff.1 h
    obtain ⟨e1, e2⟩ := closedR_of l r h1 hob.2
    refine ⟨fun b hb x hx => ?_, fun id k' es' ver' h => ?_⟩
    · rcases List.mem_cons.1 hb with rfl | hb
      · have : idsOf x = [] := hob.1 x hx
        simp [belowV, this]
      · exact e1 b hb x hx
    · cases id with
      | zero => simp [memL] at h; obtain ⟨rfl, rfl, rfl⟩ := h; exact hob.1
      | succ id => exact e2 id k' es' ver' (by simpa [memL] using h)

theorem rows_take {j : Nat} {keep : List Nat} {s : St} (h : RowsFree (s.mem.take j)) : RowsFree (s.forget keep j).mem := h

end Go.Proofs.Ytkijlggnnbdeiaa
