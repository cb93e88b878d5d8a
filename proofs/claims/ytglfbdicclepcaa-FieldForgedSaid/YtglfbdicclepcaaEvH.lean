/- Walks with blocks that bear no names: pieces of a walk, and steps taken by hand. For every program. -/
import Derived.Test.YtglfbdicclepcaaEvP
set_option linter.unusedVariables false
set_option linter.unusedSimpArgs false
namespace Go.Proofs.Ytglfbdicclepcaa
open Go.RowKit
set_option maxRecDepth 100000
section
variable {P : Program} {B : Bs} {ρ ρ' : Nat → Nat} {a a' : Act} {w w' : World} {s s' : St} {Q : EvX → St → Prop}
/-- Where nothing was lent. -/
structure Env0 (B : Bs) : Prop where
  m : ∀ id, B.m id = none
/-- A step by hand. -/
structure Hnd (B : Bs) (w w' : World) : Prop where
  os : w'.os = w.os
  tape : w'.tape = w.tape
  output : w'.output = w.output
  size : w.heap.size ≤ w'.heap.size
  low : ∀ b, b < B.w.heap.size → w'.heap[b]? = w.heap[b]?
  df : ∀ (D : Nat) x, w.heap[D]? = some (.deferred x) → w'.heap[D]? = w.heap[D]?
  ro : ∀ (l : Nat) r, w.heap[l]? = some (.loop r) → w'.heap[l]? = w.heap[l]?
theorem Hnd.refl (B : Bs) (w : World) : Hnd B w w := ⟨rfl, rfl, rfl, Nat.le_refl _, fun _ _ => rfl, fun _ _ _ => rfl, fun _ _ _ => rfl⟩
theorem At.low (hE : Env0 B) (hA : At B 0 s ρ a w) : ∀ id, memL s.mem id ≠ none → B.w.heap.size ≤ ρ id := fun id hid => by
  obtain ⟨ds, hR, hG⟩ := hA.ds
  rcases hG.ext.ids id hid with ⟨h, _⟩ | h
  · exact absurd (hE.m id) h
  · exact h
theorem At.fits (hA : At B 0 s ρ a w) : Fits B.A (memL s.mem) ρ w := by obtain ⟨ds, hR, hG⟩ := hA.ds; exact hR.fits
theorem At.rep (hA : At B 0 s ρ a w) : ∀ t v, s.tmps[t]? = some v → Rep B.A (memL s.mem) ρ w v (a.tmps.getD t undef) := by obtain ⟨ds, hR, hG⟩ := hA.ds; exact hR.rep
theorem At.asize (hA : At B 0 s ρ a w) : a.tmps.size = s.tmps.length := by obtain ⟨ds, hR, hG⟩ := hA.ds; exact hR.size
theorem At.base (hA : At B 0 s ρ a w) : B.w.heap.size ≤ w.heap.size := by obtain ⟨ds, hR, hG⟩ := hA.ds; exact hG.ext.size
/-- The same place seen otherwise. -/
theorem at_view (hE : Env0 B) (hA : At B 0 s ρ a w) (hd : a'.defers = a.defers) (hsz : a'.tmps.size = s'.tmps.length) (hw : Hnd B w w') (hF : Fits B.A (memL s'.mem) ρ' w')
    (hr : ∀ t v, s'.tmps[t]? = some v → Rep B.A (memL s'.mem) ρ' w' v (a'.tmps.getD t undef)) (hi : ∀ id, memL s'.mem id ≠ none → B.w.heap.size ≤ ρ' id ∧ B.A (ρ' id)) : At B 0 s' ρ' a' w' := by
  obtain ⟨ds, hR, hG⟩ := hA.ds
  refine ⟨fun l hl => ?_, ⟨fun b hb => hA.up.up b (Nat.le_trans hw.size hb), fun id _ hid => (hi id hid).2⟩, ds, ⟨hF, hsz, hd.trans hR.df, hr⟩, ⟨⟨hw.os.trans hG.ext.os, hw.tape.trans hG.ext.tape, hw.output.trans hG.ext.output, Nat.le_trans hG.ext.size hw.size, fun b hb hn => (hw.low b hb).trans (hG.ext.frame b hb hn), fun id hid => .inr (hi id hid).1⟩, fun id h => absurd h (Nat.not_lt_zero _), ?_⟩⟩
  · obtain ⟨r, hr⟩ := hA.ro l hl
    exact ⟨r, (hw.ro l r hr).trans hr⟩
  · obtain ⟨Ds, h1, h2, h3⟩ := hG.mks
    exact ⟨Ds, h1, h2, fun D hD => ⟨(h3 D hD).1, (hw.df D _ (h3 D hD).2).trans (h3 D hD).2⟩⟩
theorem Ext.hnd (hE : Env0 B) (hA : At B 0 s ρ a w) {m' : Mem} {ρ1 : Nat → Nat} (h : Ext (memL s.mem) ρ w m' ρ1 w') : Hnd B w w' := by
  have hF := hA.fits
  have key : ∀ (D : Nat) x, w.heap[D]? = some x → stillO x = false → w'.heap[D]? = w.heap[D]? := fun D x hx hs => h.frame D (Array.getElem?_eq_some_iff.1 hx).1 fun id hid he => by
    obtain ⟨o, h5, h6⟩ := hF.cellsAt hid
    rw [he, hx] at h5; cases h5; rw [hs] at h6; cases h6
  exact ⟨h.os, h.tape, h.output, h.size, fun b hb => h.frame b (Nat.lt_of_lt_of_le hb hA.base) (fun id hid he => by have := hA.low hE id hid; omega), fun D x hx => key D _ hx rfl, fun l r hr => key l _ hr rfl⟩
/-- From one place to the next. -/
structure Nxt (s : St) (ρ : Nat → Nat) (w : World) (is : List Nat) (s' : St) (ρ' : Nat → Nat) (w' : World) : Prop where
  size : w.heap.size ≤ w'.heap.size
  frame : ∀ b, b < w.heap.size → (∀ id, memL s.mem id ≠ none → ρ id ≠ b) → w'.heap[b]? = w.heap[b]?
  new : ∀ j, memL s'.mem j ≠ none → (memL s.mem (is.getD j 0) ≠ none ∧ ρ' j = ρ (is.getD j 0)) ∨ w.heap.size ≤ ρ' j
  old : ∀ j id b, is[j]? = some id → memL s.mem id = some b → kindB b < 2 → ρ' j = ρ id
theorem at_run (n : Nat) (ss : List Sup) {x : Cur} (x' : Cur) {K : List Fr} (K' : List Fr) (keep is : List Nat) {ob : List Prop} (hob : AllP ob) (hE : Env0 B) (hA : At B 0 s ρ a w)
    (k : ∀ a' ρ' w', At B 0 s' ρ' a' w' → Nxt s ρ w is s' ρ' w' → curW B 0 P Q x' K' a' w') (hpm : P.follows .mixedOrders = true := by kernel_rfl) (h : (runF P n x K ss s).bind (trR 0 keep is) = some (x', K', s', ob) := by kernel_rfl) : curW B 0 P Q x K a w := by
  obtain ⟨⟨r1, r2, r3, r4⟩, h1, h2⟩ := Option.bind_eq_some_iff.1 h
  unfold trR at h2
  split at h2
  · rename_i s1 o h3
    cases h2
    obtain ⟨hob1, hob2⟩ := AllP.append hob
    refine runF_okE hpm n x K ss s r1 r2 r3 r4 h1 hob2 ρ a w hA fun ρ1 a1 w1 hA1 hX => ?_
    unfold trimS at h3
    split at h3
    · rename_i M o1 tm q1 q2
      split at h3
      · rename_i q3
        cases h3
        simp only [Bool.and_eq_true] at q3
        obtain ⟨ds, hR, hG⟩ := hA1.ds
        obtain ⟨z1, z2⟩ := ren_rs hR q1 hob1 q2 q3.1
        have g : ∀ j id, is[j]? = some id → is.getD j 0 = id := fun j id q => by rw [List.getD_eq_getElem?_getD, q]; rfl
        have hlow := hA1.low hE
        refine k a1 (fun j => ρ1 (is.getD j 0)) w1 (at_view hE hA1 rfl z1.size (.refl _ _) z1.fits z1.rep fun j hj => ?_) ⟨hX.size, hX.frame, fun j hj => ?_, fun j id b hj hb hk => ?_⟩
        · obtain ⟨id, y1, y2⟩ := z2 j hj
          simp only [g j id y1]; exact ⟨hlow id y2, hA1.up.own id (Nat.zero_le _) y2⟩
        · obtain ⟨id, y1, y2⟩ := z2 j hj
          simp only [g j id y1]; exact hX.ids id y2
        · simp only [g j id hj]
          exact ((hX.preC (id + 1)) id (Nat.lt_succ_self _) b hk hb).2
      · cases h3
    · cases h3
  · cases h2
/-- Some operations of a region. -/
theorem at_ops {ops : Array Oper} {K : Exit → Act → World → Prop} (hE : Env0 B) : ∀ (l rest : List Oper) (k : Nat) (ss : List Sup) (s s' : St) (ob : List Prop) (ρ : Nat → Nat) (a : Act) (w : World), ops.toList.drop k = l ++ rest → evSeq P ops.toList l ss s = some (s', [], ob) → AllP ob → At B 0 s ρ a w →
    (∀ a' ρ' w', At B 0 s' ρ' a' w' → Ext (memL s.mem) ρ w (memL s'.mem) ρ' w' → wpOpsIn (FR B.ro) 0 P ops K (List.range' (k + l.length) rest.length) a' w') → wpOpsIn (FR B.ro) 0 P ops K (List.range' k (l ++ rest).length) a w := by
  intro l
  induction l with
  | nil =>
    intro rest k ss s s' ob ρ a w _ h _ hA hQ
    simp only [evSeq] at h
    cases h
    simpa using hQ a ρ w hA (.refl _ _ _)
  | cons o l ih =>
    intro rest k ss s s' ob ρ a w hd h hob hA hQ
    cases ss with
    | nil => simp [evSeq] at h
    | cons u ss =>
      simp only [evSeq] at h
      split at h
      · rename_i st1 o1 h1
        split at h
        · rename_i st2 ss2 o2 h2
          cases h
          obtain ⟨hob1, hob2⟩ := AllP.append hob
          have hk : ops[k]? = some o := by
            have : ops.toList[k]? = some o := by
              have := congrArg (fun l => l[0]?) hd
              simpa using this
            simpa using this
          rw [List.cons_append, List.length_cons, List.range'_succ, wpOpsIn_cons]
          obtain ⟨ds, hR, hG⟩ := hA.ds
          refine step_ok hR hA.up.up hk h1 hob1 fun a' ρ' w' hR' hX => ?_
          have hA' := At.step hA.ro hA.up hR hG hR' hX
          refine ih rest (k + 1) ss st1 s' o2 ρ' a' w' ?_ h2 hob2 hA' fun a2 ρ2 w2 hA2 hX2 => ?_
          · have := congrArg (fun l => l.drop 1) hd
            simpa [List.drop_drop, Nat.add_comm] using this
          · have := hQ a2 ρ2 w2 hA2 (hX.trans hX2)
            rw [List.length_cons, show k + (l.length + 1) = k + 1 + l.length by omega] at this
            exact this
        · cases h
      · cases h
theorem at_hand {ops : Array Oper} {K : Exit → Act → World → Prop} {i n : Nat} {o : Oper} {v : Value} (hi : ops[i]? = some o) (hg : o.guard = none) (hx : (execOp a.eval o).run P w = .ok (.value v) w') (hk : wpOpsIn (FR B.ro) 0 P ops K (List.range' (i + 1) n) (a.put o.dst v) w') :
    wpOpsIn (FR B.ro) 0 P ops K (List.range' i (n + 1)) a w := by
  rw [List.range'_succ, wpOpsIn_cons]
  unfold wpOpIn
  rw [hi]
  have hwant : Region.wanted o (yielded ops a.tmps) = true := by unfold Region.wanted; rw [hg]
  simp only [hwant, if_true]
  exact wp_val hx hk
theorem at_region {id : Nat} {ops : Array Oper} {K : Exit → Act → World → Prop} (h : wpOpsIn (FR B.ro) 0 P ops K (List.range' 0 ops.size) a w) : (Code.region id ops false).wpIn (FR B.ro) 0 P K a w := by
  refine wpIn_region ?_
  rw [List.range_eq_range']
  exact h
theorem rep_val {A : Nat → Prop} {m : Mem} {u v : Value} (h : Rep A m ρ w (.val u) v) : v = u := by
  cases h with
  | base h => cases h; rfl
theorem rep_pin {A : Nat → Prop} {m : Mem} {x : AV} {u v : Value} (h : Rep A m ρ w (.pin x u) v) : v = u := by
  cases h with
  | base h => cases h; rfl
theorem fillT_get {d : AV} : ∀ (n k : Nat) (F : List (Nat × AV)) (j : Nat) (v : AV), (fillT d n k F)[j]? = some v → v = d ∨ (k + j, v) ∈ F
  | 0, k, F, j, v, h => by simp [fillT] at h
  | n + 1, k, [], j, v, h => by
    cases j with
    | zero => simp [fillT] at h; exact .inl h.symm
    | succ j =>
      simp only [fillT, List.getElem?_cons_succ] at h
      rcases fillT_get n (k + 1) [] j v h with h | h
      · exact .inl h
      · cases h
  | n + 1, k, (q, x) :: r, j, v, h => by
    simp only [fillT] at h
    split at h
    · rename_i hq
      have hq := Nat.eq_of_beq_eq_true hq
      cases j with
      | zero =>
        simp at h; subst h hq; exact .inr (by simp)
      | succ j =>
        simp only [List.getElem?_cons_succ] at h
        rcases fillT_get n (k + 1) r j v h with h | h
        · exact .inl h
        · exact .inr (List.mem_cons_of_mem _ (by rw [show k + (j + 1) = k + 1 + j by omega]; exact h))
    · cases j with
      | zero => simp at h; exact .inl h.symm
      | succ j =>
        simp only [List.getElem?_cons_succ] at h
        rcases fillT_get n (k + 1) ((q, x) :: r) j v h with h | h
        · exact .inl h
        · exact .inr (by rw [show k + (j + 1) = k + 1 + j by omega]; exact h)
theorem rep_fill {A : Nat → Prop} {m : Mem} {n : Nat} {F : List (Nat × AV)} {f : Nat → Value} (h : ∀ q ∈ F, Rep A m ρ w q.2 (f q.1)) : ∀ t v, (fillT .any n 0 F)[t]? = some v → Rep A m ρ w v (f t) := fun t v ht => by
  rcases fillT_get n 0 F t v ht with rfl | h1
  · exact .base (.any _)
  · rw [Nat.zero_add] at h1; exact h _ h1
theorem fillT_len {d : AV} : ∀ (n k : Nat) (F : List (Nat × AV)), (fillT d n k F).length = n
  | 0, _, _ => rfl
  | n + 1, k, [] => by simp [fillT, fillT_len n (k + 1) []]
  | n + 1, k, (q, x) :: r => by
    simp only [fillT]
    split <;> simp [fillT_len n (k + 1) _]
end
end Go.Proofs.Ytglfbdicclepcaa
