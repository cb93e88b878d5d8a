/- States of a function; regions in the order of the text; codes. For every program. -/
import Derived.Test.YtkijlggnnbdeiaaEvL
set_option linter.unusedVariables false
set_option linter.unusedSimpArgs false
namespace Go.Proofs.Ytkijlggnnbdeiaa
open Go.RowKit

structure St where
  tmps : List AV
  mem : List Blk

def St.τ (s : St) (t : Nat) : AV := s.tmps.getD t (.tuple [])
def St.put (s : St) (d : Option Nat) (v : AV) : St := match d with
  | some d => ⟨s.tmps.set d v, s.mem⟩
  | none => s

def wantedAV (ops : List Oper) (τ : Nat → AV) (o : Oper) : Option Bool :=
  match o.guard with
  | none => some true
  | some (j, want) => match (ops[j]?).bind (·.dst) with
    | some d => match τ d with
      | .bool b => some (b == want)
      | .tuple _ => some false
      | _ => none
    | none => some false

def applyR (M : List Blk) (r : ORes) : Option (List Blk) := match r.wr with
  | some (i, b) => if Nat.blt i M.length then some (M.set i b ++ r.ns) else none
  | none => some (M ++ r.ns)

/-- A call that is lent all of the text's own memory. -/
def evMem (P : Program) (o : Oper) (st : St) (r : AV) (M : List Blk) : Option (St × List Prop) :=
  match o.op with
  | .call { callee := .value f, args, argTypes := _ } => match opd st.τ f with
    | .func (.func g) p c => some ((St.mk st.tmps M).put o.dst r, [FnM P g st.mem (p ++ args.toList.map (opd st.τ) ++ c) r M])
    | _ => none
  | _ => none

def evStep (P : Program) (ops : List Oper) (o : Oper) (s : Sup) (st : St) : Option (St × List Prop) :=
  match wantedAV ops st.τ o with
  | some true => match s with
    | .m r M => evMem P o st r M
    | s => match evAny P o.op o.type st.τ (memL st.mem) st.mem.length s with
      | some r => match applyR st.mem r with
        | some M => some ((St.mk st.tmps M).put o.dst r.v, r.ob)
        | none => none
      | none => none
  | some false => some (st.put o.dst (.tuple []), [])
  | none => none

def evSeq (P : Program) (ops : List Oper) : List Oper → List Sup → St → Option (St × List Sup × List Prop)
  | [], ss, st => some (st, ss, [])
  | o :: l, s :: ss, st => match evStep P ops o s st with
    | some (st1, o1) => match evSeq P ops l ss st1 with
      | some (st2, ss2, o2) => some (st2, ss2, o1 ++ o2)
      | none => none
    | none => none
  | _ :: _, [], _ => none

structure RS (dd : List Deferred) (A : Nat → Prop) (ρ : Nat → Nat) (st : St) (a : Act) (w : World) : Prop where
  fits : Fits A (memL st.mem) ρ w
  size : a.tmps.size = st.tmps.length
  df : a.defers = dd
  rep : ∀ t v, st.tmps[t]? = some v → Rep A (memL st.mem) ρ w v (a.tmps.getD t undef)

section
variable {P : Program} {dd : List Deferred} {ro : Option Nat} {A : Nat → Prop} {m : Mem} {ρ : Nat → Nat} {w : World} {a : Act} {o : Oper} {n0 : Nat}

theorem any_ok {τ : Nat → AV} {look : Mem} {s : Sup} {r : ORes} (hF : Fits A m ρ w) (hup : ∀ b, w.heap.size ≤ b → A b) (hl : ∀ id b, look id = some b → m id = some b) (hn : ∀ j, j < r.ns.length → m (n0 + j) = none) (h : evAny P o.op o.type τ look n0 s = some r) (hob : AllP r.ob)
    (hr : ∀ x ∈ o.op.operands, Rep A m ρ w (opd τ x) (a.eval x)) : OpPost P A m ρ w a o n0 r := by
  unfold evAny at h
  split at h
  · rename_i f args ts hop
    have hf := hr f (by rw [hop]; simp [Op.operands, Call.operands])
    have ha : ∀ x ∈ args, Rep A m ρ w (opd τ x) (a.eval x) := fun x hx => hr x (by rw [hop]; simp [Op.operands, Call.operands, hx])
    split at h
    · exact ext_ok hF hl hop h hob hf ha
    · exact call_ok hF hup hl hn hop h hob hf ha
  · rename_i f name args ts hop
    have hf := hr f (by rw [hop]; simp [Op.operands, Call.operands])
    have ha : ∀ x ∈ args, Rep A m ρ w (opd τ x) (a.eval x) := fun x hx => hr x (by rw [hop]; simp [Op.operands, Call.operands, hx])
    split at h
    · exact inv_ok hF hup hl hop h hob hf ha
    · cases h
  · obtain ⟨r', h1, rfl⟩ := Option.map_eq_some_iff.1 h
    exact fin_post (evOp_ok hF hl (fun j hj => hn j (by cases s <;> exact hj)) h1 (fin_ob hob) hr) hob

theorem RS.eval {st : St} (h : RS dd A ρ st a w) (t : Nat) : Rep A (memL st.mem) ρ w (st.τ t) (a.eval (.tmp t)) := by
  unfold St.τ
  show Rep _ _ _ _ _ (a.tmps.getD t undef)
  cases hv : st.tmps[t]? with
  | some v => rw [List.getD_eq_getElem?_getD, hv]; exact h.rep t v hv
  | none =>
    rw [List.getD_eq_getElem?_getD, hv, Array.getD_eq_getD_getElem?, Array.getElem?_eq_none (by rw [h.size]; exact List.getElem?_eq_none_iff.1 hv)]
    exact .base (.tuple [] #[] rfl (fun i c hc => by simp at hc))

theorem RS.opd {st : St} (h : RS dd A ρ st a w) (x : Operand) : Rep A (memL st.mem) ρ w (opd st.τ x) (a.eval x) := rep_opd fun t _ => h.eval t

theorem RS.put {st : St} (h : RS dd A ρ st a w) (d : Option Nat) {x : AV} {v : Value} (hx : Rep A (memL st.mem) ρ w x v) : RS dd A ρ (st.put d x) (a.put d v) w := by
  cases d with
  | none => exact h
  | some d =>
    refine ⟨h.fits, by simp [St.put, Act.put, h.size], h.df, fun t y hy => ?_⟩
    simp only [St.put] at hy ⊢
    rw [List.getElem?_set] at hy
    simp only [Act.put]
    rw [Array.getD_eq_getD_getElem?, Array.getElem?_setIfInBounds]
    by_cases hd : d = t
    · subst hd
      rw [if_pos rfl] at hy ⊢
      split at hy
      · rename_i hlt
        rw [if_pos (by rw [h.size]; exact hlt)]
        obtain rfl := Option.some.inj hy
        exact hx
      · cases hy
    · rw [if_neg hd] at hy ⊢
      rw [← Array.getD_eq_getD_getElem?]
      exact h.rep t y hy

theorem applyR_ok {M M' : List Blk} {r : ORes} (h : applyR M r = some M') : memL M' = updM (memL M) r.wr M.length r.ns := by
  unfold applyR at h
  split at h
  · rename_i i b hwr
    split at h
    · rename_i hlt
      have hlt : i < M.length := Eq.mp Nat.blt_eq hlt
      obtain rfl := Option.some.inj h
      funext id
      rw [hwr]
      simp only [memL, updM]
      by_cases h1 : M.length ≤ id
      · rw [if_pos h1, List.getElem?_append_right (by simpa using h1)]
        simp only [List.length_set]
        cases h2 : r.ns[id - M.length]? with
        | some b' => rfl
        | none => rw [if_neg (by omega), List.getElem?_eq_none h1]
      · rw [if_neg h1, List.getElem?_append_left (by simp; omega), List.getElem?_set]
        by_cases h3 : i = id
        · subst h3; simp [hlt]
        · simp [h3]
    · cases h
  · rename_i hwr
    obtain rfl := Option.some.inj h
    funext id
    rw [hwr]
    simp only [memL, updM]
    by_cases h1 : M.length ≤ id
    · rw [if_pos h1, List.getElem?_append_right h1]
      cases h2 : r.ns[id - M.length]? with
      | some b' => rfl
      | none => rw [List.getElem?_eq_none h1]
    · rw [if_neg h1, List.getElem?_append_left (by omega)]

theorem memL_out (M : List Blk) (j : Nat) : memL M (M.length + j) = none := by simp [memL]

theorem RS.step {st : St} (h : RS dd A ρ st a w) {M : List Blk} {ρ' : Nat → Nat} {w' : World} (hE : Ext (memL st.mem) ρ w (memL M) ρ' w') (hF : Fits A (memL M) ρ' w') : RS dd A ρ' ⟨st.tmps, M⟩ a w' :=
  ⟨hF, h.size, h.df, fun t v hv => (h.rep t v hv).mono hE⟩

theorem wanted_ok {ops : Array Oper} {τ : Nat → AV} {b : Bool} (hτ : ∀ j c t, o.guard = some (j, c) → (ops[j]?).bind (·.dst) = some t → Rep A m ρ w (τ t) (a.eval (.tmp t))) (h : wantedAV ops.toList τ o = some b) : Region.wanted o (yielded ops a.tmps) = b := by
  unfold wantedAV at h
  unfold Region.wanted
  split at h
  · rename_i hg
    obtain rfl := Option.some.inj h
    rw [hg]
  · rename_i j want hg
    rw [hg]
    simp only [yielded]
    have hj : (ops.toList[j]?).bind (·.dst) = (ops[j]?).bind (·.dst) := by simp
    rw [hj] at h
    split at h
    · rename_i d hd
      have hv := hτ j want d hg (hj ▸ hd)
      have he : a.eval (.tmp d) = (a.tmps[d]?).getD undef := by show a.tmps.getD d undef = _; rw [Array.getD_eq_getD_getElem?]
      split at h
      · rename_i c hc
        obtain rfl := Option.some.inj h
        rw [hc] at hv
        have := rep_bool hv
        rw [he] at this
        simp only [hd, Option.bind_some]
        cases hx : a.tmps[d]? with
        | none => rw [hx] at this; cases this
        | some v =>
          rw [hx] at this
          simp only [Option.getD_some] at this
          subst this
          cases c <;> cases want <;> rfl
      · rename_i c hc
        obtain rfl := Option.some.inj h
        rw [hc] at hv
        obtain ⟨us, hu, _⟩ := rep_tuple hv
        rw [he] at hu
        simp only [hd, Option.bind_some]
        cases hx : a.tmps[d]? with
        | none => rfl
        | some v =>
          rw [hx] at hu
          simp only [Option.getD_some] at hu
          subst hu
          rfl
      · cases h
    · rename_i hd
      obtain rfl := Option.some.inj h
      simp [hd]

theorem up_ext {m' : Mem} {ρ' : Nat → Nat} {w' : World} (h : Ext m ρ w m' ρ' w') (hup : ∀ b, w.heap.size ≤ b → A b) : ∀ b, w'.heap.size ≤ b → A b := fun b hb => hup b (Nat.le_trans h.size hb)

theorem Rep.subA {A' : Nat → Prop} (hA : ∀ b, A b → A' b) {x : AV} {v : Value} (h : Rep A m ρ w x v) : Rep A' m ρ w x v := by
  induction h with
  | base h => exact .base (h.mono (fun b hb => ⟨hA b hb.1, hb.2.1, hb.2.2⟩) (fun _ _ _ => rfl))
  | ptr id off cs hm => exact .ptr id off cs hm
  | ptrR id ver i off k es ver' a hm hle hv => exact .ptrR id ver i off k es ver' a hm hle hv
  | slice id lo len ver k es ver' a n c hm hle hv => exact .slice id lo len ver k es ver' a n c hm hle hv
  | agg cs vs hs h ih => exact .agg cs vs hs ih
  | tuple cs vs hs h ih => exact .tuple cs vs hs ih
  | func f p c ps cs hp hc h k ih ik => exact .func f p c ps cs hp hc ih ik
  | iface t x v h ih => exact .iface t x v ih
theorem Fits.subA {A' : Nat → Prop} (hA : ∀ b, A b → A' b) (h : Fits A m ρ w) : Fits A' m ρ w := ⟨h.inj, fun id b hb => by
  have := h.at_ id b hb
  cases b with
  | cells cs =>
    obtain ⟨vs, t, h1, h2, h3⟩ := this
    exact ⟨vs, t, h1, h2, fun i c hc => (h3 i c hc).subA hA⟩
  | row k es ver =>
    obtain ⟨h0, h4, vs, t, h1, h2, h3⟩ := this
    exact ⟨h0, h4, vs, t, h1, h2, fun i e j c he hc => (h3 i e j c he hc).subA hA⟩⟩

theorem mem_ok {st st' : St} {rr : AV} {M : List Blk} {ob : List Prop} {K : Act → World → Prop} {Q : Exit → Act → World → Prop} (h : RS dd A ρ st a w) (hup : ∀ b, w.heap.size ≤ b → A b) (he : evMem P o st rr M = some (st', ob)) (hob : AllP ob)
    (hK : ∀ a' ρ' w', RS dd A ρ' st' a' w' → Ext (memL st.mem) ρ w (memL st'.mem) ρ' w' → K a' w') : o.wpIn (FR ro) 0 P a w K Q := by
  unfold evMem at he
  split at he
  · rename_i f args ts hop
    split at he
    · rename_i g p c hfv
      cases he
      obtain ⟨⟨hcal, hfn⟩, _⟩ := hob
      obtain ⟨ps, cs, hfe, hps, hcs, hpr, hcr⟩ := rep_func (hfv ▸ h.opd f)
      obtain ⟨hs1, hr1⟩ := args_rep (q := args) (fun x _ => h.opd x)
      have up : ∀ b, A b → Allow A w.heap.size b := fun b hb => .inl hb
      have dn : ∀ b, Allow A w.heap.size b → A b := fun b hb => by rcases hb with hb | hb; exact hb; exact hup b hb
      refine calls_enter (fid := g) (vs := ps ++ args.map a.eval ++ cs) ?_ ((hfn A ρ w _ (h.fits.subA up) ?_ ?_).mono ?_)
      · simp only [execOp, hop, resolve, hfe, Deferred.ofValue, Sem.run_bind, Sem.run_pure, Result.andThen_ok, invoke]
        exact callable_ok hcal _ w
      · simp [hps, hcs]
      · intro i x hx
        refine Rep.subA up ?_
        rw [Array.getD_eq_getD_getElem?]
        by_cases h1 : i < p.length
        · rw [List.append_assoc, List.getElem?_append_left h1] at hx
          rw [Array.append_assoc, Array.getElem?_append_left (by omega), ← Array.getD_eq_getD_getElem?]
          exact hpr i x hx
        · by_cases h2 : i < p.length + args.size
          · rw [List.getElem?_append_left (by simp; omega), List.getElem?_append_right (by omega)] at hx
            rw [Array.getElem?_append_left (by simp; omega), Array.getElem?_append_right (by omega), hps, ← Array.getD_eq_getD_getElem?]
            exact hr1 _ x hx
          · rw [List.getElem?_append_right (by simp; omega)] at hx
            rw [Array.getElem?_append_right (by simp; omega), ← Array.getD_eq_getD_getElem?]
            have := hcr _ x hx
            simpa [hps] using this
      · rintro e w' ⟨v, ρ', rfl, hE, hF', hR'⟩
        refine ⟨v, rfl, hK _ ρ' w' (((h.step (M := M) hE (hF'.subA dn)).put o.dst (hR'.subA dn))) ?_⟩
        have : (St.put ⟨st.tmps, M⟩ o.dst rr).mem = M := by cases o.dst <;> rfl
        rw [this]; exact hE
    · cases he
  · cases he

theorem step_ok {ops : Array Oper} {i : Nat} {s : Sup} {st st' : St} {ob : List Prop} {K : Act → World → Prop} {Q : Exit → Act → World → Prop} (h : RS dd A ρ st a w) (hup : ∀ b, w.heap.size ≤ b → A b) (hi : ops[i]? = some o) (he : evStep P ops.toList o s st = some (st', ob)) (hob : AllP ob)
    (hK : ∀ a' ρ' w', RS dd A ρ' st' a' w' → Ext (memL st.mem) ρ w (memL st'.mem) ρ' w' → K a' w') : wpOpIn (FR ro) 0 P ops Q i K a w := by
  unfold evStep at he
  unfold wpOpIn
  rw [hi]
  split at he
  · rename_i hw
    have hw' := wanted_ok (ops := ops) (fun _ _ t _ _ => h.eval t) hw
    split at he
    · rename_i rr M
      simp only [hw', if_true]
      exact mem_ok h hup he hob hK
    · split at he
      · rename_i r hr
        split at he
        · rename_i M hM
          cases he
          simp only [hw', if_true]
          refine any_ok h.fits hup (fun _ _ h => h) (fun j _ => memL_out st.mem j) hr hob (fun x _ => h.opd x) ro K Q fun v ρ' w' h1 h2 h3 => ?_
          rw [← applyR_ok hM] at h1 h2 h3
          have hs := (h.step h1 h2).put o.dst h3
          refine hK _ ρ' w' hs ?_
          have : (St.put ⟨st.tmps, M⟩ o.dst r.v).mem = M := by cases o.dst <;> rfl
          rw [this]; exact h1
        · cases he
      · cases he
  · rename_i hw
    have hw' := wanted_ok (ops := ops) (fun _ _ t _ _ => h.eval t) hw
    cases he
    simp only [hw', Bool.false_eq_true, if_false]
    refine ⟨fun _ _ => trivial, hK _ ρ w (h.put o.dst (.base (.tuple [] #[] rfl (fun i c hc => by simp at hc)))) ?_⟩
    have : (st.put o.dst (.tuple [])).mem = st.mem := by cases o.dst <;> rfl
    rw [this]; exact .refl _ _ _
  · cases he

theorem seq_ok {ops : Array Oper} {Q : Exit → Act → World → Prop} : ∀ (l : List Oper) (k : Nat) (ss : List Sup) (st st' : St) (ss' : List Sup) (ob : List Prop) (ρ : Nat → Nat) (a : Act) (w : World), ops.toList.drop k = l → evSeq P ops.toList l ss st = some (st', ss', ob) → AllP ob → RS dd A ρ st a w → (∀ b, w.heap.size ≤ b → A b) →
    (∀ a' ρ' w', RS dd A ρ' st' a' w' → Ext (memL st.mem) ρ w (memL st'.mem) ρ' w' → Q .normal a' w') → wpOpsIn (FR ro) 0 P ops Q (List.range' k l.length) a w := by
  intro l
  induction l with
  | nil =>
    intro k ss st st' ss' ob ρ a w _ h _ hR _ hQ
    simp only [evSeq] at h
    cases h
    exact hQ a ρ w hR (.refl _ _ _)
  | cons o l ih =>
    intro k ss st st' ss' ob ρ a w hd h hob hR hup hQ
    cases ss with
    | nil => simp [evSeq] at h
    | cons s ss =>
      simp only [evSeq] at h
      split at h
      · rename_i st1 o1 h1
        split at h
        · rename_i st2 ss2 o2 h2
          cases h
          obtain ⟨hob1, hob2⟩ := AllP.append hob
          have hk : ops[k]? = some o := by
            have : ops.toList[k]? = some o := by
              have := congrArg (fun l => l[0]?) hd
              simpa using this
            simpa using this
          rw [List.length_cons, List.range'_succ, wpOpsIn_cons]
          refine step_ok hR hup hk h1 hob1 fun a' ρ' w' hR' hE => ?_
          refine ih (k + 1) ss st1 st' ss' o2 ρ' a' w' ?_ h2 hob2 hR' (up_ext hE hup) fun a'' ρ'' w'' hR'' hE' => hQ a'' ρ'' w'' hR'' (hE.trans hE')
          have := congrArg (fun l => l.drop 1) hd
          simpa [List.drop_drop, Nat.add_comm] using this
        · cases h
      · cases h

end
end Go.Proofs.Ytkijlggnnbdeiaa
