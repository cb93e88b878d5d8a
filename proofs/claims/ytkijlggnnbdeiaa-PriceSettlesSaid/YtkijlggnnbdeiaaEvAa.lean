/- The walk of an iterator: calls of yield. For every program. -/
import Derived.Test.YtkijlggnnbdeiaaEvZ
set_option linter.unusedVariables false
set_option linter.unusedSimpArgs false
namespace Go.Proofs.Ytkijlggnnbdeiaa
open Go.RowKit

structure YC where
  n : Nat
  l : Nat
  xs : List (List AV)
  J : Nat → (Nat → Prop) → World → Prop
  Jx : Nat → (Nat → Prop) → World → Prop
def YC.inv (Y : YC) (g : Nat × Bool) (S : Nat → Prop) (W : World) : Prop := match g.2 with
  | false => Y.J g.1 S W
  | true => Y.Jx g.1 S W
structure YC.Good (Y : YC) (P : Program) : Prop where
  fJ : Frm Y.n Y.J
  fJx : Frm Y.n Y.Jx
  hY : ∀ k x S1 W1 (ys : Array Value), Y.xs[k]? = some x → Y.J k S1 W1 → Y.n ≤ W1.heap.size → ys.size = x.length → (∀ i c, x[i]? = some c → RI W1 (fun _ => False) c (ys.getD i undef)) →
      YieldAt Fence.wide 0 P Y.l ys W1 fun e W' => ∃ S2, (∀ b, S2 b → b < W'.heap.size ∧ (S1 b ∨ W1.heap.size ≤ b)) ∧ GrowS S1 W1 W' ∧ ((e = .returned (.bool true) ∧ Y.J (k + 1) S2 W') ∨ (e = .returned (.bool false) ∧ Y.Jx (k + 1) S2 W'))
theorem YC.Good.frm {Y : YC} {P : Program} (h : Y.Good P) {g : Nat × Bool} {S : Nat → Prop} {W W' : World} (hi : Y.inv g S W) (h1 : W'.os = W.os) (h2 : W'.tape = W.tape) (h3 : W'.output = W.output) (h4 : W.heap.size ≤ W'.heap.size) (h5 : ∀ b, b < W.heap.size → (b < Y.n ∨ S b) → W'.heap[b]? = W.heap[b]?) : Y.inv g S W' := by
  unfold YC.inv at *
  split at hi <;> rename_i e
  · exact h.fJ _ _ _ _ hi h1 h2 h3 h4 h5
  · exact h.fJx _ _ _ _ hi h1 h2 h3 h4 h5

structure ExtY (S : Nat → Prop) (m : Mem) (ρ : Nat → Nat) (w : World) (m' : Mem) (ρ' : Nat → Nat) (w' : World) : Prop where
  os : w'.os = w.os
  tape : w'.tape = w.tape
  output : w'.output = w.output
  size : w.heap.size ≤ w'.heap.size
  frame : ∀ b, b < w.heap.size → ¬ S b → (∀ id, m id ≠ none → ρ id ≠ b) → w'.heap[b]? = w.heap[b]?
  ids : ∀ id, m' id ≠ none → (m id ≠ none ∧ ρ' id = ρ id) ∨ w.heap.size ≤ ρ' id
theorem ExtY.refl (S : Nat → Prop) (m : Mem) (ρ : Nat → Nat) (w : World) : ExtY S m ρ w m ρ w := ⟨rfl, rfl, rfl, Nat.le_refl _, fun _ _ _ _ => rfl, fun _ h => .inl ⟨h, rfl⟩⟩
theorem ExtY.trans {S S' : Nat → Prop} {m m' m'' : Mem} {ρ ρ' ρ'' : Nat → Nat} {w w' w'' : World} (h : ExtY S m ρ w m' ρ' w') (hS : ∀ b, S' b → S b ∨ w.heap.size ≤ b) (k : ExtY S' m' ρ' w' m'' ρ'' w'') : ExtY S m ρ w m'' ρ'' w'' where
  os := k.os.trans h.os
  tape := k.tape.trans h.tape
  output := k.output.trans h.output
  size := Nat.le_trans h.size k.size
  frame b hb hn hno := by
    rw [k.frame b (Nat.lt_of_lt_of_le hb h.size) (fun h' => ?_) (fun id hid he => ?_), h.frame b hb hn hno]
    · rcases hS b h' with h1 | h1
      · exact hn h1
      · omega
    · rcases h.ids id hid with ⟨h1, h2⟩ | h1
      · exact hno id h1 (h2 ▸ he)
      · omega
  ids id hid := by
    rcases k.ids id hid with ⟨h1, h2⟩ | h1
    · rcases h.ids id h1 with ⟨h3, h4⟩ | h3
      · exact .inl ⟨h3, h2.trans h4⟩
      · exact .inr (by omega)
    · exact .inr (Nat.le_trans h.size h1)

abbrev SG := St × Nat × Bool

/-- What holds of a state within an iterator. -/
structure YS (Y : YC) (dd : List Deferred) (A : Nat → Prop) (ρ : Nat → Nat) (s : SG) (S : Nat → Prop) (a : Act) (w : World) : Prop where
  rs : RS dd A ρ s.1 a w
  sl : ∀ b, S b → b < w.heap.size ∧ ¬ A b
  own : ∀ id, memL s.1.mem id ≠ none → ¬ S (ρ id) ∧ Y.n ≤ ρ id
  nle : Y.n ≤ w.heap.size
  inv : Y.inv s.2 S w

def OkY (Y : YC) (P : Program) (c : Code) (s : SG) (Q : EvX → SG → Prop) : Prop :=
  ∀ (dd : List Deferred) (A : Nat → Prop) (ρ : Nat → Nat) (a : Act) (w : World) (S : Nat → Prop), YS Y dd A ρ s S a w → (∀ b, w.heap.size ≤ b → A b) →
    c.wpIn (FR none) 0 P (fun e a' w' => ∃ x s' ρ' S', e = EvX.to x ∧ Q x s' ∧ YS Y dd (fun b => A b ∧ ¬ S' b) ρ' s' S' a' w' ∧ ExtY S (memL s.1.mem) ρ w (memL s'.1.mem) ρ' w' ∧ ∀ b, S' b → S b ∨ w.heap.size ≤ b) a w

section
variable {Y : YC} {P : Program}

theorem YS.subA {dd : List Deferred} {A A' : Nat → Prop} {ρ : Nat → Nat} {s : SG} {S : Nat → Prop} {a : Act} {w : World} (h : YS Y dd A ρ s S a w) (hA : ∀ b, A b → A' b) (hS : ∀ b, S b → ¬ A' b) : YS Y dd A' ρ s S a w :=
  ⟨⟨h.rs.fits.subA hA, h.rs.size, h.rs.df, fun t v hv => (h.rs.rep t v hv).subA hA⟩, fun b hb => ⟨(h.sl b hb).1, hS b hb⟩, h.own, h.nle, h.inv⟩
theorem YS.up {dd : List Deferred} {A : Nat → Prop} {ρ' : Nat → Nat} {s' : SG} {S' : Nat → Prop} {a' : Act} {w w' : World} (h : YS Y dd (fun b => A b ∧ ¬ S' b) ρ' s' S' a' w') (hs : w.heap.size ≤ w'.heap.size) (hup : ∀ b, w.heap.size ≤ b → A b) : ∀ b, w'.heap.size ≤ b → A b ∧ ¬ S' b := fun b hb => ⟨hup b (by omega), fun hS => by have := (h.sl b hS).1; omega⟩
/-- One piece behind another. -/
theorem YS.join {dd : List Deferred} {A : Nat → Prop} {ρ : Nat → Nat} {s : SG} {S S' : Nat → Prop} {a : Act} {w : World} (h : YS Y dd (fun b => (A b ∧ ¬ S' b) ∧ ¬ S b) ρ s S a w) : YS Y dd (fun b => A b ∧ ¬ S b) ρ s S a w := h.subA (fun b hb => ⟨hb.1.1, hb.2⟩) (fun b hb hA => hA.2 hb)

theorem OkY.ev (hG : Y.Good P) (hm : P.follows .mixedOrders = true) (n : Nat) (ss : List Sup) {c : Code} {s : SG} {st' : St} {e : EvX} {ss' : List Sup} {ob : List Prop} {Q : EvX → SG → Prop} (h : evC P n c ss s.1 = some (e, st', ss', ob)) (hob : AllP ob) (hQ : Q e (st', s.2)) : OkY Y P c s Q :=
  fun dd A ρ a w S hR hup => evC_ok hm n c ss s.1 e st' ss' ob h hob ρ a w hR.rs hup _ fun a' ρ' w' hR' hE => ⟨e, (st', s.2), ρ', S, rfl, hQ, by
    have hw := hE.weak
    refine ⟨⟨hR'.fits.same (fun b hb => ⟨⟨⟨hb.1, fun hS => (hR.sl b hS).2 hb.1⟩, hb.2⟩, rfl⟩) (fun _ _ => rfl), hR'.size, hR'.df, fun t v hv => (hR'.rep t v hv).same (fun b hb => ⟨⟨⟨hb.1, fun hS => (hR.sl b hS).2 hb.1⟩, hb.2⟩, rfl⟩) (fun _ _ => rfl)⟩, fun b hS => ⟨by have := (hR.sl b hS).1; have := hE.size; omega, fun h => h.2 hS⟩, fun id hid => ?_, by have := hR.nle; have := hE.size; omega, ?_⟩
    · rcases hw.ids id hid with ⟨h1, h2⟩ | h1
      · rw [h2]; exact hR.own id h1
      · exact ⟨fun hS => by have := (hR.sl _ hS).1; omega, by have := hR.nle; omega⟩
    · refine hG.frm hR.inv hE.os hE.tape hE.output hE.size fun b hb hS => hE.frame b hb fun id hid he => ?_
      subst he
      rcases hS with hS | hS
      · have := (hR.own id hid).2; omega
      · exact (hR.own id hid).1 hS, ⟨hE.os, hE.tape, hE.output, hE.size, fun b hb _ hn => hE.frame b hb hn, hE.ids⟩, fun b hb => .inl hb⟩

theorem OkY.mono {c : Code} {s : SG} {Q Q' : EvX → SG → Prop} (h : OkY Y P c s Q) (hq : ∀ e s, Q e s → Q' e s) : OkY Y P c s Q' :=
  fun dd A ρ a w S hR hup => Code.wpIn_mono (fun e a' w' ⟨x, s', ρ', S', h1, h2, h3⟩ => ⟨x, s', ρ', S', h1, hq x s' h2, h3⟩) (h dd A ρ a w S hR hup)

theorem OkY.seq {x y : Code} {s : SG} {Q : EvX → SG → Prop} (h : OkY Y P x s (fun e s => (e = .normal ∧ OkY Y P y s Q) ∨ (e ≠ .normal ∧ Q e s))) : OkY Y P (.seq x y) s Q := fun dd A ρ a w S hR hup => by
  refine wpIn_seq (Code.wpIn_mono ?_ (h dd A ρ a w S hR hup))
  rintro e a' w' ⟨z, s', ρ', S', rfl, hz, hR', hE, hS⟩
  rcases hz with ⟨rfl, hy⟩ | ⟨hne, hq⟩
  · refine Code.wpIn_mono ?_ (hy dd _ ρ' a' w' S' hR' (hR'.up hE.size hup))
    rintro e2 a2 w2 ⟨z2, s2, ρ2, S2, h1, h2, h3, h4, h5⟩
    refine ⟨z2, s2, ρ2, S2, h1, h2, h3.join, hE.trans hS h4, fun b hb => ?_⟩
    rcases h5 b hb with h6 | h6
    · exact hS b h6
    · exact .inr (Nat.le_trans hE.size h6)
  · exact thenE hne ⟨z, s', ρ', S', rfl, hq, hR', hE, hS⟩

theorem OkY.block {id : Nat} {x : Code} {s : SG} {Q : EvX → SG → Prop} (h : OkY Y P x s (fun e s => match e with | .exit j => if j = id then Q .normal s else Q (.exit j) s | e => Q e s)) : OkY Y P (.block id x) s Q := fun dd A ρ a w S hR hup => by
  refine wpIn_block (Code.wpIn_mono ?_ (h dd A ρ a w S hR hup))
  rintro e a' w' ⟨z, s', ρ', S', rfl, hz, hR', hE⟩
  cases z with
  | exit j =>
    simp only [EvX.to, Exit.inBlock]
    split
    · rename_i hj; simp only [if_pos hj] at hz; exact ⟨.normal, s', ρ', S', rfl, hz, hR', hE⟩
    · rename_i hj; simp only [if_neg hj] at hz; exact ⟨.exit j, s', ρ', S', rfl, hz, hR', hE⟩
  | normal => exact ⟨.normal, s', ρ', S', rfl, hz, hR', hE⟩
  | ret => exact ⟨.ret, s', ρ', S', rfl, hz, hR', hE⟩

theorem OkY.cond {t : Nat} {x y : Code} {s : SG} {b : Bool} {Q : EvX → SG → Prop} (hb : s.1.τ t = .bool b) (h : b = true → OkY Y P x s Q) (k : b = false → OkY Y P y s Q) : OkY Y P (.cond (.tmp t) x y) s Q := fun dd A ρ a w S hR hup => by
  have hv := hR.rs.eval t
  rw [hb] at hv
  cases b with
  | true => exact wpIn_cond_true (rep_bool hv) (h rfl dd A ρ a w S hR hup)
  | false => exact wpIn_cond_false (rep_bool hv) (k rfl dd A ρ a w S hR hup)

theorem OkY.loop {x : Code} {s : SG} {Q : EvX → SG → Prop} (I : Nat → SG → Prop) (n : Nat) (h0 : I n s) (h : ∀ n s, I n s → OkY Y P x s (fun e s' => match e with | .normal => ∃ k, k < n ∧ I k s' | e => Q e s')) : OkY Y P (.loop x) s Q := fun dd A ρ a w S hR hup => by
  refine loopE (fun k a' w' => ∃ s1 ρ1 S1, I k s1 ∧ YS Y dd (fun b => A b ∧ ¬ S1 b) ρ1 s1 S1 a' w' ∧ ExtY S (memL s.1.mem) ρ w (memL s1.1.mem) ρ1 w' ∧ ∀ b, S1 b → S b ∨ w.heap.size ≤ b) n ⟨s, ρ, S, h0, ?_, .refl _ _ _ _, fun b hb => .inl hb⟩ ?_
  · exact ⟨⟨hR.rs.fits.same (fun b hb => ⟨⟨⟨hb.1, fun hS => (hR.sl b hS).2 hb.1⟩, hb.2⟩, rfl⟩) (fun _ _ => rfl), hR.rs.size, hR.rs.df, fun t v hv => (hR.rs.rep t v hv).same (fun b hb => ⟨⟨⟨hb.1, fun hS => (hR.sl b hS).2 hb.1⟩, hb.2⟩, rfl⟩) (fun _ _ => rfl)⟩, fun b hS => ⟨(hR.sl b hS).1, fun h => h.2 hS⟩, hR.own, hR.nle, hR.inv⟩
  rintro k a1 w1 ⟨s1, ρ1, S1, hI, hR1, hE1, hS1⟩
  refine Code.wpIn_mono ?_ (h k s1 hI dd _ ρ1 a1 w1 S1 hR1 (hR1.up hE1.size hup))
  rintro e a' w' ⟨z, s2, ρ2, S2, rfl, hz, hR2, hE2, hS2⟩
  have hE := hE1.trans hS1 hE2
  have hS : ∀ b, S2 b → S b ∨ w.heap.size ≤ b := fun b hb => by
    rcases hS2 b hb with h6 | h6
    · exact hS1 b h6
    · exact .inr (Nat.le_trans hE1.size h6)
  cases z with
  | normal => obtain ⟨k', h1, h2⟩ := hz; exact ⟨k', h1, s2, ρ2, S2, h2, hR2.join, hE, hS⟩
  | exit j => exact ⟨.exit j, s2, ρ2, S2, rfl, hz, hR2.join, hE, hS⟩
  | ret => exact ⟨.ret, s2, ρ2, S2, rfl, hz, hR2.join, hE, hS⟩

/-- What is known only of names and memory may be told anew. -/
theorem OkY.reshape {c : Code} {s : SG} {Q Q' : EvX → SG → Prop} (h : OkY Y P c s Q') (hq : ∀ e s', Q' e s' → ∃ st2, Q e (st2, s'.2) ∧ (∀ dd A ρ a w, RS dd A ρ s'.1 a w → RS dd A ρ st2 a w) ∧ ∀ id, memL st2.mem id ≠ none → memL s'.1.mem id ≠ none) : OkY Y P c s Q :=
  fun dd A ρ a w S hR hup => Code.wpIn_mono (fun e a' w' ⟨x, s', ρ', S', h1, h2, h3, h4, h5⟩ => by
    obtain ⟨st2, g1, g2, g3⟩ := hq x s' h2
    exact ⟨x, (st2, s'.2), ρ', S', h1, g1, ⟨g2 _ _ _ _ _ h3.rs, h3.sl, fun id hid => h3.own id (g3 id hid), h3.nle, h3.inv⟩, ⟨h4.os, h4.tape, h4.output, h4.size, h4.frame, fun id hid => h4.ids id (g3 id hid)⟩, h5⟩) (h dd A ρ a w S hR hup)
theorem OkY.pre {c : Code} {s : SG} {st2 : St} {Q : EvX → SG → Prop} (h : OkY Y P c (st2, s.2) Q) (h1 : ∀ dd A ρ a w, RS dd A ρ s.1 a w → RS dd A ρ st2 a w) (h2 : ∀ id, memL st2.mem id ≠ none → memL s.1.mem id ≠ none) : OkY Y P c s Q :=
  fun dd A ρ a w S hR hup => Code.wpIn_mono (fun e a' w' ⟨x, s', ρ', S', g1, g2, g3, g4, g5⟩ => ⟨x, s', ρ', S', g1, g2, g3, ⟨g4.os, g4.tape, g4.output, g4.size, fun b hb hS hn => g4.frame b hb hS fun id hid => hn id (h2 id hid), fun id hid => by
    rcases g4.ids id hid with ⟨q1, q2⟩ | q1
    · exact .inl ⟨h2 id q1, q2⟩
    · exact .inr q1⟩, g5⟩) (h dd A ρ a w S ⟨h1 _ _ _ _ _ hR.rs, hR.sl, fun id hid => hR.own id (h2 id hid), hR.nle, hR.inv⟩ hup)


/-! ### yield -/

theorem seq_pre {dd : List Deferred} {A : Nat → Prop} {ro : Option Nat} {ops : Array Oper} {Q : Exit → Act → World → Prop} (rest : List Oper) : ∀ (l : List Oper) (k : Nat) (ss : List Sup) (st st' : St) (ss' : List Sup) (ob : List Prop) (ρ : Nat → Nat) (a : Act) (w : World), ops.toList.drop k = l ++ rest → evSeq P ops.toList l ss st = some (st', ss', ob) → AllP ob → RS dd A ρ st a w → (∀ b, w.heap.size ≤ b → A b) →
    (∀ a' ρ' w', RS dd A ρ' st' a' w' → Ext (memL st.mem) ρ w (memL st'.mem) ρ' w' → wpOpsIn (FR ro) 0 P ops Q (List.range' (k + l.length) rest.length) a' w') → wpOpsIn (FR ro) 0 P ops Q (List.range' k (l.length + rest.length)) a w := by
  intro l
  induction l with
  | nil =>
    intro k ss st st' ss' ob ρ a w _ h _ hR _ hQ
    simp only [evSeq] at h
    cases h
    simpa using hQ a ρ w hR (.refl _ _ _)
  | cons o l ih =>
    intro k ss st st' ss' ob ρ a w hd h hob hR hup hQ
    cases ss with
    | nil => simp [evSeq] at h
    | cons s ss =>
      simp only [evSeq] at h
      split at h
      · rename_i st1 o1 h1
        split at h
        · rename_i st2 ss2 o2 h2
          cases h
          obtain ⟨hob1, hob2⟩ := AllP.append hob
          have hk : ops[k]? = some o := by
            have : ops.toList[k]? = some o := by
              have := congrArg (fun l => l[0]?) hd
              simpa using this
            simpa using this
          rw [List.length_cons, show l.length + 1 + rest.length = (l.length + rest.length) + 1 by omega, List.range'_succ, wpOpsIn_cons]
          refine step_ok hR hup hk h1 hob1 fun a' ρ' w' hR' hE => ?_
          refine ih (k + 1) ss st1 st' ss' o2 ρ' a' w' ?_ h2 hob2 hR' (up_ext hE hup) fun a'' ρ'' w'' hR'' hE' => ?_
          · have := congrArg (fun l => l.drop 1) hd
            simpa [List.drop_drop, Nat.add_comm] using this
          · rw [show k + 1 + l.length = k + (l.length + 1) by omega]
            exact hQ a'' ρ'' w'' hR'' (hE.trans hE')
        · cases h
      · cases h

theorem yield_exec {a : Act} {w : World} {o : Oper} {f : Operand} {args : Array Operand} {ts : Array TypeId} {l : Nat} {fn : FuncId} {tmps : Array Value} {assign body : Code} (ho : o.op = .call { callee := .value f, args := args, argTypes := ts }) (hf : a.eval f = .func (.yield l) #[] #[]) (hy : (Instr.yield l (args.map a.eval)).run P w = .ok (.round l fn tmps assign body) w) :
    (execOp a.eval o).run P w = .ok (.round l fn tmps assign body) w := by
  simp only [execOp, ho, resolve, hf, Deferred.ofValue, Sem.run_bind, Sem.run_pure, Result.andThen_ok, invoke]
  simpa using hy

/-- A region with one call of yield in it. -/
theorem OkY.yield (hG : Y.Good P) {id k : Nat} {ops : Array Oper} {s : SG} {Q : EvX → SG → Prop} (hs : s.2 = (k, false)) (i : Nat) {o : Oper} (hi : ops[i]? = some o) (ss : List Sup) {s1 : St} {ob1 : List Prop} (h1 : evSeq P ops.toList (ops.toList.take i) ss s.1 = some (s1, [], ob1)) (hob1 : AllP ob1) (hw : wantedAV ops.toList s1.τ o = some true)
    {f : Operand} {args : Array Operand} {ts : Array TypeId} (ho : o.op = .call { callee := .value f, args := args, argTypes := ts }) (hf : opd s1.τ f = .func (.yield Y.l) [] []) (hx : Y.xs[k]? = some (args.toList.map (opd s1.τ))) (hpl : plainL (args.toList.map (opd s1.τ)) = true) (hid : idsL (args.toList.map (opd s1.τ)) = [])
    (st : List Sup) {t2 : St} {obt : List Prop} (h2 : evSeq P ops.toList (ops.toList.drop (i + 1)) st (s1.put o.dst (.bool true)) = some (t2, [], obt)) (hobt : AllP obt) (sf : List Sup) {f2 : St} {obf : List Prop} (h3 : evSeq P ops.toList (ops.toList.drop (i + 1)) sf (s1.put o.dst (.bool false)) = some (f2, [], obf)) (hobf : AllP obf)
    (hQt : Q .normal (t2, k + 1, false)) (hQf : Q .normal (f2, k + 1, true)) : OkY Y P (.region id ops false) s Q := fun dd A ρ a w S hR hup => by
  have hlt : i < ops.size := (Array.getElem?_eq_some_iff.1 hi).1
  have hdrop : ops.toList.drop i = o :: ops.toList.drop (i + 1) := by
    have : ops.toList[i]? = some o := by simpa using hi
    exact List.drop_eq_getElem?_toList_append.trans (by rw [this]; rfl)
  refine wpIn_region ?_
  rw [List.range_eq_range']
  have hsz : ops.size = (ops.toList.take i).length + (ops.toList.drop i).length := by simp; omega
  rw [hsz]
  refine seq_pre (ops.toList.drop i) _ 0 ss s.1 s1 [] ob1 ρ a w (by simp) h1 hob1 hR.rs hup fun a1 ρ1 w1 hR1 hE1 => ?_
  have hti : (ops.toList.take i).length = i := by simp; omega
  rw [hti, Nat.zero_add, hdrop, List.length_cons, List.range'_succ, wpOpsIn_cons]
  unfold wpOpIn
  rw [hi]
  have hw' := wanted_ok (ops := ops) (fun _ _ t _ _ => hR1.eval t) hw
  simp only [hw', if_true]
  -- the state ahead of the call
  have hY1 : YS Y dd (fun b => A b ∧ ¬ S b) ρ1 (s1, s.2) S a1 w1 ∧ ExtY S (memL s.1.mem) ρ w (memL s1.mem) ρ1 w1 := by
    have hw := hE1.weak
    refine ⟨⟨⟨hR1.fits.same (fun b hb => ⟨⟨⟨hb.1, fun hS => (hR.sl b hS).2 hb.1⟩, hb.2⟩, rfl⟩) (fun _ _ => rfl), hR1.size, hR1.df, fun t v hv => (hR1.rep t v hv).same (fun b hb => ⟨⟨⟨hb.1, fun hS => (hR.sl b hS).2 hb.1⟩, hb.2⟩, rfl⟩) (fun _ _ => rfl)⟩, fun b hS => ⟨by have := (hR.sl b hS).1; have := hE1.size; omega, fun h => h.2 hS⟩, fun id hid => ?_, by have := hR.nle; have := hE1.size; omega, ?_⟩, ⟨hE1.os, hE1.tape, hE1.output, hE1.size, fun b hb _ hn => hE1.frame b hb hn, hE1.ids⟩⟩
    · rcases hw.ids id hid with ⟨h1, h2⟩ | h1
      · rw [h2]; exact hR.own id h1
      · exact ⟨fun hS => by have := (hR.sl _ hS).1; omega, by have := hR.nle; omega⟩
    · refine hG.frm hR.inv hE1.os hE1.tape hE1.output hE1.size fun b hb hS => hE1.frame b hb fun id hid he => ?_
      subst he
      rcases hS with hS | hS
      · have := (hR.own id hid).2; omega
      · exact (hR.own id hid).1 hS
  obtain ⟨hY1, hX1⟩ := hY1
  obtain ⟨ps, cs, hfe, hp0, hc0, _, _⟩ := rep_func (hf ▸ hR1.opd f)
  have e1 : ps = #[] := Array.eq_empty_of_size_eq_zero (by simpa using hp0)
  have e2 : cs = #[] := Array.eq_empty_of_size_eq_zero (by simpa using hc0)
  subst e1; subst e2
  obtain ⟨hs1, hr1⟩ := args_rep (q := args) (fun x _ => hR1.opd x)
  have hJ : Y.J k S w1 := by
    have := hY1.inv
    rw [hs] at this
    exact this
  obtain ⟨fn, tmps, assign, body, hy, hround⟩ := hG.hY k _ S w1 (args.map a1.eval) hx hJ hY1.nle hs1 fun i c hc => by
    have hidc : idsOf c = [] := by
      rw [List.eq_nil_iff_forall_not_mem]
      intro n hn
      have := idsL_get hc hn
      rw [hid] at this; cases this
    exact ((hr1 i c hc).ri hidc).plain (plainL_get hpl hc)
  refine ⟨fun _ _ => trivial, ?_⟩
  rw [show (FR none).round = none from rfl, Oper.semAt_none, yield_exec ho hfe hy]
  refine ⟨fun h => (by cases h), ?_⟩
  refine RoundIn.mono (F := FR none) (n := 0 - 1) (R := fun e W' => ∃ S2, (∀ b, S2 b → b < W'.heap.size ∧ (S b ∨ w1.heap.size ≤ b)) ∧ GrowS S w1 W' ∧ ((e = .returned (.bool true) ∧ Y.J (k + 1) S2 W') ∨ (e = .returned (.bool false) ∧ Y.Jx (k + 1) S2 W'))) hround ?_
  rintro e W2 ⟨S2, hS2, hgr, hj⟩
  -- the state behind the call
  have key : ∀ (bv : Bool) (g : Nat × Bool), Y.inv g S2 W2 → YS Y dd (fun b => A b ∧ ¬ S2 b) ρ1 (s1.put o.dst (.bool bv), g) S2 (a1.put o.dst (.bool bv)) W2 := fun bv g hinv => by
    have hRS : RS dd (fun b => A b ∧ ¬ S2 b) ρ1 s1 a1 W2 := hY1.rs.same (fun b hb => by
      have hnS : ¬ S2 b := fun h => by
        rcases (hS2 b h).2 with h1 | h1
        · exact hb.1.2 h1
        · have := hb.2.1; omega
      exact ⟨⟨⟨hb.1.1, hnS⟩, by have := hb.2.1; have := hgr.size; omega, hb.2.2⟩, hgr.same b hb.2.1 hb.1.2⟩) (fun id hid => hgr.same _ (hY1.rs.fits.lt hid) (hY1.own id hid).1)
    have hput := hRS.put o.dst (x := .bool bv) (v := .bool bv) (.base (.bool bv))
    have hmem : (s1.put o.dst (.bool bv)).mem = s1.mem := put_mem _ _ _
    refine ⟨hput, fun b hb => ⟨(hS2 b hb).1, fun h => h.2 hb⟩, fun id hid => ?_, by have := hY1.nle; have := hgr.size; omega, hinv⟩
    simp only [hmem] at hid
    refine ⟨fun h => ?_, (hY1.own id hid).2⟩
    rcases (hS2 _ h).2 with h1 | h1
    · exact (hY1.own id hid).1 h1
    · have := hY1.rs.fits.lt hid; omega
  have hX2 : ∀ bv, ExtY S (memL s.1.mem) ρ w (memL (s1.put o.dst (.bool bv)).mem) ρ1 W2 := fun bv => by
    rw [put_mem]
    exact ⟨hgr.os.trans hX1.os, hgr.tape.trans hX1.tape, hgr.output.trans hX1.output, Nat.le_trans hX1.size hgr.size, fun b hb hS hn => (hgr.same b (Nat.lt_of_lt_of_le hb hX1.size) hS).trans (hX1.frame b hb hS hn), hX1.ids⟩
  have hS3 : ∀ b, S2 b → S b ∨ w.heap.size ≤ b := fun b hb => by
    rcases (hS2 b hb).2 with h | h
    · exact .inl h
    · exact .inr (Nat.le_trans hX1.size h)
  have fin : ∀ (bv : Bool) (g : Nat × Bool) (sp : List Sup) (u : St) (obu : List Prop), YS Y dd (fun b => A b ∧ ¬ S2 b) ρ1 (s1.put o.dst (.bool bv), g) S2 (a1.put o.dst (.bool bv)) W2 → evSeq P ops.toList (ops.toList.drop (i + 1)) sp (s1.put o.dst (.bool bv)) = some (u, [], obu) → AllP obu → Q .normal (u, g) →
      wpOpsIn (FR none) 0 P ops (fun e a' w' => ∃ x s' ρ' S', e = EvX.to x ∧ Q x s' ∧ YS Y dd (fun b => A b ∧ ¬ S' b) ρ' s' S' a' w' ∧ ExtY S (memL s.1.mem) ρ w (memL s'.1.mem) ρ' w' ∧ ∀ b, S' b → S b ∨ w.heap.size ≤ b) (List.range' (i + 1) (ops.toList.drop (i + 1)).length) (a1.put o.dst (.bool bv)) W2 := fun bv g sp u obu hYS h4 hob4 hQ4 => by
    refine seq_ok (ro := none) _ (i + 1) sp _ u [] obu ρ1 _ W2 rfl h4 hob4 hYS.rs (hYS.up (Nat.le_trans hX1.size hgr.size) hup) fun a5 ρ5 w5 hR5 hE5 => ?_
    have hw5 := hE5.weak
    refine ⟨.normal, (u, g), ρ5, S2, rfl, hQ4, ⟨hR5, fun b hS => ⟨by have := (hYS.sl b hS).1; have := hE5.size; omega, fun h => h.2 hS⟩, fun id hid => ?_, by have := hYS.nle; have := hE5.size; omega, ?_⟩, ?_, hS3⟩
    · rcases hw5.ids id hid with ⟨q1, q2⟩ | q1
      · rw [q2]; exact hYS.own id q1
      · exact ⟨fun hS => by have := (hYS.sl _ hS).1; omega, by have := hYS.nle; omega⟩
    · refine hG.frm hYS.inv hE5.os hE5.tape hE5.output hE5.size fun b hb hS => hE5.frame b hb fun id hid he => ?_
      subst he
      rcases hS with hS | hS
      · have := (hYS.own id hid).2; omega
      · exact (hYS.own id hid).1 hS
    · exact (hX2 bv).trans hS3 ⟨hE5.os, hE5.tape, hE5.output, hE5.size, fun b hb _ hn => hE5.frame b hb hn, hE5.ids⟩
  rcases hj with ⟨rfl, hj⟩ | ⟨rfl, hj⟩
  · exact fin true (k + 1, false) st t2 obt (key true _ hj) h2 hobt hQt
  · exact fin false (k + 1, true) sf f2 obf (key false _ hj) h3 hobf hQf

/-! ### The whole iterator -/

theorem iter_of {gf : FuncId} {fn : Func} {args : List AV} {xs : List (List AV)} (hf : P.funcs[gf]? = some fn) (hb : fn.body.isSome = true) (hcal : callable P gf = true) (hres : fn.results = #[]) (hn : Nat.ble (args.length + 1) fn.ntmps = true)
    {st : Nat → St} (hst : (fun l => St.init fn (.func (.yield l) [] [] :: args) []) = st) (h : ∀ Y : YC, Y.Good P → Y.xs = xs → OkY Y P (cE (codeE fn) []) (st Y.l, 0, false) (fun e s => (e = .normal ∨ e = .ret) ∧ (s.2.2 = true ∨ s.2 = (xs.length, false)))) : Iter P gf args xs := by
  subst hst
  obtain ⟨c, hc⟩ := Option.isSome_iff_exists.1 hb
  refine ⟨hcal, fun B w vs hs hr l J Jx S fJ fJx hS hY h0 => fr_calls (callsIn_of_wp (F := FR none) (n := 0) hf hc trivial ?_)⟩
  have hn := Nat.le_of_ble_eq_true hn
  have nm : ∀ {i : Nat}, ¬ (memL [] i ≠ none) := fun h => h (by simp [memL])
  have hgo := h ⟨w.heap.size, l, xs, J, Jx⟩ ⟨fJ, fJx, hY⟩ rfl
  have hce : cE (codeE fn) [] = c := by
    have h1 : codeE fn = c := by unfold codeE; rw [hc]
    rw [h1]; cases c <;> rfl
  rw [hce] at hgo
  have hlen : (#[Value.func (.yield l) #[] #[]] ++ vs).size = args.length + 1 := by simp [hs]; omega
  refine Code.wpIn_mono ?_ (hgo [] (fun b => (B b ∧ b < w.heap.size) ∨ w.heap.size ≤ b) (fun _ => 0) { tmps := (#[Value.func (.yield l) #[] #[]] ++ vs) ++ Array.replicate (fn.ntmps - (#[Value.func (.yield l) #[] #[]] ++ vs).size) undef, defers := [] } w S ⟨⟨⟨fun i j hi => absurd hi nm, fun id b hb => by simp [St.init, memL] at hb⟩, ?_, rfl, fun t v hv => ?_⟩, fun b hb => ⟨(hS b hb).1, ?_⟩, fun id hid => absurd hid nm, Nat.le_refl _, h0⟩ fun b hb => .inr hb)
  · rintro e a' w' ⟨x, s', ρ', S', rfl, ⟨hx, hend⟩, hYS, hE, hS'⟩
    have hfin : ∃ v, (results fn a'.tmps).run P w' = .ok v w' ∧ ((∃ u, Ending.returned v = .returned u) ∧ ∃ S2, GrowS S w w' ∧ (J xs.length S2 w' ∨ ∃ k, Jx k S2 w')) := by
      refine ⟨.tuple #[], by simp [results, hres], ⟨_, rfl⟩, S', ⟨hE.os, hE.tape, hE.output, hE.size, fun b hb hn => hE.frame b hb hn fun id hid => absurd hid nm⟩, ?_⟩
      have hinv := hYS.inv
      obtain ⟨st', k, bs⟩ := s'
      rcases hend with hend | hend
      · simp only at hend
        subst hend
        exact .inr ⟨k, hinv⟩
      · simp only [Prod.mk.injEq] at hend
        obtain ⟨rfl, rfl⟩ := hend
        exact .inl hinv
    obtain ⟨v, h1, h2⟩ := hfin
    rcases hx with rfl | rfl
    · exact ⟨hYS.rs.df, v, h1, h2⟩
    · exact ⟨hYS.rs.df, v, h1, h2⟩
  · simp [St.init, hs]; omega
  · simp only [St.init] at hv
    rw [Array.getD_eq_getD_getElem?]
    by_cases h1 : t < args.length + 1
    · rw [List.getElem?_append_left (by simpa using h1)] at hv
      rw [Array.getElem?_append_left (by rw [hlen]; exact h1)]
      cases t with
      | zero =>
        simp at hv; subst hv
        rw [Array.getElem?_append_left (by simp)]
        exact .base (.func _ [] [] #[] #[] rfl rfl (fun i x h => by simp at h) (fun i x h => by simp at h))
      | succ t =>
        rw [Array.getElem?_append_right (by simp)]
        have := hr t v (by simpa using hv)
        rw [Array.getD_eq_getD_getElem?] at this
        refine .base ((by simpa using this : RI w (fun b => B b ∧ b < w.heap.size) v _).mono (fun b hb => ⟨.inl hb, hb.2, fun id hid => absurd hid nm⟩) (fun _ _ _ => rfl))
    · rw [List.getElem?_append_right (by simp; omega), List.getElem?_replicate] at hv
      split at hv
      · rename_i h2
        obtain rfl := Option.some.inj hv
        rw [Array.getElem?_append_right (by rw [hlen]; omega), Array.getElem?_replicate, if_pos (by rw [hlen]; simp at h2; omega)]
        exact .base (.tuple [] #[] rfl (fun i c hc => by simp at hc))
      · cases hv
  · rintro (h1 | h1)
    · exact (hS b hb).2 h1.1
    · have := (hS b hb).1; omega


/-! ### Steps at a place of the code -/

def seqQY (Y : YC) (P : Program) (y : Code) (Q : EvX → SG → Prop) : EvX → SG → Prop
  | .normal, s => OkY Y P y s Q
  | .exit j, s => Q (.exit j) s
  | .ret, s => Q .ret s
def blkQY (id : Nat) (Q : EvX → SG → Prop) : EvX → SG → Prop
  | .normal, s => Q .normal s
  | .exit j, s => if j = id then Q .normal s else Q (.exit j) s
  | .ret, s => Q .ret s
def loopQY (I : Nat → SG → Prop) (n : Nat) (Q : EvX → SG → Prop) : EvX → SG → Prop
  | .normal, s => ∃ k, k < n ∧ I k s
  | .exit j, s => Q (.exit j) s
  | .ret, s => Q .ret s
variable {Q : EvX → SG → Prop} {s : SG}
theorem blkQ_hereY {id : Nat} (h : Q .normal s) : blkQY id Q (.exit id) s := by simp [blkQY, h]
theorem blkQ_onY {id j : Nat} (hj : Nat.beq j id = false) (h : Q (.exit j) s) : blkQY id Q (.exit j) s := by
  have : j ≠ id := fun e => by subst e; simp at hj
  simp [blkQY, this, h]
theorem OkY.seqP {c : Code} (p : List Bool) (e : cE c p = .seq (cE c (p ++ [false])) (cE c (p ++ [true]))) (h : OkY Y P (cE c (p ++ [false])) s (seqQY Y P (cE c (p ++ [true])) Q)) : OkY Y P (cE c p) s Q := by
  rw [e]
  refine OkY.seq (h.mono fun x s hx => ?_)
  cases x with
  | normal => exact .inl ⟨rfl, hx⟩
  | exit j => exact .inr ⟨by simp, hx⟩
  | ret => exact .inr ⟨by simp, hx⟩
theorem OkY.blockP {c : Code} (p : List Bool) (id : Nat) (e : cE c p = .block id (cE c (p ++ [false]))) (h : OkY Y P (cE c (p ++ [false])) s (blkQY id Q)) : OkY Y P (cE c p) s Q := by
  rw [e]
  refine OkY.block (h.mono fun x s hx => ?_)
  cases x <;> exact hx
theorem OkY.condP {c : Code} (p : List Bool) (t : Nat) (b : Bool) (e : cE c p = .cond (.tmp t) (cE c (p ++ [false])) (cE c (p ++ [true]))) (hb : s.1.τ t = .bool b) (h : b = true → OkY Y P (cE c (p ++ [false])) s Q) (k : b = false → OkY Y P (cE c (p ++ [true])) s Q) : OkY Y P (cE c p) s Q := by
  rw [e]; exact OkY.cond hb h k
theorem OkY.condT {c : Code} (p : List Bool) (t : Nat) (b : Bool) (e : cE c p = .cond (.tmp t) (cE c (p ++ [false])) (cE c (p ++ [true]))) (hb : s.1.τ t = .bool b) (h : AV.bool b = AV.bool true) (k : OkY Y P (cE c (p ++ [false])) s Q) : OkY Y P (cE c p) s Q := by
  cases h; exact OkY.condP p t true e hb (fun _ => k) (fun h => by cases h)
theorem OkY.condF {c : Code} (p : List Bool) (t : Nat) (b : Bool) (e : cE c p = .cond (.tmp t) (cE c (p ++ [false])) (cE c (p ++ [true]))) (hb : s.1.τ t = .bool b) (h : AV.bool b = AV.bool false) (k : OkY Y P (cE c (p ++ [true])) s Q) : OkY Y P (cE c p) s Q := by
  cases h; exact OkY.condP p t false e hb (fun h => by cases h) (fun _ => k)
theorem seq_nY {y : Code} (h : OkY Y P y s Q) : seqQY Y P y Q .normal s := h
theorem seq_eY {y : Code} {j : Nat} (h : Q (.exit j) s) : seqQY Y P y Q (.exit j) s := h
theorem seq_rY {y : Code} (h : Q .ret s) : seqQY Y P y Q .ret s := h
theorem blk_nY {id : Nat} (h : Q .normal s) : blkQY id Q .normal s := h
theorem blk_rY {id : Nat} (h : Q .ret s) : blkQY id Q .ret s := h
def cutQY (s1 : SG) (Q : EvX → SG → Prop) : EvX → SG → Prop
  | .normal, s => s = s1
  | .exit j, s => Q (.exit j) s
  | .ret, s => Q .ret s
theorem cut_eY {s1 : SG} {j : Nat} (h : Q (.exit j) s) : cutQY s1 Q (.exit j) s := h
theorem cut_rY {s1 : SG} (h : Q .ret s) : cutQY s1 Q .ret s := h
theorem OkY.cutP {c : Code} {s1 : SG} (p : List Bool) (e : cE c p = .seq (cE c (p ++ [false])) (cE c (p ++ [true]))) (h : OkY Y P (cE c (p ++ [false])) s (cutQY s1 Q)) (k : OkY Y P (cE c (p ++ [true])) s1 Q) : OkY Y P (cE c p) s Q := by
  refine OkY.seqP p e (h.mono fun x s hx => ?_)
  cases x with
  | normal => cases hx; exact k
  | exit j => exact hx
  | ret => exact hx
theorem OkY.evf (hG : Y.Good P) (hm : P.follows .mixedOrders = true) (n : Nat) (ss : List Sup) (keep : List Nat) (j : Nat) {c : Code} {st' : St} {e : EvX} {ob : List Prop} (h : evf P n c ss s.1 keep j = some (e, st', ob)) (hob : AllP ob) (hQ : Q e (st', s.2)) : OkY Y P c s Q := by
  unfold Go.Proofs.Ytkijlggnnbdeiaa.evf at h
  split at h
  · rename_i e1 s2 ss' ob1 h1
    split at h
    · rename_i ob2 h2
      cases h
      obtain ⟨hob2, hob1⟩ := AllP.append hob
      refine OkY.reshape (Q' := fun e' s' => e' = e ∧ s' = (s2, s.2)) (OkY.ev hG hm n ss h1 hob1 ⟨rfl, rfl⟩) ?_
      rintro e' s' ⟨rfl, rfl⟩
      refine ⟨_, hQ, fun dd A ρ a w hR => forget_rs hR keep j (closed_of _ _ h2 hob2), fun id hid => take_none hid⟩
    · cases h
  · cases h
def loopGY (I : Nat → SG → Prop) (n M : Nat) (Q : EvX → SG → Prop) : EvX → SG → Prop
  | .normal, s => ∃ k st2, k < n ∧ I k (st2, s.2) ∧ (∀ dd A ρ a w, RS dd A ρ s.1 a w → RS dd A ρ st2 a w) ∧ ∀ id, memL st2.mem id ≠ none → memL s.1.mem id ≠ none
  | .exit j, s => Q (.exit j) s
  | .ret, s => Q .ret s
theorem OkY.loopB {c : Code} (p : List Bool) (e : cE c p = .loop (cE c (p ++ [false]))) (I : Nat → SG → Prop) (n : Nat) (h0 : I n s) (h : ∀ n s, I n s → OkY Y P (cE c (p ++ [false])) s (loopGY I n s.1.mem.length Q)) : OkY Y P (cE c p) s Q := by
  rw [e]
  refine OkY.loop I n h0 fun n s1 hI => ?_
  refine OkY.reshape (h n s1 hI) fun x s2 hx => ?_
  cases x with
  | normal =>
    obtain ⟨k, st2, h1, h2, h3, h4⟩ := hx
    exact ⟨st2, ⟨k, h1, h2⟩, h3, h4⟩
  | exit i => exact ⟨s2.1, hx, fun _ _ _ _ _ h => h, fun _ h => h⟩
  | ret => exact ⟨s2.1, hx, fun _ _ _ _ _ h => h, fun _ h => h⟩
theorem loop_gY {I : Nat → SG → Prop} {n M : Nat} {st2 : St} {ob : List Prop} (keep : List Nat) (j k : Nat) (hk : k < n) (hj : Nat.ble M j = true) (h : preG s.1 keep j = some (st2, ob)) (hob : AllP ob) (hI : I k (st2, s.2)) : loopGY I n M Q .normal s := by
  obtain ⟨o, h1, h2⟩ := Option.map_eq_some_iff.1 h
  cases h2
  obtain ⟨q1, q2⟩ := closedR_of _ _ h1 hob
  exact ⟨k, _, hk, hI, fun dd A ρ a w hR => (renew_rs (forget_rs hR keep j q1) (rows_take q2)).1, (name_ren (L := 0) (.inl (Nat.zero_le _))).sub⟩
theorem loopg_eY {I : Nat → SG → Prop} {n M j : Nat} (h : Q (.exit j) s) : loopGY I n M Q (.exit j) s := h
theorem loopg_rY {I : Nat → SG → Prop} {n M : Nat} (h : Q .ret s) : loopGY I n M Q .ret s := h
theorem OkY.preE {c : Code} {st2 : St} {ob : List Prop} (keep : List Nat) (h : preF s.1 keep = some (st2, ob)) (hob : AllP ob) (k : OkY Y P c (st2, s.2) Q) : OkY Y P c s Q := by
  obtain ⟨o, h1, h2⟩ := Option.map_eq_some_iff.1 h
  cases h2
  obtain ⟨q1, q2⟩ := closedR_of _ _ h1 hob
  exact k.pre (fun dd A ρ a w hR => (renew_rs (forget_rs hR keep s.1.mem.length (by unfold ClosedM; rw [List.take_length]; exact q1)) (rows_take (by rw [List.take_length]; exact q2))).1) (name_ren (L := 0) (.inl (Nat.zero_le _))).sub
theorem st_toY {e : EvX} {s s' : SG} (h : s = s') (k : Q e s') : Q e s := h ▸ k
/-- The region at a place of the code, and the call of yield in it. -/
def regOps : Code → Array Oper
  | .region _ ops _ => ops
  | _ => #[]
def isReg : Code → Bool
  | .region _ _ false => true
  | _ => false
def preS (P : Program) (c : Code) (i : Nat) (ss : List Sup) (st : St) : Option (St × List Prop) := match evSeq P (regOps c).toList ((regOps c).toList.take i) ss st with
  | some (s1, [], ob) => some (s1, ob)
  | _ => none
def postS (P : Program) (c : Code) (i : Nat) (ss : List Sup) (st : St) : Option (St × List Prop) := match evSeq P (regOps c).toList ((regOps c).toList.drop (i + 1)) ss st with
  | some (s1, [], ob) => some (s1, ob)
  | _ => none
def yView (c : Code) (i : Nat) (s1 : St) : Option (Option Nat × AV × List AV) := match (regOps c).toList[i]? with
  | some o => match o.op with
    | .call { callee := .value f, args, argTypes := _ } => match wantedAV (regOps c).toList s1.τ o with
      | some true => some (o.dst, opd s1.τ f, args.toList.map (opd s1.τ))
      | _ => none
    | _ => none
  | none => none
theorem OkY.yieldP (hG : Y.Good P) {c : Code} (p : List Bool) {k : Nat} (e : isReg (cE c p) = true) (hs : s.2 = (k, false)) (i : Nat) (ss : List Sup) {s1 : St} {ob1 : List Prop} (h1 : preS P (cE c p) i ss s.1 = some (s1, ob1)) (hob1 : AllP ob1)
    {dst : Option Nat} {x : List AV} (hv : yView (cE c p) i s1 = some (dst, .func (.yield Y.l) [] [], x)) (hx : Y.xs[k]? = some x) (hpl : plainL x = true) (hid : idsL x = [])
    (st : List Sup) {t2 : St} {obt : List Prop} (h2 : postS P (cE c p) i st (s1.put dst (.bool true)) = some (t2, obt)) (hobt : AllP obt) (sf : List Sup) {f2 : St} {obf : List Prop} (h3 : postS P (cE c p) i sf (s1.put dst (.bool false)) = some (f2, obf)) (hobf : AllP obf)
    (hQt : Q .normal (t2, k + 1, false)) (hQf : Q .normal (f2, k + 1, true)) : OkY Y P (cE c p) s Q := by
  generalize cE c p = c at *
  cases c with
  | region id ops b =>
    cases b with
    | true => cases e
    | false =>
      unfold yView at hv
      split at hv
      · rename_i o ho
        split at hv
        · rename_i f args ts hop
          split at hv
          · rename_i hw
            simp only [Option.some.injEq, Prod.mk.injEq] at hv
            obtain ⟨rfl, hf, rfl⟩ := hv
            have g : ∀ {l : List Oper} {ss : List Sup} {a s1 : St} {ob : List Prop}, (match evSeq P ops.toList l ss a with | some (s1, [], ob) => some (s1, ob) | _ => none) = some (s1, ob) → evSeq P ops.toList l ss a = some (s1, [], ob) := fun h => by
              split at h
              · rename_i h'; cases h; exact h'
              · cases h
            exact OkY.yield hG hs i (by simpa [regOps] using ho) ss (g h1) hob1 hw hop hf hx hpl hid st (g h2) hobt sf (g h3) hobf hQt hQf
          · cases hv
        · cases hv
      · cases hv
  | _ => cases e

/-! ### A loop over a function, at a place of the code -/
theorem st_is {L : Nat} {c : Code} {Q : EvX → St → Prop} {st st' : St} (h : st = st') (k : Ok L P c st' Q) : Ok L P c st Q := h ▸ k
theorem range_elem {α β : Type} {f : α → β} {L : List α} {k : Nat} {x : β} (h : (L.map f)[k]? = some x) : ∃ r, L[k]? = some r ∧ f r = x := by
  simpa [List.getElem?_map] using h
theorem len_all {α : Type} {f : α → List AV} {L : List α} {n : Nat} (h : ∀ x, (f x).length = n) : ∀ x ∈ L.map f, x.length = n := fun x hx => by
  obtain ⟨y, _, rfl⟩ := List.mem_map.1 hx
  exact h y
theorem Ok.rangeP {L j : Nat} {c : Code} {g : Operand} {ps : Array Tmp} {st : St} {Q : EvX → St → Prop} {gf : FuncId} {cap args : List AV} {ob ob2 : List Prop} {bl : Bool} {xs : List (List AV)} (p : List Bool) (e : cE c p = .rangeFunc g ps (cE c (p ++ [false])) (cE c (p ++ [true]))) (keep : List Nat)
    (hg : opd st.τ g = .func (.func gf) [] cap) (hin : inlArgs (memFrom j st.mem) cap = some (args, ob, bl)) (hob : AllP ob) (hit : Iter P gf args xs) (hps : ∀ x ∈ xs, x.length = ps.size) (hL : Nat.ble L j = true) (hcl : closedR j (st.mem.take j) = some ob2) (hob2 : AllP ob2)
    (hpo : ptrOnlyL j (st.forget keep j).tmps = true) (I : Nat → List Blk → Prop) (Ix : EvX → List Blk → Prop) (h0 : I 0 (st.mem.take j))
    (hround : ∀ k x M, xs[k]? = some x → I k M → Ok j P (cE c (p ++ [false])) (setPs ps.toList x ⟨(st.forget keep j).tmps, M⟩) (fun e s => e = .normal ∧ Ok j P (cE c (p ++ [true])) s (roundQ I Ix j k)))
    (hdone : ∀ M, I xs.length M → Q .normal ⟨(st.forget keep j).tmps, M⟩) (hstop : ∀ e M, e ≠ .normal → Ix e M → Q e ⟨(st.forget keep j).tmps, M⟩) : Ok L P (cE c p) st Q := by
  rw [e]
  exact Ok.range keep hg hin hob hit hps (Nat.le_of_ble_eq_true hL) (closedR_of _ _ hcl hob2).1 hpo I Ix h0 hround hdone hstop

end
end Go.Proofs.Ytkijlggnnbdeiaa
