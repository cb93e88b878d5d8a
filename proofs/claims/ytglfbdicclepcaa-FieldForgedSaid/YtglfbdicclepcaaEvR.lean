/- Regions that draw their order, from the text alone. For every program. Codes and functions. For every program. Triples over states; what a function gives. For every program. Whole functions by their text; small laws for what is owed. For every program. -/
import Derived.Test.YtglfbdicclepcaaEvN
set_option linter.unusedVariables false
set_option linter.unusedSimpArgs false
namespace Go.Proofs.Ytglfbdicclepcaa
set_option maxRecDepth 100000
section
open Go.RowKit

def tmpOf : Operand → Option Nat
  | .tmp t => some t
  | _ => none
def rdOf (ops : List Oper) (o : Oper) : List Nat := o.op.operands.toList.filterMap tmpOf ++ (match o.guard with
  | some (j, _) => ((ops[j]?).bind (·.dst)).toList
  | none => [])
def fpOf (τ : Nat → AV) (o : Oper) : List Nat := o.op.operands.toList.flatMap fun x => idsOf (opd τ x)
def ahOf (masks : List Nat) (o : Oper) : Nat := (wts o).foldl (fun s k => s ||| 2 ^ k ||| masks.getD k 0) 0
def restr (fp : List Nat) (m : Mem) : Mem := fun id => if fp.contains id then m id else none

def dOk (st : St) (o : Oper) : Bool := match o.dst with
  | some d => Nat.blt d st.tmps.length
  | none => true

def evDrawStep (P : Program) (ops : List Oper) (masks : List Nat) (o : Oper) (s : Sup) (st : St) : Option (St × List Prop × Rec) :=
  if dOk st o && (wts o).all (fun j => Nat.blt j masks.length) then
    match wantedAV ops st.τ o with
    | some true => match evAny P o.op o.type st.τ (restr (fpOf st.τ o) (memL st.mem)) st.mem.length s with
      | some r => match applyR st.mem r with
        | some M => some ((St.mk st.tmps M).put o.dst r.v, r.ob, ⟨o.dst, r.v, r.wr, st.mem.length, r.ns, fpOf st.τ o, rdOf ops o, ahOf masks o⟩)
        | none => none
      | none => none
    | some false => some (st.put o.dst (.tuple []), [], ⟨o.dst, .tuple [], none, st.mem.length, [], [], rdOf ops o, ahOf masks o⟩)
    | none => none
  else none

def evDrawL (P : Program) (ops : List Oper) : List Nat → List Oper → List Sup → St → Option (St × List Sup × List Prop × List Rec)
  | _, [], ss, st => some (st, ss, [], [])
  | masks, o :: l, s :: ss, st => match evDrawStep P ops masks o s st with
    | some (st1, o1, r) => match evDrawL P ops (masks ++ [r.ah]) l ss st1 with
      | some (st2, ss2, o2, rs) => some (st2, ss2, o1 ++ o2, r :: rs)
      | none => none
    | none => none
  | _, _ :: _, [], _ => none

def chkOne (rk : Rec) : Nat → List Rec → Bool
  | _, [] => true
  | i, r :: rs => (Nat.testBit rk.ah i || indepB r rk) && chkOne rk (i + 1) rs
def chkAll (done : List Rec) : List Rec → Bool
  | [] => true
  | r :: rs => chkOne r 0 done && chkAll (done ++ [r]) rs

def evDraw (P : Program) (ops : List Oper) (ss : List Sup) (st : St) : Option (St × List Sup × List Prop) :=
  match evDrawL P ops [] ops ss st with
  | some (st', ss', ob, rs) => if chkAll [] rs then some (st', ss', ob) else none
  | none => none

theorem chkOne_get {rk : Rec} : ∀ (l : List Rec) (i : Nat), chkOne rk i l = true → ∀ j r, l[j]? = some r → Nat.testBit rk.ah (i + j) = true ∨ Indep r rk
  | [], _, _, j, r, h => by simp at h
  | x :: l, i, h, j, r, hj => by
    simp only [chkOne, Bool.and_eq_true, Bool.or_eq_true] at h
    cases j with
    | zero =>
      simp at hj; subst hj
      exact h.1.imp id indep_of
    | succ j =>
      have := chkOne_get l (i + 1) h.2 j r (by simpa using hj)
      rwa [show i + 1 + j = i + (j + 1) by omega] at this

theorem chkAll_get : ∀ (l done : List Rec), chkAll done l = true → ∀ i k a b, i < k → done.length ≤ k → (done ++ l)[i]? = some a → (done ++ l)[k]? = some b → Nat.testBit b.ah i = true ∨ Indep a b
  | [], done, _, i, k, a, b, _, hk, _, hb => by
    rw [List.append_nil, List.getElem?_eq_none hk] at hb; cases hb
  | r :: l, done, h, i, k, a, b, hik, hk, ha, hb => by
    simp only [chkAll, Bool.and_eq_true] at h
    by_cases he : k = done.length
    · subst he
      rw [List.getElem?_append_right (Nat.le_refl _)] at hb
      simp at hb; subst hb
      rw [List.getElem?_append_left hik] at ha
      simpa using chkOne_get done 0 h.1 i a ha
    · have := chkAll_get l (done ++ [r]) h.2 i k a b hik (by simp; omega)
      simp only [List.append_assoc, List.singleton_append] at this
      exact this ha hb

theorem foldl_bit (masks : List Nat) (j : Nat) : ∀ (l : List Nat) (s : Nat), Nat.testBit (l.foldl (fun s k => s ||| 2 ^ k ||| masks.getD k 0) s) j = true → Nat.testBit s j = true ∨ j ∈ l ∨ ∃ k ∈ l, Nat.testBit (masks.getD k 0) j = true
  | [], s, h => .inl h
  | k :: l, s, h => by
    rw [List.foldl_cons] at h
    rcases foldl_bit masks j l _ h with h | h | ⟨k', h1, h2⟩
    · simp only [Nat.testBit_or, Bool.or_eq_true] at h
      rcases h with (h | h) | h
      · exact .inl h
      · rw [Nat.testBit_two_pow] at h
        have : k = j := by simpa using h
        subst this; exact .inr (.inl (by simp))
      · exact .inr (.inr ⟨k, by simp, h⟩)
    · exact .inr (.inl (by simp [h]))
    · exact .inr (.inr ⟨k', by simp [h1], h2⟩)

theorem part_all : ∀ (l : List Rec) (i j : Nat) (s : (Nat → AV) × Mem), part (fun _ => true) i l s = part (fun _ => true) j l s
  | [], _, _, _ => rfl
  | r :: l, i, j, s => by rw [part, part]; exact part_all l _ _ _
theorem part_none : ∀ (l : List Rec) (i : Nat) (s : (Nat → AV) × Mem) (D : Nat → Bool), (∀ j, i ≤ j → D j = false) → part D i l s = s
  | [], _, _, _, _ => rfl
  | r :: l, i, s, D, h => by
    rw [part, h i (Nat.le_refl _)]
    exact part_none l (i + 1) s D (fun j hj => h j (by omega))

theorem part_blt (l : List Rec) (i : Nat) (s : (Nat → AV) × Mem) (hi : i ≤ l.length) : part (fun j => Nat.blt j i) 0 l s = part (fun _ => true) 0 (l.take i) s := by
  have hl : (l.take i).length = i := by simp; omega
  conv => lhs; rw [← List.take_append_drop i l]
  rw [part_append, hl]
  rw [part_none (l.drop i) (0 + i) _ (fun j => Nat.blt j i) (fun j hj => by
    rw [← Bool.not_eq_true]; intro h; have : j < i := Eq.mp Nat.blt_eq h; omega)]
  exact part_congr _ 0 s fun j _ h2 => by
    rw [hl] at h2
    exact Eq.mpr Nat.blt_eq (by omega)

section
variable {P : Program} {dd : List Deferred} {ro : Option Nat} {A : Nat → Prop} {ρ : Nat → Nat} {w : World} {a : Act}

theorem put_tau (st : St) (M : List Blk) (d : Option Nat) (v : AV) (h : ∀ t, d = some t → t < st.tmps.length) : ((St.mk st.tmps M).put d v).τ = fun t => if d = some t then v else st.τ t := by
  funext t
  cases d with
  | none => simp [St.put, St.τ]
  | some d =>
    have := h d rfl
    simp only [St.put, St.τ, List.getD_eq_getElem?_getD, List.getElem?_set]
    by_cases hd : d = t
    · subst hd; simp [this]
    · simp [hd]
theorem put_mem (st : St) (d : Option Nat) (v : AV) : (st.put d v).mem = st.mem := by cases d <;> rfl
theorem put_len (st : St) (d : Option Nat) (v : AV) : (st.put d v).tmps.length = st.tmps.length := by cases d <;> simp [St.put]

theorem drawStep_app {ops : List Oper} {masks : List Nat} {o : Oper} {s : Sup} {st st1 : St} {ob : List Prop} {r : Rec} (h : evDrawStep P ops masks o s st = some (st1, ob, r)) :
    (st1.τ, memL st1.mem) = r.app (st.τ, memL st.mem) ∧ st1.tmps.length = st.tmps.length ∧ r.ah = ahOf masks o ∧ r.d = o.dst ∧ r.rd = rdOf ops o := by
  unfold evDrawStep at h
  split at h
  · rename_i hc
    simp only [Bool.and_eq_true] at hc
    have hd : ∀ t, o.dst = some t → t < st.tmps.length := fun t ht => by
      have := hc.1
      unfold dOk at this
      rw [ht] at this
      exact Eq.mp Nat.blt_eq this
    split at h
    · split at h
      · split at h
        · rename_i r' hr M hM
          cases h
          refine ⟨?_, put_len _ _ _, rfl, rfl, rfl⟩
          rw [put_tau _ _ _ _ hd, put_mem]
          simp only [Rec.app, applyR_ok hM]
        · cases h
      · cases h
    · cases h
      refine ⟨?_, put_len _ _ _, rfl, rfl, rfl⟩
      rw [show st = St.mk st.tmps st.mem from rfl, put_tau _ _ _ _ hd, put_mem]
      simp only [Rec.app, updM_none]
    · cases h
  · cases h

theorem drawL_get {ops : List Oper} : ∀ (l : List Oper) (masks : List Nat) (ss : List Sup) (st st' : St) (ss' : List Sup) (ob : List Prop) (rs : List Rec), evDrawL P ops masks l ss st = some (st', ss', ob, rs) → AllP ob →
    rs.length = l.length ∧ (st'.τ, memL st'.mem) = part (fun _ => true) 0 rs (st.τ, memL st.mem) ∧ st'.tmps.length = st.tmps.length ∧
    ∀ i o, l[i]? = some o → ∃ sti s st1 ob1 r, rs[i]? = some r ∧ (sti.τ, memL sti.mem) = part (fun _ => true) 0 (rs.take i) (st.τ, memL st.mem) ∧ sti.tmps.length = st.tmps.length ∧
      evDrawStep P ops (masks ++ (rs.take i).map Rec.ah) o s sti = some (st1, ob1, r) ∧ AllP ob1 := by
  intro l
  induction l with
  | nil =>
    intro masks ss st st' ss' ob rs h _
    simp only [evDrawL] at h
    cases h
    exact ⟨rfl, rfl, rfl, fun i o hi => by simp at hi⟩
  | cons o l ih =>
    intro masks ss st st' ss' ob rs h hob
    cases ss with
    | nil => simp [evDrawL] at h
    | cons s ss =>
      simp only [evDrawL] at h
      split at h
      · rename_i st1 o1 r h1
        split at h
        · rename_i st2 ss2 o2 rs2 h2
          cases h
          obtain ⟨hob1, hob2⟩ := AllP.append hob
          obtain ⟨e1, e2, e3, e4⟩ := ih _ _ _ _ _ _ _ h2 hob2
          obtain ⟨a1, a2, _, _, _⟩ := drawStep_app h1
          refine ⟨by simp [e1], ?_, by omega, fun i o' hi => ?_⟩
          · rw [part]
            simp only [if_true]
            rw [← a1, part_all rs2 (0 + 1) 0]
            exact e2
          · cases i with
            | zero =>
              simp at hi; subst hi
              exact ⟨st, s, st1, o1, r, rfl, rfl, rfl, by simpa using h1, hob1⟩
            | succ i =>
              obtain ⟨sti, s', st1', ob1, r', b1, b2, b3, b4, b5⟩ := e4 i o' (by simpa using hi)
              refine ⟨sti, s', st1', ob1, r', by simpa using b1, ?_, by omega, ?_, b5⟩
              · rw [List.take_succ_cons, part]
                simp only [if_true]
                rw [← a1, part_all (rs2.take i) (0 + 1) 0]
                exact b2
              · simpa [List.append_assoc] using b4
        · cases h
      · cases h

structure DInv (dd : List Deferred) (A : Nat → Prop) (ops : Array Oper) (st : St) (rs : List Rec) (ρ0 : Nat → Nat) (w0 : World) (D : Nat → Bool) (a : Act) (w : World) : Prop where
  closed : ∀ i o, ops[i]? = some o → D i = true → ∀ j ∈ wts o, D j = true
  size : a.tmps.size = st.tmps.length
  df : a.defers = dd
  ex : ∃ ρ, Fits A (part D 0 rs (st.τ, memL st.mem)).2 ρ w ∧ Ext (memL st.mem) ρ0 w0 (part D 0 rs (st.τ, memL st.mem)).2 ρ w ∧ ∀ t, Rep A (part D 0 rs (st.τ, memL st.mem)).2 ρ w ((part D 0 rs (st.τ, memL st.mem)).1 t) (a.eval (.tmp t))

theorem put_eval (a : Act) (d : Option Nat) (v : Value) (t : Nat) (h : ∀ t, d = some t → t < a.tmps.size) : (a.put d v).eval (.tmp t) = if d = some t then v else a.eval (.tmp t) := by
  cases d with
  | none => simp [Act.put]
  | some d =>
    have := h d rfl
    simp only [Act.put, Act.eval, Array.getD_eq_getD_getElem?, Array.getElem?_setIfInBounds]
    by_cases hd : d = t
    · subst hd; simp [this]
    · simp [hd]

theorem draw_core (ro : Option Nat) {ops : Array Oper} {ss ss' : List Sup} {st st' : St} {ob : List Prop} (he : evDraw P ops.toList ss st = some (st', ss', ob)) (hob : AllP ob) (hR : RS dd A ρ st a w) (hup : ∀ b, w.heap.size ≤ b → A b) :
    ∃ Inv : (Nat → Bool) → Act → World → Prop, (∀ i o, ops[i]? = some o → ∀ j ∈ wts o, j < i) ∧ (∀ D a w, Inv D a w → ∀ i o, ops[i]? = some o → D i = true → ∀ j ∈ wts o, D j = true) ∧ Inv (fun _ => false) a w.drew ∧
      (∀ (Q : Exit → Act → World → Prop) i o, ops[i]? = some o → ∀ D a w, Inv D a w → D i = false → (∀ j ∈ wts o, D j = true) → wpOpIn (FR ro) 0 P ops Q i (Inv (updE D i)) a w) ∧
      (∀ D a' w', (∀ i, i < ops.size → D i = true) → Inv D a' w' → ∃ ρ', RS dd A ρ' st' a' w' ∧ Ext (memL st.mem) ρ w (memL st'.mem) ρ' w') := by
  unfold evDraw at he
  split at he
  · rename_i st2 ss2 ob2 rs hL
    split at he
    · rename_i hchk
      cases he
      obtain ⟨hlen, hfin, htl, hget⟩ := drawL_get _ _ _ _ _ _ _ _ hL hob
      have hget' := fun (i : Nat) (o : Oper) (hi : ops[i]? = some o) => hget i o (by simpa using hi)
      have hpair : ∀ (i k : Nat) (a b : Rec), i < k → rs[i]? = some a → rs[k]? = some b → Nat.testBit b.ah i = true ∨ Indep a b := fun i k a b hik ha hb => chkAll_get rs [] hchk i k a b hik (Nat.zero_le _) ha hb
      have hwf : ∀ i o, ops[i]? = some o → ∀ j ∈ wts o, j < i := fun i o hi j hj => by
        obtain ⟨sti, s, st1, ob1, r, b1, b2, b3, b4, b5⟩ := hget' i o hi
        unfold evDrawStep at b4
        split at b4
        · rename_i hc
          simp only [Bool.and_eq_true] at hc
          have := List.all_eq_true.1 hc.2 j hj
          have h3 : j < ([] ++ (rs.take i).map Rec.ah).length := Eq.mp Nat.blt_eq this
          simp at h3; omega
        · cases b4
      have hmask : ∀ D : Nat → Bool, (∀ i o, ops[i]? = some o → D i = true → ∀ j ∈ wts o, D j = true) → ∀ (i : Nat) (o : Oper) (r : Rec), ops[i]? = some o → rs[i]? = some r → (∀ j ∈ wts o, D j = true) → ∀ j, Nat.testBit r.ah j = true → D j = true := by
        intro D hcl i
        induction i using Nat.strongRecOn with
        | ind i ih =>
          intro o r hi hr hw j hj
          obtain ⟨sti, s, st1, ob1, r', b1, b2, b3, b4, b5⟩ := hget' i o hi
          rw [hr] at b1; cases b1
          rw [(drawStep_app b4).2.2.1] at hj
          rcases foldl_bit _ j _ _ hj with h | h | ⟨k, h1, h2⟩
          · simp at h
          · exact hw j h
          · have hki := hwf i o hi k h1
            have hio : i < ops.size := (Array.getElem?_eq_some_iff.1 hi).1
            have hko : ops[k]? = some ops[k] := by simp [show k < ops.size by omega]
            have hkl : k < rs.length := by simp at hlen; omega
            obtain ⟨rk, hrk⟩ : ∃ rk, rs[k]? = some rk := ⟨rs[k], List.getElem?_eq_getElem hkl⟩
            have h3 : ([] ++ (rs.take i).map Rec.ah).getD k 0 = rk.ah := by
              rw [List.nil_append, List.getD_eq_getElem?_getD, List.getElem?_map, List.getElem?_take, if_pos hki, hrk]; rfl
            rw [h3] at h2
            exact ih k hki ops[k] _ hko hrk (hcl k _ hko (hw k h1)) j h2
      refine ⟨DInv dd A ops st rs ρ w, hwf, fun D a w h => h.closed, ?_, ?_, ?_⟩
      · refine ⟨fun i o _ h => (by cases h), hR.size, hR.df, ρ, ?_⟩
        rw [part_none rs 0 _ (fun _ => false) (fun _ _ => rfl)]
        exact ⟨drew_fits hR.fits, drew_ext _ _ _, fun t => (hR.eval t).mono (drew_ext _ _ _)⟩
      · intro Q i o hi D a1 w1 hI hDi hw
        obtain ⟨sti, s, st1, ob1, r, b1, b2, b3, b4, b5⟩ := hget' i o hi
        obtain ⟨a1', a2', a3', a4', a5'⟩ := drawStep_app b4
        obtain ⟨ρ1, hF1, hE1, hr1⟩ := hI.ex
        have hil : i < rs.length := (List.getElem?_eq_some_iff.1 b1).1
        have hto : part (fun j => Nat.blt j i) 0 rs (st.τ, memL st.mem) = (sti.τ, memL sti.mem) := by rw [part_blt _ _ _ (by omega), b2]
        have hlow : ∀ (k : Nat) (rk : Rec), rs[k]? = some rk → k < i → D k = false → Indep rk r := fun k rk hk hki hDk => by
          rcases hpair k i rk r hki hk b1 with h | h
          · have := hmask D hI.closed i o r hi b1 hw k h
            rw [hDk] at this; cases this
          · exact h
        have hhigh : ∀ (k : Nat) (rk : Rec), rs[k]? = some rk → i < k → D k = true → Indep r rk := fun k rk hk hki hDk => by
          rcases hpair i k r rk hki b1 hk with h | h
          · have hko : k < ops.size := by have := (List.getElem?_eq_some_iff.1 hk).1; simp at hlen; omega
            have hk' : ops[k]? = some ops[k] := by simp [hko]
            have := hmask D hI.closed k ops[k] rk hk' hk (hI.closed k _ hk' hDk) i h
            rw [hDi] at this; cases this
          · exact h
        have blt_lt : ∀ {j}, j < i → Nat.blt j i = true := fun h => Eq.mpr Nat.blt_eq h
        have blt_ge : ∀ {j}, i ≤ j → Nat.blt j i = false := fun h => by rw [← Bool.not_eq_true]; intro h2; have : _ < i := Eq.mp Nat.blt_eq h2; omega
        have agreeM : ∀ q, (q ∈ r.fp ∨ r.hits q) → (part D 0 rs (st.τ, memL st.mem)).2 q = memL sti.mem q := fun q hq => by
          have := part_mem2 (D := D) (D' := fun j => Nat.blt j i) (id := q) rs 0 (st.τ, memL st.mem) (st.τ, memL st.mem) rfl (fun k rk hk => by
            rw [Nat.zero_add]
            rcases Nat.lt_trichotomy k i with h | h | h
            · cases hd : D k with
              | true => exact .inl (blt_lt h).symm
              | false =>
                refine .inr fun hh => ?_
                have := (hlow k rk hk h hd).m1 q hh
                rcases hq with hq | hq
                · exact this.1 hq
                · exact this.2 hq
            · subst h; exact .inl (by rw [hDi, blt_ge (Nat.le_refl _)])
            · cases hd : D k with
              | false => exact .inl (blt_ge (by omega)).symm
              | true =>
                refine .inr fun hh => ?_
                have hin := hhigh k rk hk h hd
                rcases hq with hq | hq
                · exact hin.m2 q hh hq
                · exact (hin.m1 q hq).2 hh)
          rw [this, hto]
        have agreeT : ∀ t, t ∈ r.rd → (part D 0 rs (st.τ, memL st.mem)).1 t = sti.τ t := fun t ht => by
          have := part_tmp2 (D := D) (D' := fun j => Nat.blt j i) (t := t) rs 0 (st.τ, memL st.mem) (st.τ, memL st.mem) rfl (fun k rk hk => by
            rw [Nat.zero_add]
            rcases Nat.lt_trichotomy k i with h | h | h
            · cases hd : D k with
              | true => exact .inl (blt_lt h).symm
              | false => exact .inr fun hh => ((hlow k rk hk h hd).d1 t hh).1 ht
            · subst h; exact .inl (by rw [hDi, blt_ge (Nat.le_refl _)])
            · cases hd : D k with
              | false => exact .inl (blt_ge (by omega)).symm
              | true => exact .inr fun hh => (hhigh k rk hk h hd).d2 t hh ht)
          rw [this, hto]
        have hnext : part (updE D i) 0 rs (st.τ, memL st.mem) = r.app (part D 0 rs (st.τ, memL st.mem)) := by
          have hsplit : rs = rs.take i ++ r :: rs.drop (i + 1) := by
            have h1 : rs[i] = r := (List.getElem?_eq_some_iff.1 b1).2
            rw [← h1, List.getElem_cons_drop, List.take_append_drop]
          have htl2 : (rs.take i).length = i := by simp; omega
          have hk2 : ∀ j (x : Rec), (rs.drop (i + 1))[j]? = some x → rs[i + 1 + j]? = some x := fun j x hx => by rwa [List.getElem?_drop] at hx
          have e1 : part (updE D i) 0 (rs.take i) (st.τ, memL st.mem) = part D 0 (rs.take i) (st.τ, memL st.mem) := part_congr _ 0 _ fun j _ h2 => updE_ne D (by omega)
          have e2 : ∀ q, part (updE D i) (i + 1) (rs.drop (i + 1)) q = part D (i + 1) (rs.drop (i + 1)) q := fun q => part_congr _ _ _ fun j h1 _ => updE_ne D (by omega)
          conv => lhs; rw [hsplit]
          conv => rhs; rw [hsplit]
          rw [part_append, part_append, htl2, Nat.zero_add, part, part, updE_same, hDi, e1]
          simp only [if_true, Bool.false_eq_true, if_false]
          rw [e2]
          exact part_ahead _ _ _ fun j x hx hd => hhigh _ x (hk2 j x hx) (by omega) hd
        have hcl : ∀ k o', ops[k]? = some o' → updE D i k = true → ∀ j ∈ wts o', updE D i j = true := fun k o' hk hd j hj => by
          by_cases hki : k = i
          · subst hki
            rw [hi] at hk; cases hk
            exact updE_le D (hw j hj)
          · rw [updE_ne D hki] at hd
            exact updE_le D (hI.closed k o' hk hd j hj)
        have hdlt : ∀ t, o.dst = some t → t < a1.tmps.size := fun t ht => by
          unfold evDrawStep at b4
          split at b4
          · rename_i hc
            simp only [Bool.and_eq_true] at hc
            have := hc.1
            unfold dOk at this
            rw [ht] at this
            have q1 : t < sti.tmps.length := Eq.mp Nat.blt_eq this
            have q2 := hI.size
            rw [q2, ← b3]; exact q1
          · cases b4
        have hgd : ∀ j c t, o.guard = some (j, c) → (ops[j]?).bind (·.dst) = some t → Rep A (part D 0 rs (st.τ, memL st.mem)).2 ρ1 w1 (sti.τ t) (a1.eval (.tmp t)) := fun j c t hg ht => by
          rw [← agreeT t (by rw [a5']; simp only [rdOf, hg]; simp [ht])]
          exact hr1 t
        have hfinish : ∀ (v : Value) (ρ2 : Nat → Nat) (w2 : World), Ext (part D 0 rs (st.τ, memL st.mem)).2 ρ1 w1 (r.app (part D 0 rs (st.τ, memL st.mem))).2 ρ2 w2 → Fits A (r.app (part D 0 rs (st.τ, memL st.mem))).2 ρ2 w2 → Rep A (r.app (part D 0 rs (st.τ, memL st.mem))).2 ρ2 w2 r.v v →
            DInv dd A ops st rs ρ w (updE D i) (a1.put o.dst v) w2 := fun v ρ2 w2 h1 h2 h3 => by
          refine ⟨hcl, by cases o.dst <;> simp [Act.put, hI.size], by cases o.dst <;> exact hI.df, ρ2, ?_⟩
          rw [hnext]
          refine ⟨h2, hE1.trans h1, fun t => ?_⟩
          rw [put_eval _ _ _ _ hdlt]
          simp only [Rec.app]
          rw [a4']
          split
          · exact h3
          · exact (hr1 t).mono h1
        unfold wpOpIn
        rw [hi]
        have b4' := b4
        unfold evDrawStep at b4
        split at b4
        · split at b4
          · rename_i hwn
            have hwn' := wanted_ok (ops := ops) hgd hwn
            split at b4
            · rename_i rr hrr
              split at b4
              · rename_i M hM
                cases b4
                simp only [hwn', if_true]
                have hlook : ∀ q b, restr (fpOf sti.τ o) (memL sti.mem) q = some b → (part D 0 rs (st.τ, memL st.mem)).2 q = some b := fun q b hq => by
                  unfold restr at hq
                  split at hq
                  · rename_i hc
                    rw [agreeM q (.inl (by simpa using hc))]; exact hq
                  · cases hq
                have hup1 : ∀ b, w1.heap.size ≤ b → A b := up_ext hE1 hup
                refine any_ok hF1 hup1 hlook (fun j hj => ?_) hrr b5 (fun x hx => ?_) _ _ _ fun v ρ2 w2 h1 h2 h3 => hfinish v ρ2 w2 h1 h2 h3
                · rw [agreeM _ (.inr (.inr ⟨Nat.le_add_right _ _, Nat.add_lt_add_left hj _⟩))]
                  exact memL_out _ _
                · refine rep_opd fun t ht => ?_
                  subst ht
                  rw [← agreeT t (by rw [a5']; simp only [rdOf]; exact List.mem_append_left _ (List.mem_filterMap.2 ⟨.tmp t, by simpa using hx, rfl⟩))]
                  exact hr1 t
              · cases b4
            · cases b4
          · rename_i hwn
            have hwn' := wanted_ok (ops := ops) hgd hwn
            cases b4
            simp only [hwn', Bool.false_eq_true, if_false]
            refine ⟨fun _ _ => trivial, hfinish undef ρ1 w1 ?_ ?_ (.base (.tuple [] #[] rfl (fun i c hc => by simp at hc)))⟩
            · simp only [Rec.app, updM_none]; exact .refl _ _ _
            · simp only [Rec.app, updM_none]; exact hF1
          · cases b4
        · cases b4
      · intro D a1 w1 hD hI
        obtain ⟨ρ1, hF1, hE1, hr1⟩ := hI.ex
        have hall : part D 0 rs (st.τ, memL st.mem) = (st'.τ, memL st'.mem) := by
          rw [hfin]
          exact part_congr _ 0 _ fun j _ h2 => hD j (by simp at hlen; omega)
        rw [hall] at hF1 hE1 hr1
        refine ⟨ρ1, ⟨hF1, by rw [hI.size]; exact htl.symm, hI.df, fun t v hv => ?_⟩, hE1⟩
        have := hr1 t
        simp only [St.τ, List.getD_eq_getElem?_getD, hv, Option.getD_some] at this
        exact this
    · cases he
  · cases he

theorem draw_ok {id : Nat} {ops : Array Oper} {ss ss' : List Sup} {st st' : St} {ob : List Prop} {Q : Exit → Act → World → Prop} (hm : P.follows .mixedOrders = true) (he : evDraw P ops.toList ss st = some (st', ss', ob)) (hob : AllP ob) (hR : RS dd A ρ st a w) (hup : ∀ b, w.heap.size ≤ b → A b)
    (hQ : ∀ a' ρ' w', RS dd A ρ' st' a' w' → Ext (memL st.mem) ρ w (memL st'.mem) ρ' w' → Q .normal a' w') : (Code.region id ops true).wpIn (FR ro) 0 P Q a w := by
  obtain ⟨Inv, h1, _, h3, h4, h5⟩ := draw_core ro he hob hR hup
  exact region_any Inv hm h1 h3 (h4 Q) fun D a' w' hD hI => let ⟨ρ', hR', hE⟩ := h5 D a' w' hD hI; hQ a' ρ' w' hR' hE

/-- A region that draws, whose last operation waits for all others. -/
def evLast (P : Program) (l : List Oper) (ss : List Sup) (st : St) : Option (St × List Sup × List Prop) :=
  match l.getLast? with
  | some o => if l.dropLast.all (fun o => o.guard.isNone) && o.guard.isNone && (wts o).all (fun j => Nat.blt j l.dropLast.length) && (List.range l.dropLast.length).all (fun i => (List.range (l.dropLast.length + 1)).any fun k => Nat.blt i k && (match l[k]? with | some o => (wts o).contains i | none => false)) then match evDraw P l.dropLast ss st with
      | some (st1, s :: ss1, o1) => match evStep P l o s st1 with
        | some (st2, o2) => some (st2, ss1, o1 ++ o2)
        | none => none
      | _ => none
    else none
  | none => none
theorem last_ok {id : Nat} {ops : Array Oper} {ss ss' : List Sup} {st st' : St} {ob : List Prop} {Q : Exit → Act → World → Prop} (hm : P.follows .mixedOrders = true) (he : evLast P ops.toList ss st = some (st', ss', ob)) (hob : AllP ob) (hR : RS dd A ρ st a w) (hup : ∀ b, w.heap.size ≤ b → A b)
    (hQ : ∀ a' ρ' w', RS dd A ρ' st' a' w' → Ext (memL st.mem) ρ w (memL st'.mem) ρ' w' → Q .normal a' w') : (Code.region id ops true).wpIn (FR ro) 0 P Q a w := by
  unfold evLast at he
  split at he
  · rename_i o hlast
    split at he
    · rename_i hc
      simp only [Bool.and_eq_true] at hc
      obtain ⟨⟨⟨hg0, hg1⟩, hw0⟩, hanc⟩ := hc
      split at he
      · rename_i st1 s ss1 o1 hd
        split at he
        · rename_i st2 o2 hstep
          cases he
          obtain ⟨hob1, hob2⟩ := AllP.append hob
          obtain ⟨l, hl⟩ : ∃ l, l = ops.toList := ⟨_, rfl⟩
          rw [← hl] at hlast hg0 hw0 hanc hd hstep
          have hne : l ≠ [] := fun e => by rw [e] at hlast; cases hlast
          have hcat : l = l.dropLast ++ [o] := by
            obtain ⟨ys, hys⟩ := List.getLast?_eq_some_iff.1 hlast
            rw [hys]; simp
          obtain ⟨n, hn⟩ : ∃ n, n = l.dropLast.length := ⟨_, rfl⟩
          have hsz : ops.size = n + 1 := by
            have : ops.toList.length = n + 1 := by rw [← hl, hcat]; simp [hn]
            simpa using this
          have hold : ∀ i, i < n → l.dropLast[i]? = ops[i]? := fun i hi => by
            have : ops[i]? = l[i]? := by rw [hl]; simp
            rw [this]
            conv => rhs; rw [hcat]
            rw [List.getElem?_append_left (by omega)]
          have hlst : ops[n]? = some o := by
            have : ops[n]? = l[n]? := by rw [hl]; simp
            rw [this, hcat, hn]; simp
          obtain ⟨Inv, h1, h2, h3, h4, h5⟩ := draw_core (ops := l.dropLast.toArray) ro (by simpa using hd) hob1 hR hup
          have hops0 : ∀ i (x : Oper), l.dropLast.toArray[i]? = some x ↔ (i < n ∧ ops[i]? = some x) := fun i x => by
            constructor
            · intro h
              have hi : i < n := by
                have h8 := (Array.getElem?_eq_some_iff.1 h).1
                have h9 : l.dropLast.toArray.size = n := by rw [hn]; rfl
                omega
              refine ⟨hi, ?_⟩
              rw [← hold i hi]; simpa using h
            · intro ⟨hi, h⟩
              rw [← hold i hi] at h; simpa using h
          have hgn : ∀ i x, i < n → ops[i]? = some x → x.guard = none := fun i x hi h => by
            rw [← hold i hi] at h
            have := List.all_eq_true.1 hg0 x (List.mem_of_getElem? h)
            simpa using this
          have hall : ∀ D : Nat → Bool, (∀ i x, l.dropLast.toArray[i]? = some x → D i = true → ∀ j ∈ wts x, D j = true) → (∀ j ∈ wts o, D j = true) → ∀ i, i < n → D i = true := by
            intro D hcl hwo
            have key : ∀ k i, n - i ≤ k → i < n → D i = true := by
              intro k
              induction k with
              | zero => intro i h hi; omega
              | succ k ih =>
                intro i h hi
                have := List.all_eq_true.1 hanc i (by rw [← hn]; simpa using hi)
                obtain ⟨q, hq, hq2⟩ := List.any_eq_true.1 this
                simp only [Bool.and_eq_true] at hq2
                have hlt : i < q := Nat.le_of_ble_eq_true hq2.1
                have hqn : q < n + 1 := by rw [← hn] at hq; simpa using hq
                have hq3 := hq2.2
                split at hq3
                · rename_i x hx
                  have hmem : i ∈ wts x := by simpa using hq3
                  have hx' : ops[q]? = some x := by rw [hl] at hx; simpa using hx
                  by_cases e : q = n
                  · subst e
                    rw [hlst] at hx'
                    cases hx'
                    exact hwo i hmem
                  · have hqn' : q < n := by omega
                    exact hcl q x ((hops0 q x).2 ⟨hqn', hx'⟩) (ih q (by omega) hqn') i hmem
                · cases hq3
            exact fun i hi => key (n - i) i (Nat.le_refl _) hi
          refine region_any (fun D a1 w1 => (D n = true → (∀ i, i < n → D i = true) ∧ Q .normal a1 w1) ∧ (D n = false → Inv D a1 w1)) hm ?_ ⟨fun h => (by cases h), fun _ => h3⟩ ?_ ?_
          · intro i x hi j hj
            by_cases e : i = n
            · subst e
              rw [hlst] at hi; cases hi
              have := List.all_eq_true.1 hw0 j hj
              rw [← hn] at this
              exact Nat.le_of_ble_eq_true this
            · have : i < n := by have := (Array.getElem?_eq_some_iff.1 hi).1; omega
              exact h1 i x ((hops0 i x).2 ⟨this, hi⟩) j hj
          · intro i x hi D a1 w1 hI hDi hw
            by_cases e : i = n
            · subst e
              rw [hlst] at hi; cases hi
              have hInv := hI.2 hDi
              have hD := hall D (h2 D a1 w1 hInv) hw
              obtain ⟨ρ1, hR1, hE1⟩ := h5 D a1 w1 (fun i hi => hD i (by have h9 : l.dropLast.toArray.size = l.dropLast.length := rfl; omega)) hInv
              refine step_ok hR1 (up_ext hE1 hup) hlst (by rw [← hl]; exact hstep) hob2 fun a2 ρ2 w2 hR2 hE2 => ⟨fun _ => ⟨fun j hj => ?_, hQ a2 ρ2 w2 hR2 (hE1.trans hE2)⟩, fun h => ?_⟩
              · exact updE_le D (hD j hj)
              · rw [updE_same] at h; cases h
            · have hin : i < n := by have := (Array.getElem?_eq_some_iff.1 hi).1; omega
              have hDn : D n = false := by
                cases hh : D n with
                | false => rfl
                | true => have := (hI.1 hh).1 i hin; rw [hDi] at this; cases this
              have hst := h4 Q i x ((hops0 i x).2 ⟨hin, hi⟩) D a1 w1 (hI.2 hDn) hDi hw
              have hg := hgn i x hin hi
              have hwant : ∀ y, Region.wanted x y = true := fun y => by unfold Region.wanted; rw [hg]
              unfold wpOpIn at hst ⊢
              rw [(hops0 i x).2 ⟨hin, hi⟩] at hst
              rw [hi]
              simp only [hwant, if_true] at hst ⊢
              refine Oper.wpIn_mono (fun a2 w2 h => ⟨fun hh => ?_, fun _ => h⟩) hst
              rw [updE_ne D (fun e' => e e'.symm), hDn] at hh; cases hh
          · intro D a1 w1 hD hI
            exact (hI.1 (hD n (by omega))).2
        · cases he
      · cases he
    · cases he
  · cases he

end
end
section
open Go.RowKit

inductive EvX where
  | normal
  | exit (id : Nat)
  | ret

def EvX.to : EvX → Exit
  | .normal => .normal
  | .exit id => .exit id
  | .ret => .ret

def evC (P : Program) : Nat → Code → List Sup → St → Option (EvX × St × List Sup × List Prop)
  | 0, _, _, _ => none
  | n + 1, c, ss, st =>
    match c with
    | .skip => some (.normal, st, ss, [])
    | .label _ => some (.normal, st, ss, [])
    | .scope x => evC P n x ss st
    | .region _ ops false => match evSeq P ops.toList ops.toList ss st with
      | some (st', ss', ob) => some (.normal, st', ss', ob)
      | none => none
    | .region _ ops true => match evDraw P ops.toList ss st with
      | some (st', ss', ob) => some (.normal, st', ss', ob)
      | none => match evLast P ops.toList ss st with
        | some (st', ss', ob) => some (.normal, st', ss', ob)
        | none => none
    | .seq x y => match evC P n x ss st with
      | some (.normal, st1, ss1, o1) => match evC P n y ss1 st1 with
        | some (e, st2, ss2, o2) => some (e, st2, ss2, o1 ++ o2)
        | none => none
      | r => r
    | .cond (.tmp t) x y => match ss with
      | .v (.bool true) :: ss1 => match st.τ t with
        | .bool b => match evC P n x ss1 st with
          | some (e, st2, ss2, o2) => some (e, st2, ss2, (b = true) :: o2)
          | none => none
        | _ => none
      | .v (.bool false) :: ss1 => match st.τ t with
        | .bool b => match evC P n y ss1 st with
          | some (e, st2, ss2, o2) => some (e, st2, ss2, (b = false) :: o2)
          | none => none
        | _ => none
      | .d :: ss1 => match st.τ t with
        | .bool true => evC P n x ss1 st
        | .bool false => evC P n y ss1 st
        | _ => none
      | _ => none
    | .block id x => match evC P n x ss st with
      | some (.exit j, st1, ss1, o1) => if Nat.beq j id then some (.normal, st1, ss1, o1) else some (.exit j, st1, ss1, o1)
      | r => r
    | .exit id => some (.exit id, st, ss, [])
    | .ret => some (.ret, st, ss, [])
    | .loop x => match evC P n x ss st with
      | some (.normal, st1, ss1, o1) => match evC P n (.loop x) ss1 st1 with
        | some (e, st2, ss2, o2) => some (e, st2, ss2, o1 ++ o2)
        | none => none
      | r => r
    | _ => none

theorem least_ofE {p : Nat → Prop} : ∀ n, p n → ∃ n, p n ∧ ∀ m, p m → n ≤ m := by
  intro n
  induction n using Nat.strongRecOn with
  | ind n ih =>
    intro h
    by_cases hl : ∃ m, m < n ∧ p m
    · obtain ⟨m, hm, hp⟩ := hl
      exact ih m hm hp
    · exact ⟨n, h, fun m hm => Nat.le_of_not_lt fun hlt => hl ⟨m, hlt, hm⟩⟩

theorem loopE {P : Program} {ro : Option Nat} {Q : Exit → Act → World → Prop} {a : Act} {c : Code} {w : World} (I : Nat → Act → World → Prop) (n0 : Nat) (h0 : I n0 a w)
    (round : ∀ n a w, I n a w → c.wpIn (FR ro) 0 P (Exit.then (fun a' w' => ∃ n', n' < n ∧ I n' a' w') Q) a w) : (Code.loop c).wpIn (FR ro) 0 P Q a w := by
  classical
  have hl : ∀ a w, (∃ n, I n a w) → ∃ n, I n a w ∧ ∀ m, I m a w → n ≤ m := fun a w ⟨n, h⟩ => least_ofE n h
  refine wpIn_loop (fun a w => ∃ n, I n a w) (fun a w => if h : ∃ n, I n a w then Classical.choose (hl a w h) else 0) ⟨n0, h0⟩ ?_
  intro a w h
  have hs := Classical.choose_spec (hl a w h)
  refine Code.wpIn_mono ?_ (round _ a w hs.1)
  intro e a' w' hq
  cases e with
  | normal =>
    obtain ⟨n', hlt, hI⟩ := hq
    refine ⟨⟨n', hI⟩, ?_⟩
    have h' : ∃ n, I n a' w' := ⟨n', hI⟩
    have hs' := (Classical.choose_spec (hl a' w' h')).2 n' hI
    rw [dif_pos h, dif_pos h']
    exact Nat.lt_of_le_of_lt hs' hlt
  | _ => exact hq

theorem stepR_scopeE {P : Program} {b : Frame} {a : Act} {k : List Item} {cs : List Frame} {w : World} {c : Code} : step P (lone (b.atR a (.code (.scope c) :: k)) cs w) = .next (lone (b.atR a (.code c :: .inScope c :: k)) cs w) :=
  step_lone_go (by simp [stepG, stepG.exec, Frame.atR])
theorem stepR_inScopeE {P : Program} {b : Frame} {a : Act} {k : List Item} {cs : List Frame} {w : World} {c : Code} : step P (lone (b.atR a (.inScope c :: k)) cs w) = .next (lone (b.atR a k) cs w) :=
  step_lone_go (by simp [stepG, stepG.exec, Frame.atR])
/-- A scope that is left by no goto. -/
theorem wpIn_scopeE {F : Fence} {n : Nat} {P : Program} {Q : Exit → Act → World → Prop} {a : Act} {w : World} {c : Code} (h : c.wpIn F n P (fun e a w => (e = .normal ∨ (∃ i, e = .exit i) ∨ e = .ret) ∧ Q e a w) a w) : (Code.scope c).wpIn F n P Q a w := by
  intro b k cs hro hb hr
  have h0 : (lone (b.atR a (.code (.scope c) :: k)) cs w).fenced P F := fenced_calm hb hr rfl
  obtain ⟨e, a₁, w₁, ⟨he, hq⟩, harr⟩ := h b (.inScope c :: k) cs hro hb hr
  rcases he with rfl | ⟨i, rfl⟩ | rfl
  · exact ⟨.normal, a₁, w₁, hq, .head h0 stepR_scopeE (StepsIn.trans harr (.one (fenced_calm hb hr rfl) stepR_inScopeE))⟩
  · have hx : exitTo i (.inScope c :: k) = exitTo i k := by simp [exitTo]
    exact ⟨.exit i, a₁, w₁, hq, fun k' hk => .head h0 stepR_scopeE (harr.1 k' (by rw [hx]; exact hk)), fun hr' hk => let ⟨k₁, h1, h2⟩ := harr.2 hr' (by rw [hx]; exact hk); ⟨k₁, h1, .head h0 stepR_scopeE h2⟩⟩
  · exact ⟨_, a₁, w₁, hq, .of_steps (.one h0 stepR_scopeE) harr⟩

theorem thenE {K : Act → World → Prop} {Q : Exit → Act → World → Prop} {e : EvX} {a : Act} {w : World} (h : e ≠ .normal) (hq : Q e.to a w) : Exit.then K Q e.to a w := by
  cases e <;> first | exact absurd rfl h | exact hq

section
variable {P : Program} {dd : List Deferred} {ro : Option Nat} {A : Nat → Prop}

theorem evC_ok (hm : P.follows .mixedOrders = true) : ∀ (n : Nat) (c : Code) (ss : List Sup) (st : St) (e : EvX) (st' : St) (ss' : List Sup) (ob : List Prop), evC P n c ss st = some (e, st', ss', ob) → AllP ob → ∀ (ρ : Nat → Nat) (a : Act) (w : World), RS dd A ρ st a w → (∀ b, w.heap.size ≤ b → A b) →
    ∀ Q : Exit → Act → World → Prop, (∀ a' ρ' w', RS dd A ρ' st' a' w' → Ext (memL st.mem) ρ w (memL st'.mem) ρ' w' → Q e.to a' w') → c.wpIn (FR ro) 0 P Q a w := by
  intro n
  induction n using Nat.strongRecOn with
  | ind n ihs =>
  cases n with
  | zero => intro c ss st e st' ss' ob h; cases h
  | succ n =>
    have ih := ihs n (Nat.lt_succ_self n)
    intro c ss st e st' ss' ob h hob ρ a w hR hup Q hQ
    unfold evC at h
    split at h
    · cases h
      exact wpIn_skip (hQ a ρ w hR (.refl _ _ _))
    · cases h
      exact wpIn_label (hQ a ρ w hR (.refl _ _ _))
    · rename_i x
      refine wpIn_scopeE (ih x ss st e st' ss' ob h hob ρ a w hR hup _ fun a' ρ' w' hR' hE => ⟨?_, hQ a' ρ' w' hR' hE⟩)
      cases e with
      | normal => exact .inl rfl
      | exit i => exact .inr (.inl ⟨i, rfl⟩)
      | ret => exact .inr (.inr rfl)
    · rename_i id ops
      split at h
      · rename_i st1 ss1 o1 h1
        cases h
        refine wpIn_region ?_
        rw [List.range_eq_range']
        have := seq_ok (ro := ro) (P := P) (ops := ops) (Q := Q) _ 0 ss st _ _ _ ρ a w (by simp) h1 hob hR hup hQ
        simpa using this
      · cases h
    · split at h
      · rename_i st1 ss1 o1 h1
        cases h
        exact draw_ok hm h1 hob hR hup hQ
      · split at h
        · rename_i st1 ss1 o1 h1
          cases h
          exact last_ok hm h1 hob hR hup hQ
        · cases h
    · rename_i x y
      split at h
      · rename_i st1 ss1 o1 h1
        split at h
        · rename_i e2 st2 ss2 o2 h2
          cases h
          obtain ⟨hob1, hob2⟩ := AllP.append hob
          refine wpIn_seq (ih x ss st .normal st1 ss1 o1 h1 hob1 ρ a w hR hup _ fun a' ρ' w' hR' hE => ?_)
          exact ih y ss1 st1 e st' ss' o2 h2 hob2 ρ' a' w' hR' (up_ext hE hup) Q fun a'' ρ'' w'' hR'' hE' => hQ a'' ρ'' w'' hR'' (hE.trans hE')
        · cases h
      · rename_i hne
        have he : e ≠ .normal := fun he => by subst he; exact hne _ _ _ h
        exact wpIn_seq (ih x ss st e st' ss' ob h hob ρ a w hR hup _ fun a' ρ' w' hR' hE => thenE he (hQ a' ρ' w' hR' hE))
    · rename_i t x y
      have hv := hR.eval t
      split at h
      · rename_i ss1
        split at h
        · rename_i b hb
          split at h
          · rename_i e2 st2 ss2 o2 h2
            cases h
            have hbt : b = true := hob.1
            rw [hb] at hv
            exact wpIn_cond_true (hbt ▸ rep_bool hv) (ih x ss1 st e st' ss' o2 h2 hob.2 ρ a w hR hup Q hQ)
          · cases h
        · cases h
      · rename_i ss1
        split at h
        · rename_i b hb
          split at h
          · rename_i e2 st2 ss2 o2 h2
            cases h
            have hbt : b = false := hob.1
            rw [hb] at hv
            exact wpIn_cond_false (hbt ▸ rep_bool hv) (ih y ss1 st e st' ss' o2 h2 hob.2 ρ a w hR hup Q hQ)
          · cases h
        · cases h
      · rename_i ss1
        split at h
        · rename_i hb
          rw [hb] at hv
          exact wpIn_cond_true (rep_bool hv) (ih x ss1 st e st' ss' ob h hob ρ a w hR hup Q hQ)
        · rename_i hb
          rw [hb] at hv
          exact wpIn_cond_false (rep_bool hv) (ih y ss1 st e st' ss' ob h hob ρ a w hR hup Q hQ)
        · cases h
      · cases h
    · rename_i id x
      split at h
      · rename_i j st1 ss1 o1 h1
        split at h
        · rename_i hj
          cases h
          refine wpIn_block (ih x ss st _ st' ss' ob h1 hob ρ a w hR hup _ fun a' ρ' w' hR' hE => ?_)
          have := Nat.eq_of_beq_eq_true hj
          subst this
          show Exit.inBlock j Q (.exit j) a' w'
          simp only [Exit.inBlock, if_true]
          exact hQ a' ρ' w' hR' hE
        · rename_i hj
          cases h
          refine wpIn_block (ih x ss st _ st' ss' ob h1 hob ρ a w hR hup _ fun a' ρ' w' hR' hE => ?_)
          have hne : j ≠ id := fun e => hj (by subst e; exact Nat.beq_refl j)
          show Exit.inBlock id Q (.exit j) a' w'
          simp only [Exit.inBlock, if_neg hne]
          exact hQ a' ρ' w' hR' hE
      · rename_i hne
        refine wpIn_block (ih x ss st e st' ss' ob h hob ρ a w hR hup _ fun a' ρ' w' hR' hE => ?_)
        cases e with
        | exit j => exact absurd h (hne _ _ _ _)
        | normal => exact hQ a' ρ' w' hR' hE
        | ret => exact hQ a' ρ' w' hR' hE
    · cases h
      exact wpIn_exit (hQ a ρ w hR (.refl _ _ _))
    · cases h
      exact wpIn_ret (hQ a ρ w hR (.refl _ _ _))
    · rename_i x
      have key : ∀ (k : Nat), k ≤ n → ∀ (ss : List Sup) (s : St) (ob : List Prop), evC P (k + 1) (.loop x) ss s = some (e, st', ss', ob) → AllP ob → ∀ ρ1 a w1, RS dd A ρ1 s a w1 → Ext (memL st.mem) ρ w (memL s.mem) ρ1 w1 →
          x.wpIn (FR ro) 0 P (Exit.then (fun a' w' => ∃ k', k' < k ∧ ∃ ss s ob ρ1, evC P (k' + 1) (.loop x) ss s = some (e, st', ss', ob) ∧ AllP ob ∧ RS dd A ρ1 s a' w' ∧ Ext (memL st.mem) ρ w (memL s.mem) ρ1 w') Q) a w1 := by
        intro k hk ss s ob hev hob ρ1 a1 w1 hR1 hE1
        have hup1 := up_ext hE1 hup
        have mono := fun {c ss st e st' ss' ob} h hob => ihs k (by omega) c ss st e st' ss' ob h hob
        unfold evC at hev
        simp only at hev
        split at hev
        · rename_i st1 ss1 o1 h1
          split at hev
          · rename_i e2 st2 ss2 o2 h2
            cases hev
            obtain ⟨hob1, hob2⟩ := AllP.append hob
            refine mono h1 hob1 ρ1 a1 w1 hR1 hup1 _ fun a' ρ' w' hR' hE' => ?_
            cases k with
            | zero => cases h2
            | succ k => exact ⟨k, by omega, ss1, st1, o2, ρ', h2, hob2, hR', hE1.trans hE'⟩
          · cases hev
        · rename_i hne
          have he : e ≠ .normal := fun he => by subst he; exact hne _ _ _ hev
          exact mono hev hob ρ1 a1 w1 hR1 hup1 _ fun a' ρ' w' hR' hE' => thenE he (hQ a' ρ' w' hR' (hE1.trans hE'))
      refine loopE (fun k a w' => k ≤ n ∧ ∃ ss s ob ρ1, evC P (k + 1) (.loop x) ss s = some (e, st', ss', ob) ∧ AllP ob ∧ RS dd A ρ1 s a w' ∧ Ext (memL st.mem) ρ w (memL s.mem) ρ1 w') n ⟨Nat.le_refl _, ss, st, ob, ρ, ?_, hob, hR, .refl _ _ _⟩ ?_
      · unfold evC; exact h
      · rintro k a1 w1 ⟨hk, ss1, s1, o1, ρ1, h1, h2, h3, h4⟩
        refine Code.wpIn_mono ?_ (key k hk ss1 s1 o1 h1 h2 ρ1 a1 w1 h3 h4)
        intro e a' w' hq
        cases e with
        | normal => obtain ⟨k', hlt, hh⟩ := hq; exact ⟨k', hlt, by omega, hh⟩
        | _ => exact hq
    · cases h

end
end
section
open Go.RowKit

theorem up_extW {A : Nat → Prop} {m m' : Mem} {ρ ρ' : Nat → Nat} {w w' : World} (hE : ExtW m ρ w m' ρ' w') (hup : ∀ b, w.heap.size ≤ b → A b) : ∀ b, w'.heap.size ≤ b → A b := fun b hb => hup b (Nat.le_trans hE.size hb)

/-! ### Marks of loops over functions -/
def mkD (D : Nat) : Deferred := { target := .collected D, args := #[] }
def Mks (n : Nat) (w : World) (ds : List Deferred) : Prop := ∃ Ds : List Nat, ds = Ds.map mkD ∧ Ds.Nodup ∧ ∀ D ∈ Ds, n ≤ D ∧ w.heap[D]? = some (.deferred (some []))
theorem Mks.nil (n : Nat) (w : World) : Mks n w [] := ⟨[], rfl, List.nodup_nil, fun D h => by simp at h⟩
/-- Memory of the program: cells and maps. -/
def stillO : Obj → Bool
  | .cells _ _ _ | .map _ _ => true
  | _ => false
theorem Fits.cellsAt {A : Nat → Prop} {m : Mem} {ρ : Nat → Nat} {w : World} (hF : Fits A m ρ w) {id : Nat} (h : m id ≠ none) : ∃ o, w.heap[ρ id]? = some o ∧ stillO o = true := by
  cases hb : m id with
  | none => exact absurd hb h
  | some b =>
    have := hF.at_ id b hb
    cases b with
    | cells cs => obtain ⟨vs, t, h1, _⟩ := this; exact ⟨_, h1, rfl⟩
    | row k es ver => obtain ⟨_, _, vs, t, h1, _⟩ := this; exact ⟨_, h1, rfl⟩
    | mp es => obtain ⟨ents, h1, _⟩ := this; exact ⟨_, h1, rfl⟩
theorem Mks.later {A : Nat → Prop} {m m' : Mem} {ρ ρ' : Nat → Nat} {w w' : World} {n : Nat} {ds : List Deferred} (h : Mks n w ds) (hF : Fits A m ρ w) (hE : ExtW m ρ w m' ρ' w') : Mks n w' ds := by
  obtain ⟨Ds, h1, h2, h3⟩ := h
  refine ⟨Ds, h1, h2, fun D hD => ⟨(h3 D hD).1, ?_⟩⟩
  have h4 := (h3 D hD).2
  rw [hE.frame D (Array.getElem?_eq_some_iff.1 h4).1 fun id hid he => ?_]
  · exact h4
  · obtain ⟨o, h5, h6⟩ := hF.cellsAt hid
    rw [he, h4] at h5; cases h5; cases h6
theorem Mks.app {n k : Nat} {w : World} {ds ds' : List Deferred} (h : Mks n w ds) (hk : ∀ D, w.heap[D]? = some (.deferred (some [])) → mkD D ∈ ds → D < k) (h' : Mks k w ds') (hnk : n ≤ k) : Mks n w (ds' ++ ds) := by
  obtain ⟨Ds, h1, h2, h3⟩ := h
  obtain ⟨Es, k1, k2, k3⟩ := h'
  subst h1; subst k1
  refine ⟨Es ++ Ds, by simp, List.nodup_append.2 ⟨k2, h2, fun D hD E hE he => ?_⟩, fun D hD => ?_⟩
  · subst he
    have := hk D (h3 D hE).2 (List.mem_map.2 ⟨D, hE, rfl⟩)
    have := (k3 D hD).1
    omega
  · rcases List.mem_append.1 hD with hD | hD
    · exact ⟨Nat.le_trans hnk (k3 D hD).1, (k3 D hD).2⟩
    · exact h3 D hD

structure Gone (L : Nat) (m : Mem) (ρ : Nat → Nat) (w : World) (m' : Mem) (ρ' : Nat → Nat) (w' : World) (ds : List Deferred) : Prop where
  ext : ExtW m ρ w m' ρ' w'
  pre : PreC L m ρ m' ρ'
  mks : Mks w.heap.size w' ds
theorem Gone.refl {L : Nat} {m : Mem} {ρ : Nat → Nat} {w : World} : Gone L m ρ w m ρ w [] := ⟨.refl _ _ _, .refl _ _ _, .nil _ _⟩
theorem Ext.gone {L : Nat} {m m' : Mem} {ρ ρ' : Nat → Nat} {w w' : World} (h : Ext m ρ w m' ρ' w') : Gone L m ρ w m' ρ' w' [] := ⟨h.weak, h.preC L, .nil _ _⟩
theorem Gone.trans {A : Nat → Prop} {L : Nat} {m m' m'' : Mem} {ρ ρ' ρ'' : Nat → Nat} {w w' w'' : World} {ds ds' : List Deferred} (h : Gone L m ρ w m' ρ' w' ds) (hF : Fits A m' ρ' w') (k : Gone L m' ρ' w' m'' ρ'' w'' ds') : Gone L m ρ w m'' ρ'' w'' (ds' ++ ds) :=
  ⟨h.ext.trans k.ext, h.pre.trans k.pre, (h.mks.later hF k.ext).app (fun D hD hm => by
    obtain ⟨Ds, h1, h2, h3⟩ := h.mks
    rw [h1] at hm
    obtain ⟨D', hD', he⟩ := List.mem_map.1 hm
    have : D' = D := by simpa [mkD] using he
    subst this
    exact (Array.getElem?_eq_some_iff.1 (h3 D' hD').2).1) k.mks h.ext.size⟩

/-- In a round: the loop's record is there. -/
def RoOk (ro : Option Nat) (w : World) : Prop := ∀ l, ro = some l → ∃ r, w.heap[l]? = some (.loop r)
theorem RoOk.later {A : Nat → Prop} {m m' : Mem} {ρ ρ' : Nat → Nat} {w w' : World} {ro : Option Nat} (h : RoOk ro w) (hF : Fits A m ρ w) (hE : ExtW m ρ w m' ρ' w') : RoOk ro w' := fun l hl => by
  obtain ⟨r, hr⟩ := h l hl
  refine ⟨r, ?_⟩
  rw [hE.frame l (Array.getElem?_eq_some_iff.1 hr).1 fun id hid he => ?_]
  · exact hr
  · obtain ⟨o, h5, h6⟩ := hF.cellsAt hid
    rw [he, hr] at h5; cases h5; cases h6
theorem RoOk.none (w : World) : RoOk .none w := fun l h => by cases h

/-- What is new, and what is the text's own, may be told of. -/
structure Up (L : Nat) (A : Nat → Prop) (m : Mem) (ρ : Nat → Nat) (w : World) : Prop where
  up : ∀ b, w.heap.size ≤ b → A b
  own : ∀ id, L ≤ id → m id ≠ none → A (ρ id)
theorem Up.ext {L : Nat} {A : Nat → Prop} {m m' : Mem} {ρ ρ' : Nat → Nat} {w w' : World} (h : Up L A m ρ w) (hE : ExtW m ρ w m' ρ' w') : Up L A m' ρ' w' := ⟨up_extW hE h.up, fun id hL hid => by
  rcases hE.ids id hid with ⟨h1, h2⟩ | h1
  · rw [h2]; exact h.own id hL h1
  · exact h.up _ h1⟩
theorem Up.sub {L : Nat} {A : Nat → Prop} {m m' : Mem} {ρ : Nat → Nat} {w : World} (h : Up L A m ρ w) (hs : ∀ id, m' id ≠ none → m id ≠ none) : Up L A m' ρ w := ⟨h.up, fun id hL hid => h.own id hL (hs id hid)⟩
theorem Up.world {L : Nat} {A : Nat → Prop} {m : Mem} {ρ : Nat → Nat} {w w' : World} (h : Up L A m ρ w) (hs : w.heap.size ≤ w'.heap.size) : Up L A m ρ w' := ⟨fun b hb => h.up b (Nat.le_trans hs hb), h.own⟩
theorem Up.nil {L : Nat} {A : Nat → Prop} {ρ : Nat → Nat} {w : World} (h : ∀ b, w.heap.size ≤ b → A b) : Up L A (memL []) ρ w := ⟨h, fun id _ hid => absurd (by simp [memL]) hid⟩

/-- From the state st, the code c ends as Q says; variables of the first L names stay. -/
def Ok (L : Nat) (P : Program) (c : Code) (st : St) (Q : EvX → St → Prop) : Prop :=
  ∀ (ro : Option Nat) (dd : List Deferred) (A : Nat → Prop) (ρ : Nat → Nat) (a : Act) (w : World), RoOk ro w → RS dd A ρ st a w → Up L A (memL st.mem) ρ w →
    c.wpIn (FR ro) 0 P (fun e a' w' => ∃ x st' ρ' ds, e = EvX.to x ∧ Q x st' ∧ RS (ds ++ dd) A ρ' st' a' w' ∧ Gone L (memL st.mem) ρ w (memL st'.mem) ρ' w' ds) a w

section
variable {P : Program} {L : Nat}

theorem Ok.ev (hm : P.follows .mixedOrders = true) (n : Nat) (ss : List Sup) {c : Code} {st st' : St} {e : EvX} {ss' : List Sup} {ob : List Prop} {Q : EvX → St → Prop} (h : evC P n c ss st = some (e, st', ss', ob)) (hob : AllP ob) (hQ : Q e st') : Ok L P c st Q :=
  fun ro dd A ρ a w hro hR hup => evC_ok hm n c ss st e st' ss' ob h hob ρ a w hR hup.up _ fun a' ρ' w' hR' hE => ⟨e, st', ρ', [], rfl, hQ, hR', hE.gone⟩

theorem Ok.mono {c : Code} {st : St} {Q Q' : EvX → St → Prop} (h : Ok L P c st Q) (hq : ∀ e s, Q e s → Q' e s) : Ok L P c st Q' :=
  fun ro dd A ρ a w hro hR hup => Code.wpIn_mono (fun e a' w' ⟨x, st', ρ', ds, h1, h2, h3⟩ => ⟨x, st', ρ', ds, h1, hq x st' h2, h3⟩) (h ro dd A ρ a w hro hR hup)

theorem evx_cases (x : EvX) : x = .normal ∨ x ≠ .normal := by cases x <;> simp

theorem Ok.seq {x y : Code} {st : St} {Q : EvX → St → Prop} (h : Ok L P x st (fun e s => (e = .normal ∧ Ok L P y s Q) ∨ (e ≠ .normal ∧ Q e s))) : Ok L P (.seq x y) st Q := fun ro dd A ρ a w hro hR hup => by
  refine wpIn_seq (Code.wpIn_mono ?_ (h ro dd A ρ a w hro hR hup))
  rintro e a' w' ⟨z, st', ρ', ds, rfl, hz, hR', hE⟩
  rcases hz with ⟨rfl, hy⟩ | ⟨hne, hq⟩
  · refine Code.wpIn_mono ?_ (hy ro _ A ρ' a' w' (hro.later hR.fits hE.ext) hR' (hup.ext hE.ext))
    rintro e2 a2 w2 ⟨z2, st2, ρ2, ds2, h1, h2, h3, h4⟩
    exact ⟨z2, st2, ρ2, ds2 ++ ds, h1, h2, by rw [List.append_assoc]; exact h3, hE.trans hR'.fits h4⟩
  · exact thenE hne ⟨z, st', ρ', ds, rfl, hq, hR', hE⟩

theorem Ok.seq' {x y : Code} {st s1 : St} {Q : EvX → St → Prop} (h : Ok L P x st (fun e s => e = .normal ∧ s = s1)) (k : Ok L P y s1 Q) : Ok L P (.seq x y) st Q :=
  Ok.seq (h.mono fun e s ⟨h1, h2⟩ => .inl ⟨h1, h2 ▸ k⟩)

theorem Ok.block {id : Nat} {x : Code} {st : St} {Q : EvX → St → Prop} (h : Ok L P x st (fun e s => match e with | .exit j => if j = id then Q .normal s else Q (.exit j) s | e => Q e s)) : Ok L P (.block id x) st Q := fun ro dd A ρ a w hro hR hup => by
  refine wpIn_block (Code.wpIn_mono ?_ (h ro dd A ρ a w hro hR hup))
  rintro e a' w' ⟨z, st', ρ', ds, rfl, hz, hR', hE⟩
  cases z with
  | exit j =>
    simp only [EvX.to, Exit.inBlock]
    split
    · rename_i hj; simp only [if_pos hj] at hz; exact ⟨.normal, st', ρ', ds, rfl, hz, hR', hE⟩
    · rename_i hj; simp only [if_neg hj] at hz; exact ⟨.exit j, st', ρ', ds, rfl, hz, hR', hE⟩
  | normal => exact ⟨.normal, st', ρ', ds, rfl, hz, hR', hE⟩
  | ret => exact ⟨.ret, st', ρ', ds, rfl, hz, hR', hE⟩

theorem Ok.cond {t : Nat} {x y : Code} {st : St} {b : Bool} {Q : EvX → St → Prop} (hb : st.τ t = .bool b) (h : b = true → Ok L P x st Q) (k : b = false → Ok L P y st Q) : Ok L P (.cond (.tmp t) x y) st Q := fun ro dd A ρ a w hro hR hup => by
  have hv := hR.eval t
  rw [hb] at hv
  cases b with
  | true => exact wpIn_cond_true (rep_bool hv) (h rfl ro dd A ρ a w hro hR hup)
  | false => exact wpIn_cond_false (rep_bool hv) (k rfl ro dd A ρ a w hro hR hup)

theorem Ok.loop {x : Code} {st : St} {Q : EvX → St → Prop} (I : Nat → St → Prop) (n : Nat) (h0 : I n st) (h : ∀ n s, I n s → Ok L P x s (fun e s' => match e with | .normal => ∃ k, k < n ∧ I k s' | e => Q e s')) : Ok L P (.loop x) st Q := fun ro dd A ρ a w hro hR hup => by
  refine loopE (fun k a' w' => ∃ s ρ' ds, I k s ∧ RS (ds ++ dd) A ρ' s a' w' ∧ Gone L (memL st.mem) ρ w (memL s.mem) ρ' w' ds) n ⟨st, ρ, [], h0, hR, .refl⟩ ?_
  rintro k a1 w1 ⟨s, ρ1, ds1, hI, hR1, hE1⟩
  refine Code.wpIn_mono ?_ (h k s hI ro _ A ρ1 a1 w1 (hro.later hR.fits hE1.ext) hR1 (hup.ext hE1.ext))
  rintro e a' w' ⟨z, st', ρ', ds, rfl, hz, hR', hE⟩
  have hR2 : RS ((ds ++ ds1) ++ dd) A ρ' st' a' w' := by rw [List.append_assoc]; exact hR'
  have hE2 := hE1.trans hR1.fits hE
  cases z with
  | normal => obtain ⟨k', h1, h2⟩ := hz; exact ⟨k', h1, st', ρ', _, h2, hR2, hE2⟩
  | exit j => exact ⟨.exit j, st', ρ', _, rfl, hz, hR2, hE2⟩
  | ret => exact ⟨.ret, st', ρ', _, rfl, hz, hR2, hE2⟩

/-! ### Forgetting -/

theorem Rep.drop {A : Nat → Prop} {m m' : Mem} {ρ : Nat → Nat} {w : World} (hs : ∀ id, m' id ≠ none → m' id = m id) {x : AV} {v : Value} (h : Rep A m ρ w x v) (hi : ∀ id ∈ idsOf x, m' id = m id) : Rep A m' ρ w x v := by
  have key : ∀ {l : List AV}, (∀ id ∈ idsL l, m' id = m id) → ∀ i x, l[i]? = some x → ∀ id ∈ idsOf x, m' id = m id := fun hl i x hx id hid => hl id (idsL_get hx hid)
  induction h with
  | base h => exact .base (h.mono (fun b hb => ⟨hb.1, hb.2.1, fun id hid => hb.2.2 id (by rw [← hs id hid]; exact hid)⟩) (fun _ _ _ => rfl))
  | ptr id off cs h => exact .ptr id off cs (by rw [hi id (by simp [idsOf])]; exact h)
  | ptrR id ver i off k es ver' a h hle hv => exact .ptrR id ver i off k es ver' a (by rw [hi id (by simp [idsOf])]; exact h) hle hv
  | slice id lo len ver k es ver' a n c h hle hv => exact .slice id lo len ver k es ver' a n c (by rw [hi id (by simp [idsOf])]; exact h) hle hv
  | map id es h => exact .map id es (by rw [hi id (by simp [idsOf])]; exact h)
  | agg cs vs hs' h ih => exact .agg cs vs hs' fun i c hc => ih i c hc (key (by simpa [idsOf] using hi) i c hc)
  | tuple cs vs hs' h ih => exact .tuple cs vs hs' fun i c hc => ih i c hc (key (by simpa [idsOf] using hi) i c hc)
  | func f p c ps cs hp hc h k ih ik =>
    simp only [idsOf, List.mem_append] at hi
    exact .func f p c ps cs hp hc (fun i x hx => ih i x hx (key (fun id h => hi id (.inl h)) i x hx)) (fun i x hx => ik i x hx (key (fun id h => hi id (.inr h)) i x hx))
  | iface t x v h ih => exact .iface t x v (ih (by simpa [idsOf] using hi))

/-- All names below j. -/
def belowV (j : Nat) (x : AV) : Bool := (idsOf x).all fun id => Nat.blt id j
def forgetV (j : Nat) (keep : List Nat) (t : Nat) (x : AV) : AV := if keep.contains t && belowV j x then x else .any
def forgetL (j : Nat) (keep : List Nat) : Nat → List AV → List AV
  | _, [] => []
  | t, x :: l => forgetV j keep t x :: forgetL j keep (t + 1) l
/-- Only these slots, and the first j blocks. -/
def St.forget (s : St) (keep : List Nat) (j : Nat) : St := ⟨forgetL j keep 0 s.tmps, s.mem.take j⟩

theorem forgetL_get (j : Nat) (keep : List Nat) : ∀ (l : List AV) (t i : Nat), (forgetL j keep t l)[i]? = (l[i]?).map (forgetV j keep (t + i))
  | [], t, i => by simp [forgetL]
  | x :: l, t, 0 => by simp [forgetL]
  | x :: l, t, i + 1 => by
    rw [forgetL, List.getElem?_cons_succ, List.getElem?_cons_succ, forgetL_get j keep l (t + 1) i]
    congr 2; omega
theorem forgetL_len (j : Nat) (keep : List Nat) : ∀ (l : List AV) (t : Nat), (forgetL j keep t l).length = l.length
  | [], _ => rfl
  | x :: l, t => by simp [forgetL, forgetL_len j keep l]

def cellsB : Blk → List AV
  | .cells cs => cs
  | .row _ es _ => es
  | .mp es => es
/-- The first j blocks name no later ones. -/
def ClosedM (M : List Blk) (j : Nat) : Prop := ∀ b ∈ M.take j, ∀ x ∈ cellsB b, belowV j x = true

theorem below_cell {j : Nat} {e c : AV} {i : Nat} (h : belowV j e = true) (hc : (cellsOf e)[i]? = some c) : belowV j c = true := by
  cases e with
  | agg cs =>
    simp only [belowV, List.all_eq_true, idsOf] at h ⊢
    exact fun id hid => h id (idsL_get hc hid)
  | _ =>
    simp only [cellsOf] at hc
    obtain ⟨h1, h2⟩ := List.getElem?_eq_some_iff.1 hc
    have : i = 0 := by simp at h1; omega
    subst this
    simp at h2
    rw [← h2]; exact h

theorem forget_rs {dd : List Deferred} {A : Nat → Prop} {ρ : Nat → Nat} {s : St} {a : Act} {w : World} (h : RS dd A ρ s a w) (keep : List Nat) (j : Nat) (hc : ClosedM s.mem j) : RS dd A ρ (s.forget keep j) a w := by
  have hs : ∀ id, memL (s.mem.take j) id ≠ none → memL (s.mem.take j) id = memL s.mem id := fun id hid => by
    simp only [memL, List.getElem?_take] at hid ⊢
    split
    · rfl
    · rename_i hn; rw [if_neg hn] at hid; exact absurd rfl hid
  have hb : ∀ x, belowV j x = true → ∀ id ∈ idsOf x, memL (s.mem.take j) id = memL s.mem id := fun x hx id hid => by
    have h1 : Nat.blt id j = true := List.all_eq_true.1 hx id hid
    have h2 : id < j := Eq.mp Nat.blt_eq h1
    simp only [memL, List.getElem?_take, if_pos h2]
  refine ⟨⟨fun i k hi hk he => h.fits.inj i k (by rw [← hs i hi]; exact hi) (by rw [← hs k hk]; exact hk) he, fun id b hb' => ?_⟩, by rw [h.size]; simp [St.forget, forgetL_len], h.df, fun t v hv => ?_⟩
  · have hb2 : memL s.mem id = some b := by rw [← hs id (by simp only [St.forget] at hb'; rw [hb']; simp)]; exact hb'
    have hmem : b ∈ s.mem.take j := List.mem_iff_getElem?.2 ⟨id, hb'⟩
    have hcl := hc b hmem
    have hf := h.fits.at_ id b hb2
    cases b with
    | cells cs =>
      obtain ⟨vs, t, h1, h2, h3⟩ := hf
      exact ⟨vs, t, h1, h2, fun i c hc' => (h3 i c hc').drop hs (hb c (hcl c (List.mem_iff_getElem?.2 ⟨i, hc'⟩)))⟩
    | row k es ver =>
      obtain ⟨h0, h5, vs, t, h1, h2, h3⟩ := hf
      exact ⟨h0, h5, vs, t, h1, h2, fun i e q c he hc' => (h3 i e q c he hc').drop hs (hb c (below_cell (hcl e (List.mem_iff_getElem?.2 ⟨i, he⟩)) hc'))⟩
    | mp es =>
      obtain ⟨ents, h1, h2, h3⟩ := hf
      exact ⟨ents, h1, h2, fun i x e hx he => by
        obtain ⟨k, v, rfl, q2, q3, q4⟩ := h3 i x e hx he
        exact ⟨k, v, rfl, q2, q3, q4.drop hs (hb v (below_cell (i := 1) (hcl _ (List.mem_iff_getElem?.2 ⟨i, hx⟩)) rfl))⟩⟩
  · simp only [St.forget] at hv
    rw [forgetL_get, Nat.zero_add] at hv
    obtain ⟨x, h1, rfl⟩ := Option.map_eq_some_iff.1 hv
    unfold forgetV
    split
    · rename_i hc'
      simp only [Bool.and_eq_true] at hc'
      exact (h.rep t x h1).drop hs (hb x hc'.2)
    · exact .base (.any _)

theorem forget_ext {m : Mem} {ρ : Nat → Nat} {w : World} {M : List Blk} {ρ' : Nat → Nat} {w' : World} (h : ExtW m ρ w (memL M) ρ' w') (j : Nat) : ExtW m ρ w (memL (M.take j)) ρ' w' := by
  refine ⟨h.os, h.tape, h.output, h.size, h.frame, fun id hid => h.ids id ?_⟩
  simp only [memL, List.getElem?_take] at hid ⊢
  split at hid
  · exact hid
  · exact absurd rfl hid

theorem forget_gone {L : Nat} {m : Mem} {ρ : Nat → Nat} {w : World} {M : List Blk} {ρ' : Nat → Nat} {w' : World} {ds : List Deferred} (h : Gone L m ρ w (memL M) ρ' w' ds) (j : Nat) (hL : L ≤ j) : Gone L m ρ w (memL (M.take j)) ρ' w' ds :=
  ⟨forget_ext h.ext j, fun id hi b hk hc => by
    have := h.pre id hi b hk hc
    simp only [memL, List.getElem?_take, if_pos (Nat.lt_of_lt_of_le hi hL)]
    exact this, h.mks⟩
theorem Ok.forget {c : Code} {st : St} {Q Q' : EvX → St → Prop} (keep : List Nat) (j : Nat) (hL : L ≤ j) (h : Ok L P c st Q) (hq : ∀ e s, Q e s → ClosedM s.mem j ∧ Q' e (s.forget keep j)) : Ok L P c st Q' :=
  fun ro dd A ρ a w hro hR hup => Code.wpIn_mono (fun e a' w' ⟨x, st', ρ', ds, h1, h2, h3, h4⟩ => ⟨x, st'.forget keep j, ρ', ds, h1, (hq x st' h2).2, forget_rs h3 keep j (hq x st' h2).1, forget_gone h4 j hL⟩) (h ro dd A ρ a w hro hR hup)

/-- The same, ahead of the code. -/
theorem Ok.pre {c : Code} {st : St} {Q : EvX → St → Prop} (keep : List Nat) (h : Ok L P c (st.forget keep st.mem.length) Q) (hc : ClosedM st.mem st.mem.length) : Ok L P c st Q := fun ro dd A ρ a w hro hR hup => by
  have := h ro dd A ρ a w hro (forget_rs hR keep _ hc) (hup.sub fun id hid => by simpa [St.forget] using hid)
  simpa [St.forget] using this

/-! ### What is no cells may turn -/

structure CalmW (w w' : World) : Prop where
  os : w'.os = w.os
  tape : w'.tape = w.tape
  output : w'.output = w.output
  size : w.heap.size ≤ w'.heap.size
  cells : ∀ (b : Nat) (vs : Array Value) (t : TypeId) (f : Nat × Nat), w.heap[b]? = some (Obj.cells vs t f) → w'.heap[b]? = some (Obj.cells vs t f)
  cell : ∀ b, b < w.heap.size → ∀ o, w'.cell? ⟨b, o, none⟩ = w.cell? ⟨b, o, none⟩
  maps : ∀ (b : Nat) (es : Array MapEntry) (c : Nat), w.heap[b]? = some (Obj.map es c) → w'.heap[b]? = some (Obj.map es c)
theorem CalmW.refl (w : World) : CalmW w w := ⟨rfl, rfl, rfl, Nat.le_refl _, fun _ _ _ _ h => h, fun _ _ _ => rfl, fun _ _ _ h => h⟩
theorem CalmW.trans {w w' w'' : World} (h : CalmW w w') (k : CalmW w' w'') : CalmW w w'' :=
  ⟨k.os.trans h.os, k.tape.trans h.tape, k.output.trans h.output, Nat.le_trans h.size k.size, fun b vs t f hb => k.cells b vs t f (h.cells b vs t f hb), fun b hb o => (k.cell b (Nat.lt_of_lt_of_le hb h.size) o).trans (h.cell b hb o), fun b es c hb => k.maps b es c (h.maps b es c hb)⟩
theorem calmw_put {w : World} {D : Nat} {o o' : Obj} (h : w.heap[D]? = some o) (ho : stillO o = false) (ho' : o'.isCells = false) : CalmW w (w.putObj D o') where
  os := rfl
  tape := rfl
  output := rfl
  size := by simp
  cells b vs t f hb := by
    by_cases hD : b = D
    · subst hD; rw [h] at hb; cases hb; cases ho
    · rw [World.putObj_heap_other hD]; exact hb
  cell b hb x := by
    by_cases hD : b = D
    · subst hD
      simp only [World.cell?, World.putObj_heap_same hb, h]
      cases o <;> first | (cases ho; done) | (cases o' <;> first | (cases ho'; done) | rfl)
    · simp only [World.cell?, World.putObj_heap_other hD]
  maps b es c hb := by
    by_cases hD : b = D
    · subst hD; rw [h] at hb; cases hb; cases ho
    · rw [World.putObj_heap_other hD]; exact hb
theorem calmw_alloc (w : World) (o : Obj) : CalmW w (w.alloc o) where
  os := rfl
  tape := rfl
  output := rfl
  size := by simp
  cells b vs t f hb := (heap_push w o b (Array.getElem?_eq_some_iff.1 hb).1).trans hb
  cell b hb x := by simp only [World.cell?]; rw [heap_push w o b hb]
  maps b es c hb := (heap_push w o b (Array.getElem?_eq_some_iff.1 hb).1).trans hb
theorem Alien.calm {A : Nat → Prop} {m : Mem} {ρ : Nat → Nat} {w w' : World} (hc : CalmW w w') {b : Nat} (h : Alien A m ρ w b) : Alien A m ρ w' b := ⟨h.1, Nat.lt_of_lt_of_le h.2.1 hc.size, h.2.2⟩
theorem Rep.calm {A : Nat → Prop} {m : Mem} {ρ : Nat → Nat} {w w' : World} (hc : CalmW w w') {x : AV} {v : Value} (h : Rep A m ρ w x v) : Rep A m ρ w' x v := by
  induction h with
  | base h => exact .base (h.mono (fun b hb => hb.calm hc) (fun b hb o => hc.cell b hb.2.1 o))
  | ptr id off cs h => exact .ptr id off cs h
  | ptrR id ver i off k es ver' a h hle hv => exact .ptrR id ver i off k es ver' a h hle hv
  | slice id lo len ver k es ver' a n c h hle hv =>
    exact .slice id lo len ver k es ver' a n c h hle (fun e => by
      obtain ⟨h1, h2, o, vs, t, h3, h4, h5, h6, h7⟩ := hv e
      exact ⟨h1, h2, o, vs, t, h3, h4, h5, hc.cells _ _ _ _ h6, h7⟩)
  | map id es h => exact .map id es h
  | agg cs vs hs h ih => exact .agg cs vs hs ih
  | tuple cs vs hs h ih => exact .tuple cs vs hs ih
  | func f p c ps cs hp hc' h k ih ik => exact .func f p c ps cs hp hc' ih ik
  | iface t x v h ih => exact .iface t x v ih
theorem Fits.calm {A : Nat → Prop} {m : Mem} {ρ : Nat → Nat} {w w' : World} (hc : CalmW w w') (h : Fits A m ρ w) : Fits A m ρ w' := ⟨h.inj, fun id b hb => by
  have := h.at_ id b hb
  cases b with
  | cells cs =>
    obtain ⟨vs, t, h1, h2, h3⟩ := this
    exact ⟨vs, t, hc.cells _ _ _ _ h1, h2, fun i c hi => (h3 i c hi).calm hc⟩
  | row k es ver =>
    obtain ⟨h0, h4, vs, t, h1, h2, h3⟩ := this
    exact ⟨h0, h4, vs, t, hc.cells _ _ _ _ h1, h2, fun i e j c he hc' => (h3 i e j c he hc').calm hc⟩
  | mp es =>
    obtain ⟨ents, h1, h2, h3⟩ := this
    exact ⟨ents, hc.maps _ _ _ h1, h2, fun i x e hx he => by
      obtain ⟨k, v, rfl, q2, q3, q4⟩ := h3 i x e hx he
      exact ⟨k, v, rfl, q2, q3, q4.calm hc⟩⟩⟩
theorem RS.calm {dd : List Deferred} {A : Nat → Prop} {ρ : Nat → Nat} {st : St} {a : Act} {w w' : World} (hc : CalmW w w') (h : RS dd A ρ st a w) : RS dd A ρ st a w' :=
  ⟨h.fits.calm hc, h.size, h.df, fun t v hv => (h.rep t v hv).calm hc⟩
theorem ExtW.calm {m m' : Mem} {ρ ρ' : Nat → Nat} {w w' w2 : World} (hc : CalmW w' w2) (hb : ∀ b, b < w.heap.size → w2.heap[b]? = w'.heap[b]?) (h : ExtW m ρ w m' ρ' w') : ExtW m ρ w m' ρ' w2 :=
  ⟨hc.os.trans h.os, hc.tape.trans h.tape, hc.output.trans h.output, Nat.le_trans h.size hc.size, fun b hlt hn => (hb b hlt).trans (h.frame b hlt hn), h.ids⟩

/-- The frame is left past its marks. -/
theorem leave_marks {fn : Func} {tmps : Array Value} {R : Ending → World → Prop} {n : Nat} : ∀ (Ds : List Nat) (w : World), Ds.Nodup → (∀ D ∈ Ds, n ≤ D ∧ w.heap[D]? = some (.deferred (some []))) →
    (∀ w2, CalmW w w2 → (∀ b, b < n → w2.heap[b]? = w.heap[b]?) → ∃ v, (results fn tmps).run P w2 = .ok v w2 ∧ R (.returned v) w2) → LeavesInM (FR none) 0 P fn tmps R (Ds.map mkD) .returning w
  | [], w, _, _, h => h w (.refl w) (fun _ _ => rfl)
  | D :: Ds, w, hn, hD, h => by
    have h1 := hD D List.mem_cons_self
    have hnd := List.nodup_cons.1 hn
    refine ⟨by simp, .inl ⟨D, _, rfl, run_takeDeferred h1.2, ?_⟩⟩
    have hc := calmw_put (o' := .deferred none) h1.2 rfl rfl
    refine leave_marks (n := n) Ds _ hnd.2 (fun E hE => ?_) (fun w2 hc2 hb2 => h w2 (hc.trans hc2) fun b hb => ?_)
    · have hne : E ≠ D := fun e => hnd.1 (e ▸ hE)
      rw [World.putObj_heap_other hne]
      exact hD E (List.mem_cons_of_mem _ hE)
    · rw [hb2 b hb, World.putObj_heap_other (by omega)]

/-! ### Functions -/

def resAV (P : Program) (st : St) : ResultVar → Option AV
  | .tmp t => some (st.τ t)
  | .cell t ty => match evLoad P ty (st.τ t) (memL st.mem) .d with
    | some (v, []) => some v
    | _ => none
def resL (P : Program) (st : St) : List ResultVar → Option (List AV)
  | [] => some []
  | r :: l => match resAV P st r, resL P st l with
    | some v, some vs => some (v :: vs)
    | _, _ => none
def resultsAV (P : Program) (fn : Func) (st : St) : Option AV := match resL P st fn.results.toList with
  | some [v] => some v
  | some vs => some (.tuple vs)
  | none => none

def resOne (tmps : Array Value) : ResultVar → Sem Value
  | .tmp t => pure (tmps.getD t undef)
  | .cell q t => do loadVar t (← asAddr (tmps.getD q undef))

theorem results_is (fn : Func) (tmps : Array Value) : results fn tmps = (do let vs ← fn.results.mapM (resOne tmps); pure (if h : vs.size = 1 then vs[0] else .tuple vs)) := rfl

theorem nodup_get : ∀ {l : List Nat} {i j x : Nat}, l.Nodup → l[i]? = some x → l[j]? = some x → i = j
  | [], _, _, _, _, h, _ => by simp at h
  | y :: l, i, j, x, hn, h1, h2 => by
    have hn := List.nodup_cons.1 hn
    cases i with
    | zero =>
      cases j with
      | zero => rfl
      | succ j =>
        simp at h1 h2; subst h1
        exact absurd (List.mem_iff_getElem?.2 ⟨j, h2⟩) hn.1
    | succ i =>
      cases j with
      | zero =>
        simp at h1 h2; subst h2
        exact absurd (List.mem_iff_getElem?.2 ⟨i, h1⟩) hn.1
      | succ j => simp at h1 h2; rw [nodup_get hn.2 h1 h2]

theorem resL_ok {dd : List Deferred} {A : Nat → Prop} {ρ : Nat → Nat} {st : St} {a : Act} {w : World} (h : RS dd A ρ st a w) : ∀ (l : List ResultVar) (vs : List AV), resL P st l = some vs →
    ∃ us : List Value, (List.mapM (resOne a.tmps) l).run P w = .ok us w ∧ us.length = vs.length ∧ ∀ i x, vs[i]? = some x → Rep A (memL st.mem) ρ w x (us.getD i undef) := by
  intro l
  induction l with
  | nil => intro vs h1; simp only [resL] at h1; cases h1; exact ⟨[], rfl, rfl, fun i x hx => by simp at hx⟩
  | cons r l ih =>
    intro vs h1
    simp only [resL] at h1
    split at h1
    · rename_i v vs' hv hvs
      cases h1
      obtain ⟨us, e1, e2, e3⟩ := ih vs' hvs
      have hone : ∃ u, (resOne a.tmps r).run P w = .ok u w ∧ Rep A (memL st.mem) ρ w v u := by
        cases r with
        | tmp t =>
          simp only [resAV] at hv
          cases hv
          exact ⟨_, rfl, h.eval t⟩
        | cell q t =>
          simp only [resAV] at hv
          split at hv
          · rename_i v' hl
            cases hv
            obtain ⟨u, h2, h3⟩ := evLoad_ok h.fits (fun _ _ h => h) hl trivial (h.eval q)
            refine ⟨u, ?_, h3⟩
            have he : a.eval (.tmp q) = a.tmps.getD q undef := rfl
            rw [he] at h2
            simp only [resOne]
            generalize a.tmps.getD q undef = z at h2 ⊢
            cases z with
            | pointer ad =>
              cases ad with
              | some ad => simpa [Instr.loadAt, Instr.sureAddr, asAddr] using h2
              | none => simp [Instr.loadAt, Instr.sureAddr] at h2
            | _ => simp [Instr.loadAt, Instr.sureAddr] at h2
          · cases hv
      obtain ⟨u, h2, h3⟩ := hone
      refine ⟨u :: us, ?_, by simp [e2], fun i x hx => ?_⟩
      · rw [List.mapM_cons]
        simp only [Sem.run_bind, h2, Result.andThen_ok, e1, Sem.run_pure]
      · cases i with
        | zero => simp at hx; subst hx; simpa using h3
        | succ i => simpa using e3 i x (by simpa using hx)
    · cases h1

theorem results_ok {dd : List Deferred} {A : Nat → Prop} {ρ : Nat → Nat} {st : St} {a : Act} {w : World} {fn : Func} {r : AV} (h : RS dd A ρ st a w) (hr : resultsAV P fn st = some r) : ∃ v, (results fn a.tmps).run P w = .ok v w ∧ Rep A (memL st.mem) ρ w r v := by
  unfold resultsAV at hr
  have run : ∀ {us : List Value}, (List.mapM (resOne a.tmps) fn.results.toList).run P w = .ok us w → (results fn a.tmps).run P w = .ok (if h : us.toArray.size = 1 then us.toArray[0] else .tuple us.toArray) w := fun h1 => by
    rw [results_is, Array.mapM_eq_mapM_toList]
    simp only [Sem.run_bind, Sem.run_map, h1, Result.andThen_ok, Sem.run_pure]
  split at hr
  · rename_i v hv
    cases hr
    obtain ⟨us, e1, e2, e3⟩ := resL_ok h _ _ hv
    match us, e2 with
    | [u], _ => exact ⟨u, by rw [run e1]; simp, by simpa using e3 0 _ rfl⟩
  · rename_i vs hne hv
    cases hr
    obtain ⟨us, e1, e2, e3⟩ := resL_ok h _ _ hv
    have hl : us.toArray.size ≠ 1 := fun h1 => by
      match vs, e2, hne, h1 with
      | [], e2, _, h1 => simp at e2; subst e2; simp at h1
      | [v], _, hne, _ => exact hne v rfl
      | _ :: _ :: _, e2, _, h1 =>
        have h9 : us.length = 1 := by simpa using h1
        rw [e2] at h9; simp at h9
    refine ⟨.tuple us.toArray, by rw [run e1, dif_neg hl], .tuple _ _ (by simpa using e2) fun i c hc => ?_⟩
    have := e3 i c hc
    simpa [Array.getD_eq_getD_getElem?, List.getD_eq_getElem?_getD] using this
  · cases hr

/-- What a function hands out. -/
def posOf (is : List Nat) (id : Nat) : Option Nat := is.findIdx? (Nat.beq id)
def exp1 (look : Mem) (is : List Nat) : AV → Option AV
  | .slice id lo len ver => match posOf is id, cur look id ver with
    | some p, true => some (.slice p lo len 0)
    | _, _ => none
  | v => if (idsOf v).isEmpty then some v else none
def expL (look : Mem) (is : List Nat) : List AV → Option (List AV)
  | [] => some []
  | v :: l => match exp1 look is v, expL look is l with
    | some x, some xs => some (x :: xs)
    | _, _ => none
def exp2 (look : Mem) (is : List Nat) : AV → Option AV
  | .agg cs => (expL look is cs).map .agg
  | v => exp1 look is v
def expL2 (look : Mem) (is : List Nat) : List AV → Option (List AV)
  | [] => some []
  | v :: l => match exp2 look is v, expL2 look is l with
    | some x, some xs => some (x :: xs)
    | _, _ => none
def expV (look : Mem) (is : List Nat) : AV → Option AV
  | .tuple vs => (expL2 look is vs).map .tuple
  | v => exp2 look is v
def expB (look : Mem) : List Nat → Option (List Blk × List Prop)
  | [] => some ([], [])
  | id :: l => match look id, expB look l with
    | some (.row k es _), some (bs, ob) => some (.row k es 0 :: bs, (∀ e ∈ es, idsOf e = []) :: ob)
    | _, _ => none

def nodupN : List Nat → Bool
  | [] => true
  | x :: l => !(l.contains x) && nodupN l
theorem nodupN_ok : ∀ {l : List Nat}, nodupN l = true → l.Nodup
  | [], _ => List.nodup_nil
  | x :: l, h => by
    simp only [nodupN, Bool.and_eq_true, Bool.not_eq_true'] at h
    exact List.nodup_cons.2 ⟨by simpa using h.1, nodupN_ok h.2⟩

theorem expB_get {look : Mem} : ∀ (is : List Nat) (bs : List Blk) (ob : List Prop), expB look is = some (bs, ob) → AllP ob → bs.length = is.length ∧ ∀ (p id : Nat), is[p]? = some id → ∃ k es ver, look id = some (.row k es ver) ∧ bs[p]? = some (.row k es 0) ∧ ∀ e ∈ es, idsOf e = []
  | [], bs, ob, h, _ => by simp only [expB] at h; cases h; exact ⟨rfl, fun p id hp => by simp at hp⟩
  | id :: l, bs, ob, h, hob => by
    simp only [expB] at h
    split at h
    · rename_i k es ver bs' ob' h1 h2
      cases h
      obtain ⟨e1, e2⟩ := expB_get l bs' ob' h2 hob.2
      refine ⟨by simp [e1], fun p id' hp => ?_⟩
      cases p with
      | zero => simp at hp; subst hp; exact ⟨k, es, ver, h1, rfl, hob.1⟩
      | succ p => simpa using e2 p id' (by simpa using hp)
    · cases h

theorem exp_ok {A : Nat → Prop} {M : List Blk} {ρ : Nat → Nat} {w : World} {is : List Nat} {R : List Blk} {ob : List Prop} (hF : Fits A (memL M) ρ w) (hB : expB (memL M) is = some (R, ob)) (hob : AllP ob) (hnd : is.Nodup) :
    ∃ ρ', (∀ p id, is[p]? = some id → ρ' p = ρ id) ∧ Fits A (memL R) ρ' w ∧ ∀ x y v, expV (memL M) is x = some y → Rep A (memL M) ρ w x v → Rep A (memL R) ρ' w y v := by
  obtain ⟨hlen, hget⟩ := expB_get is R ob hB hob
  let ρ' : Nat → Nat := fun p => ρ (is.getD p 0)
  have hρ : ∀ p id, is[p]? = some id → ρ' p = ρ id := fun p id hp => by simp [ρ', List.getD_eq_getElem?_getD, hp]
  have halive : ∀ p, memL R p ≠ none → ∃ id, is[p]? = some id ∧ memL M id ≠ none := fun p hp => by
    have h1 : p < R.length := by
      rcases Nat.lt_or_ge p R.length with h | h
      · exact h
      · exact absurd (List.getElem?_eq_none h) hp
    have h2 : is[p]? = some is[p] := List.getElem?_eq_getElem (by omega)
    obtain ⟨k, es, ver, h3, _⟩ := hget p _ h2
    exact ⟨_, h2, by rw [h3]; simp⟩
  have hal : ∀ b, Alien A (memL M) ρ w b → Alien A (memL R) ρ' w b := fun b hb => ⟨hb.1, hb.2.1, fun p hp => by
    obtain ⟨id, h1, h2⟩ := halive p hp
    rw [hρ p id h1]; exact hb.2.2 id h2⟩
  have hri : ∀ x v, idsOf x = [] → Rep A (memL M) ρ w x v → Rep A (memL R) ρ' w x v := fun x v hx h => .base ((h.ri hx).mono hal (fun _ _ _ => rfl))
  have h1 : ∀ x y v, exp1 (memL M) is x = some y → Rep A (memL M) ρ w x v → Rep A (memL R) ρ' w y v := fun x y v hx hr => by
    unfold exp1 at hx
    split at hx
    · rename_i id lo len ver
      split at hx
      · rename_i p hp hc
        cases hx
        have hpid : is[p]? = some id := by
          unfold posOf at hp
          rw [List.findIdx?_eq_some_iff_getElem] at hp
          obtain ⟨h2, h3, _⟩ := hp
          rw [List.getElem?_eq_getElem h2, Nat.eq_of_beq_eq_true h3]
        obtain ⟨k0, es0, hm⟩ := cur_ok (fun _ _ h => h) hc
        obtain ⟨k, es, ver', h3, h4, h5⟩ := hget p id hpid
        rw [hm] at h3; cases h3
        cases hr with
        | base h => cases h
        | slice _ _ _ _ k es ver' a n c hm' hle hv =>
          rw [hm] at hm'; cases hm'
          refine .slice p lo len 0 k0 es0 0 a n c h4 (Nat.le_refl _) (fun _ => ?_)
          rw [hρ p id hpid]
          exact hv rfl
      · cases hx
    · split at hx
      · rename_i hi
        cases hx
        exact hri _ v (by simpa using hi) hr
      · cases hx
  have h2 : ∀ (l l' : List AV) , expL (memL M) is l = some l' → l'.length = l.length ∧ ∀ (u : Nat → Value), (∀ i x, l[i]? = some x → Rep A (memL M) ρ w x (u i)) → ∀ i y, l'[i]? = some y → Rep A (memL R) ρ' w y (u i) := by
    intro l
    induction l with
    | nil => intro l' h; simp only [expL] at h; cases h; exact ⟨rfl, fun u _ i y hy => by simp at hy⟩
    | cons x l ih =>
      intro l' h
      simp only [expL] at h
      split at h
      · rename_i y ys h3 h4
        cases h
        obtain ⟨e1, e2⟩ := ih ys h4
        refine ⟨by simp [e1], fun u hu i z hz => ?_⟩
        cases i with
        | zero => simp at hz; subst hz; exact h1 x _ _ h3 (hu 0 x rfl)
        | succ i => exact e2 (fun i => u (i + 1)) (fun i x hx => hu (i + 1) x (by simpa using hx)) i z (by simpa using hz)
      · cases h
  have h3 : ∀ x y v, exp2 (memL M) is x = some y → Rep A (memL M) ρ w x v → Rep A (memL R) ρ' w y v := fun x y v hx hr => by
    unfold exp2 at hx
    split at hx
    · rename_i cs
      obtain ⟨l', h4, rfl⟩ := Option.map_eq_some_iff.1 hx
      obtain ⟨vs, rfl, hs, hr⟩ := rep_agg hr
      obtain ⟨e1, e2⟩ := h2 cs l' h4
      exact .agg _ _ (by omega) (e2 (fun i => vs.getD i undef) hr)
    · exact h1 _ y v hx hr
  have h4 : ∀ (l l' : List AV) , expL2 (memL M) is l = some l' → l'.length = l.length ∧ ∀ (u : Nat → Value), (∀ i x, l[i]? = some x → Rep A (memL M) ρ w x (u i)) → ∀ i y, l'[i]? = some y → Rep A (memL R) ρ' w y (u i) := by
    intro l
    induction l with
    | nil => intro l' h; simp only [expL2] at h; cases h; exact ⟨rfl, fun u _ i y hy => by simp at hy⟩
    | cons x l ih =>
      intro l' h
      simp only [expL2] at h
      split at h
      · rename_i y ys h5 h6
        cases h
        obtain ⟨e1, e2⟩ := ih ys h6
        refine ⟨by simp [e1], fun u hu i z hz => ?_⟩
        cases i with
        | zero => simp at hz; subst hz; exact h3 x _ _ h5 (hu 0 x rfl)
        | succ i => exact e2 (fun i => u (i + 1)) (fun i x hx => hu (i + 1) x (by simpa using hx)) i z (by simpa using hz)
      · cases h
  refine ⟨ρ', hρ, ⟨fun p q hp hq he => ?_, fun p b hb => ?_⟩, fun x y v hx hr => ?_⟩
  · obtain ⟨i, e1, e2⟩ := halive p hp
    obtain ⟨j, e3, e4⟩ := halive q hq
    rw [hρ p i e1, hρ q j e3] at he
    have := hF.inj i j e2 e4 he
    subst this
    exact nodup_get hnd e1 e3
  · obtain ⟨id, e1, e2⟩ := halive p (by rw [hb]; simp)
    obtain ⟨k, es, ver, g1, g2, g3⟩ := hget p id e1
    have : b = .row k es 0 := by
      have h9 : R[p]? = some b := hb
      rw [g2] at h9; exact (Option.some.inj h9).symm
    subst this
    rw [hρ p id e1]
    obtain ⟨k1, k2, vs, t, k3, k4, k5⟩ := hF.at_ id _ g1
    refine ⟨k1, k2, vs, t, k3, k4, fun i e j c he hc => hri c _ ?_ (k5 i e j c he hc)⟩
    have h10 := g3 e (List.mem_iff_getElem?.2 ⟨i, he⟩)
    rw [List.eq_nil_iff_forall_not_mem]
    intro n hn
    have : n ∈ idsOf e := by
      cases e with
      | agg cs => simp only [idsOf]; exact idsL_get hc hn
      | _ =>
        simp only [cellsOf] at hc
        obtain ⟨q1, q2⟩ := List.getElem?_eq_some_iff.1 hc
        have : j = 0 := by simp at q1; omega
        subst this
        simp at q2
        rw [← q2] at hn; exact hn
    rw [h10] at this; cases this
  · unfold expV at hx
    split at hx
    · rename_i vs
      obtain ⟨l', h5, rfl⟩ := Option.map_eq_some_iff.1 hx
      obtain ⟨us, rfl, hs, hr⟩ := rep_tuple hr
      obtain ⟨e1, e2⟩ := h4 vs l' h5
      exact .tuple _ _ (by omega) (e2 (fun i => us.getD i undef) hr)
    · exact h3 _ y v hx hr

/-- The state in which a body begins. -/
def St.init (fn : Func) (args : List AV) (M : List Blk) : St := ⟨args ++ List.replicate (fn.ntmps - args.length) (.tuple []), M⟩

/-- A result that bears names: those names, in their order. -/
def Fin (P : Program) (fn : Func) (r : AV) (R : List Blk) (s : St) : Prop :=
  ∃ x ob is, resultsAV P fn s = some x ∧ expB (memL s.mem) is = some (R, ob) ∧ AllP ob ∧ nodupN is = true ∧ expV (memL s.mem) is x = some r

theorem fn_init {f : FuncId} {fn : Func} {c : Code} {args : List AV} {M : List Blk} {r : AV} {M' : List Blk} {Q : EvX → St → Prop} (hM : M = []) (hf : P.funcs[f]? = some fn) (hb : fn.body = some c) (hcal : callable P f = true) (hn : Nat.ble args.length fn.ntmps = true)
    (h : Ok 0 P c (St.init fn args M) Q) (hQ : ∀ e s, Q e s → (e = .normal ∨ e = .ret) ∧ ∀ (dd : List Deferred) (A : Nat → Prop) ρ0 w0 ρ a w, RS dd A ρ s a w → ExtW (memL M) ρ0 w0 (memL s.mem) ρ w → ∃ v ρ', (results fn a.tmps).run P w = .ok v w ∧ Ext (memL M) ρ0 w0 (memL M') ρ' w ∧ Fits A (memL M') ρ' w ∧ Rep A (memL M') ρ' w r v) :
    FnM P f M args r M' := by
  refine ⟨hcal, fun B ρ w vs hF hs hr => fr_calls (callsIn_of_wp_marks (F := FR none) (n := 0) hf hb trivial ?_)⟩
  have hn := Nat.le_of_ble_eq_true hn
  refine Code.wpIn_mono ?_ (h none [] (Allow B w.heap.size) ρ { tmps := vs ++ Array.replicate (fn.ntmps - vs.size) undef, defers := [] } w (.none w) ⟨hF, ?_, rfl, fun t v hv => ?_⟩ ⟨fun b hb => .inr hb, fun id _ hid => by subst hM; exact absurd (by simp [memL, St.init]) hid⟩)
  · rintro e a' w' ⟨x, st', ρ', ds, rfl, hq, hR, hE⟩
    obtain ⟨hx, hk⟩ := hQ x st' hq
    have hdf : a'.defers = ds := by rw [hR.df, List.append_nil]
    obtain ⟨Ds, g1, g2, g3⟩ := hE.mks
    have key : LeavesInM (FR none) 0 P fn a'.tmps (fun e w' => ∃ v ρ', e = .returned v ∧ Ext (memL M) ρ w (memL M') ρ' w' ∧ Fits (Allow B w.heap.size) (memL M') ρ' w' ∧ Rep (Allow B w.heap.size) (memL M') ρ' w' r v) a'.defers .returning w' := by
      rw [hdf, g1]
      refine leave_marks Ds w' g2 g3 fun w2 hc hb2 => ?_
      obtain ⟨v, ρ2, h1, h2, h3, h4⟩ := hk _ _ ρ w ρ' a' w2 (hR.calm hc) (hE.ext.calm hc hb2)
      exact ⟨v, h1, v, ρ2, rfl, h2, h3, h4⟩
    rcases hx with rfl | rfl
    · exact key
    · exact key
  · simp [St.init, hs]
  · simp only [St.init] at hv
    rw [Array.getD_eq_getD_getElem?]
    by_cases h1 : t < args.length
    · rw [List.getElem?_append_left h1] at hv
      rw [Array.getElem?_append_left (by omega), ← Array.getD_eq_getD_getElem?]
      exact hr t v hv
    · rw [List.getElem?_append_right (by omega), List.getElem?_replicate] at hv
      split at hv
      · rename_i h2
        obtain rfl := Option.some.inj hv
        rw [Array.getElem?_append_right (by omega), Array.getElem?_replicate, if_pos (by omega)]
        exact .base (.tuple [] #[] rfl (fun i c hc => by simp at hc))
      · cases hv

/-- A function that is given nothing of the caller's own memory. -/
theorem fn_pure {f : FuncId} {fn : Func} {c : Code} {args : List AV} {r : AV} {R : List Blk} (hf : P.funcs[f]? = some fn) (hb : fn.body = some c) (hcal : callable P f = true) (hn : Nat.ble args.length fn.ntmps = true)
    (h : Ok 0 P c (St.init fn args []) (fun e s => (e = .normal ∨ e = .ret) ∧ Fin P fn r R s)) : FnM P f [] args r R := by
  refine fn_init rfl hf hb hcal hn h fun e s ⟨he, x, ob, is, h1, h2, h3, h4, h5⟩ => ⟨he, fun dd A ρ0 w0 ρ a w hR hE => ?_⟩
  obtain ⟨v, q1, q2⟩ := results_ok hR h1
  obtain ⟨ρ', e1, e2, e3⟩ := exp_ok hR.fits h2 h3 (nodupN_ok h4)
  refine ⟨v, ρ', q1, ⟨hE.os, hE.tape, hE.output, hE.size, hE.frame, fun p hp => ?_, fun id b hb => by simp [memL] at hb⟩, e2, e3 x r v h5 q2⟩
  obtain ⟨hlen, hget⟩ := expB_get is R ob h2 h3
  have hp1 : p < R.length := by
    rcases Nat.lt_or_ge p R.length with h | h
    · exact h
    · exact absurd (List.getElem?_eq_none h) hp
  have hp2 : is[p]? = some is[p] := List.getElem?_eq_getElem (by omega)
  obtain ⟨k, es, ver, g1, _⟩ := hget p _ hp2
  rcases hE.ids is[p] (by rw [g1]; simp) with ⟨h6, _⟩ | h6
  · exact absurd (by simp [memL]) h6
  · right; rw [e1 p _ hp2]; exact h6

end
end
section
open Go.RowKit

def evFn (P : Program) (n : Nat) (fn : Func) (ss : List Sup) (args : List AV) (is : List Nat) : Option (AV × List Blk × List Prop) :=
  match fn.body with
  | some c => match evC P n c ss (St.init fn args []) with
    | some (e, st, _, ob) => match e with
      | .exit _ => none
      | _ => match resultsAV P fn st, expB (memL st.mem) is with
        | some x, some (R, ob2) => if nodupN is then match expV (memL st.mem) is x with
          | some r => some (r, R, ob ++ ob2)
          | none => none else none
        | _, _ => none
    | none => none
  | none => none

section
variable {P : Program}

theorem fn_ev {f : FuncId} {fn : Func} (hm : P.follows .mixedOrders = true) (hf : P.funcs[f]? = some fn) (hcal : callable P f = true) (n : Nat) (ss : List Sup) (is : List Nat) {args : List AV} {r : AV} {R : List Blk} {ob : List Prop} (hn : Nat.ble args.length fn.ntmps = true)
    (h : evFn P n fn ss args is = some (r, R, ob)) (hob : AllP ob) : FnM P f [] args r R := by
  unfold evFn at h
  split at h
  · rename_i c hc
    split at h
    · rename_i e st ss' o1 h1
      split at h
      · cases h
      · rename_i hne
        split at h
        · rename_i x R' o2 h2 h3
          split at h
          · rename_i hnd
            split at h
            · rename_i r' h4
              cases h
              obtain ⟨hob1, hob2⟩ := AllP.append hob
              refine fn_pure hf hc hcal hn (Ok.ev hm n ss h1 hob1 ⟨?_, x, o2, is, h2, h3, hob2, hnd, h4⟩)
              cases e with
              | normal => exact .inl rfl
              | ret => exact .inr rfl
              | exit j => exact absurd rfl (hne j)
            · cases h
          · cases h
        · cases h
    · cases h
  · cases h

/-- What a function gives for values that bear no names, in every world. -/
theorem FnM.calls {f : FuncId} {args : List AV} {r : AV} (h : FnM P f [] args r []) {w : World} {vs : Array Value} (hs : vs.size = args.length) (hr : ∀ i x, args[i]? = some x → RI w (fun b => b < w.heap.size) x (vs.getD i undef)) :
    Calls P f vs w fun e w' => ∃ v, e = .returned v ∧ Below w.heap.size w w' ∧ RI w' (fun b => b < w'.heap.size) r v := by
  have hm : ∀ {A : Nat → Prop} {ρ : Nat → Nat} {w : World}, Fits A (memL []) ρ w := ⟨fun i j hi => absurd (by simp [memL]) hi, fun id b hb => by simp [memL] at hb⟩
  refine (h.2 (fun b => b < w.heap.size) (fun _ => 0) w vs hm hs fun i x hx => .base ((hr i x hx).mono (fun b hb => ⟨.inl hb, hb, fun id hid => absurd (by simp [memL]) hid⟩) fun _ _ _ => rfl)).mono ?_
  rintro e w' ⟨v, ρ', rfl, hE, hF, hR⟩
  refine ⟨v, rfl, ⟨hE.os, hE.tape, hE.output, hE.size, fun k hk => hE.frame k hk fun id hid => absurd (by simp [memL]) hid⟩, ?_⟩
  have key : ∀ {x : AV} {v : Value}, Rep (Allow (fun b => b < w.heap.size) w.heap.size) (memL []) ρ' w' x v → RI w' (fun b => b < w'.heap.size) x v := fun h => by
    induction h with
    | base h => exact h.mono (fun b hb => hb.2.1) (fun _ _ _ => rfl)
    | ptr id off cs h => simp [memL] at h
    | ptrR id ver i off k es ver' a h => simp [memL] at h
    | slice id lo len ver k es ver' a n c h => simp [memL] at h
    | map id es h => simp [memL] at h
    | agg cs vs hs h ih => exact .agg cs vs hs ih
    | tuple cs vs hs h ih => exact .tuple cs vs hs ih
    | func f p c ps cs hp hc h k ih ik => exact .func f p c ps cs hp hc ih ik
    | iface t x v h ih => exact .iface t x v ih
  exact key hR

/-- A law that answers true. -/
theorem FnM.law {f : FuncId} {args : List AV} (h : FnM P f [] args (.bool true) []) {w : World} {vs : Array Value} (hs : vs.size = args.length) (hr : ∀ i x, args[i]? = some x → RI w (fun b => b < w.heap.size) x (vs.getD i undef)) :
    Calls P f vs w fun e w' => e = .returned (.bool true) ∧ Below w.heap.size w w' :=
  (h.calls hs hr).mono fun e w' ⟨v, he, hb, hv⟩ => by cases hv; exact ⟨he, hb⟩

/-- The other way: a contract of the elder kind, for values without pointers. -/
theorem fnM_of {f : FuncId} {args : List AV} {r : AV} (hc : callable P f = true) (xs : List Value) (rv : Value) (ha : ∀ (w : World) (B : Nat → Prop) (vs : Array Value), vs.size = args.length → (∀ i x, args[i]? = some x → RI w B x (vs.getD i undef)) → vs = xs.toArray)
    (hr : ∀ (w : World) (B : Nat → Prop), RI w B r rv) (h : ∀ w, Calls P f xs.toArray w fun e w' => e = .returned rv ∧ Below w.heap.size w w') : FnM P f [] args r [] := by
  refine ⟨hc, fun B ρ w vs hF hs hv => ?_⟩
  have key : ∀ {x : AV} {v : Value}, Rep (Allow B w.heap.size) (memL []) ρ w x v → RI w (fun _ => True) x v := fun h => by
    induction h with
    | base h => exact h.mono (fun b hb => trivial) (fun _ _ _ => rfl)
    | ptr id off cs h => simp [memL] at h
    | ptrR id ver i off k es ver' a h => simp [memL] at h
    | slice id lo len ver k es ver' a n c h => simp [memL] at h
    | map id es h => simp [memL] at h
    | agg cs vs hs h ih => exact .agg cs vs hs ih
    | tuple cs vs hs h ih => exact .tuple cs vs hs ih
    | func f p c ps cs hp hc h k ih ik => exact .func f p c ps cs hp hc ih ik
    | iface t x v h ih => exact .iface t x v ih
  rw [ha w (fun _ => True) vs hs (fun i x hx => key (hv i x hx))]
  refine (h w).mono ?_
  rintro e w' ⟨rfl, hb⟩
  have nm : ∀ {i : Nat}, ¬ (memL [] i ≠ none) := fun h => h (by simp [memL])
  exact ⟨rv, ρ, rfl, ⟨hb.os, hb.tape, hb.output, hb.size, fun b hlt _ => hb.block b hlt, fun id hid => absurd hid nm, fun id b hb => by simp [memL] at hb⟩, ⟨fun i j hi => absurd hi nm, fun id b hb => by simp [memL] at hb⟩, .base (hr _ _)⟩

end

/-! ### What is owed -/

theorem bT {p : Prop} [Decidable p] (h : p) : AV.bool (decide p) = AV.bool true := by rw [decide_eq_true h]
theorem bF {p : Prop} [Decidable p] (h : ¬ p) : AV.bool (decide p) = AV.bool false := by rw [decide_eq_false h]
theorem eT {x y : Int} (h : x = y) : AV.bool (x == y) = AV.bool true := by rw [beq_iff_eq.2 h]
theorem eF {x y : Int} (h : x ≠ y) : AV.bool (x == y) = AV.bool false := by rw [beq_eq_false_iff_ne.2 h]
theorem nT {x y : Int} (h : x ≠ y) : AV.bool (x != y) = AV.bool true := by rw [bne_iff_ne.2 h]
theorem nF {x y : Int} (h : x = y) : AV.bool (x != y) = AV.bool false := by subst h; simp
theorem bB {x y : Bool} (h : x = y) : AV.bool x = AV.bool y := by rw [h]
theorem iI {k : IntKind} {x y : Int} (h : x = y) : AV.int k x = AV.int k y := by rw [h]
theorem iW {k : IntKind} {x y : Int} (h : k.wrap x = y) : AV.int k (k.wrap x) = AV.int k y := by rw [h]
theorem w64 {x : Int} (h1 : -9223372036854775808 ≤ x) (h2 : x ≤ 9223372036854775807) : IntKind.i64.wrap x = x := by simp [IntKind.wrap, IntKind.bits, IntKind.signed]; omega
theorem wu64 {x : Int} (h1 : 0 ≤ x) (h2 : x ≤ 18446744073709551615) : IntKind.u64.wrap x = x := by simp [IntKind.wrap, IntKind.bits, IntKind.signed]; omega
theorem wu32 {x : Int} (h1 : 0 ≤ x) (h2 : x ≤ 4294967295) : IntKind.u32.wrap x = x := by simp [IntKind.wrap, IntKind.bits, IntKind.signed]; omega
theorem wu16 {x : Int} (h1 : 0 ≤ x) (h2 : x ≤ 65535) : IntKind.u16.wrap x = x := by simp [IntKind.wrap, IntKind.bits, IntKind.signed]; omega
theorem wu8 {x : Int} (h1 : 0 ≤ x) (h2 : x ≤ 255) : IntKind.u8.wrap x = x := by simp [IntKind.wrap, IntKind.bits, IntKind.signed]; omega
end
end Go.Proofs.Ytglfbdicclepcaa
