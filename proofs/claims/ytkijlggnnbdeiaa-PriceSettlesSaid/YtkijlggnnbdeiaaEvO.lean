/- Regions that draw their order, from the text alone. For every program. -/
import Derived.Test.YtkijlggnnbdeiaaEvN
set_option linter.unusedVariables false
set_option linter.unusedSimpArgs false
namespace Go.Proofs.Ytkijlggnnbdeiaa
open Go.RowKit

def tmpOf : Operand → Option Nat
  | .tmp t => some t
  | _ => none
def rdOf (ops : List Oper) (o : Oper) : List Nat := o.op.operands.toList.filterMap tmpOf ++ (match o.guard with
  | some (j, _) => ((ops[j]?).bind (·.dst)).toList
  | none => [])
def fpOf (τ : Nat → AV) (o : Oper) : List Nat := o.op.operands.toList.flatMap fun x => idsOf (opd τ x)
def ahOf (masks : List Nat) (o : Oper) : Nat := (wts o).foldl (fun s k => s ||| 2 ^ k ||| masks.getD k 0) 0
def restr (fp : List Nat) (m : Mem) : Mem := fun id => if fp.contains id then m id else none

def dOk (st : St) (o : Oper) : Bool := match o.dst with
  | some d => Nat.blt d st.tmps.length
  | none => true

def evDrawStep (P : Program) (ops : List Oper) (masks : List Nat) (o : Oper) (s : Sup) (st : St) : Option (St × List Prop × Rec) :=
  if dOk st o && (wts o).all (fun j => Nat.blt j masks.length) then
    match wantedAV ops st.τ o with
    | some true => match evAny P o.op o.type st.τ (restr (fpOf st.τ o) (memL st.mem)) st.mem.length s with
      | some r => match applyR st.mem r with
        | some M => some ((St.mk st.tmps M).put o.dst r.v, r.ob, ⟨o.dst, r.v, r.wr, st.mem.length, r.ns, fpOf st.τ o, rdOf ops o, ahOf masks o⟩)
        | none => none
      | none => none
    | some false => some (st.put o.dst (.tuple []), [], ⟨o.dst, .tuple [], none, st.mem.length, [], [], rdOf ops o, ahOf masks o⟩)
    | none => none
  else none

def evDrawL (P : Program) (ops : List Oper) : List Nat → List Oper → List Sup → St → Option (St × List Sup × List Prop × List Rec)
  | _, [], ss, st => some (st, ss, [], [])
  | masks, o :: l, s :: ss, st => match evDrawStep P ops masks o s st with
    | some (st1, o1, r) => match evDrawL P ops (masks ++ [r.ah]) l ss st1 with
      | some (st2, ss2, o2, rs) => some (st2, ss2, o1 ++ o2, r :: rs)
      | none => none
    | none => none
  | _, _ :: _, [], _ => none

def chkOne (rk : Rec) : Nat → List Rec → Bool
  | _, [] => true
  | i, r :: rs => (Nat.testBit rk.ah i || indepB r rk) && chkOne rk (i + 1) rs
def chkAll (done : List Rec) : List Rec → Bool
  | [] => true
  | r :: rs => chkOne r 0 done && chkAll (done ++ [r]) rs

def evDraw (P : Program) (ops : List Oper) (ss : List Sup) (st : St) : Option (St × List Sup × List Prop) :=
  match evDrawL P ops [] ops ss st with
  | some (st', ss', ob, rs) => if chkAll [] rs then some (st', ss', ob) else none
  | none => none

theorem chkOne_get {rk : Rec} : ∀ (l : List Rec) (i : Nat), chkOne rk i l = true → ∀ j r, l[j]? = some r → Nat.testBit rk.ah (i + j) = true ∨ Indep r rk
  | [], _, _, j, r, h => by simp at h
  | x :: l, i, h, j, r, hj => by
    simp only [chkOne, Bool.and_eq_true, Bool.or_eq_true] at h
    cases j with
    | zero =>
      simp at hj; subst hj
      exact h.1.imp id indep_of
    | succ j =>
      have := chkOne_get l (i + 1) h.2 j r (by simpa using hj)
      rwa [show i + 1 + j = i + (j + 1) by omega] at this

theorem chkAll_get : ∀ (l done : List Rec), chkAll done l = true → ∀ i k a b, i < k → done.length ≤ k → (done ++ l)[i]? = some a → (done ++ l)[k]? = some b → Nat.testBit b.ah i = true ∨ Indep a b
  | [], done, _, i, k, a, b, _, hk, _, hb => by
    rw [List.append_nil, List.getElem?_eq_none hk] at hb; cases hb
  | r :: l, done, h, i, k, a, b, hik, hk, ha, hb => by
    simp only [chkAll, Bool.and_eq_true] at h
    by_cases he : k = done.length
    · subst he
      rw [List.getElem?_append_right (Nat.le_refl _)] at hb
      simp at hb; subst hb
      rw [List.getElem?_append_left hik] at ha
      simpa using chkOne_get done 0 h.1 i a ha
    · have := chkAll_get l (done ++ [r]) h.2 i k a b hik (by simp; omega)
      simp only [List.append_assoc, List.singleton_append] at this
      exact this ha hb

theorem foldl_bit (masks : List Nat) (j : Nat) : ∀ (l : List Nat) (s : Nat), Nat.testBit (l.foldl (fun s k => s ||| 2 ^ k ||| masks.getD k 0) s) j = true → Nat.testBit s j = true ∨ j ∈ l ∨ ∃ k ∈ l, Nat.testBit (masks.getD k 0) j = true
  | [], s, h => .inl h
  | k :: l, s, h => by
    rw [List.foldl_cons] at h
    rcases foldl_bit masks j l _ h with h | h | ⟨k', h1, h2⟩
    · simp only [Nat.testBit_or, Bool.or_eq_true] at h
      rcases h with (h | h) | h
      · exact .inl h
      · rw [Nat.testBit_two_pow] at h
        have : k = j := by simpa using h
        subst this; exact .inr (.inl (by simp))
      · exact .inr (.inr ⟨k, by simp, h⟩)
    · exact .inr (.inl (by simp [h]))
    · exact .inr (.inr ⟨k', by simp [h1], h2⟩)

theorem part_all : ∀ (l : List Rec) (i j : Nat) (s : (Nat → AV) × Mem), part (fun _ => true) i l s = part (fun _ => true) j l s
  | [], _, _, _ => rfl
  | r :: l, i, j, s => by rw [part, part]; exact part_all l _ _ _
theorem part_none : ∀ (l : List Rec) (i : Nat) (s : (Nat → AV) × Mem) (D : Nat → Bool), (∀ j, i ≤ j → D j = false) → part D i l s = s
  | [], _, _, _, _ => rfl
  | r :: l, i, s, D, h => by
    rw [part, h i (Nat.le_refl _)]
    exact part_none l (i + 1) s D (fun j hj => h j (by omega))

theorem part_blt (l : List Rec) (i : Nat) (s : (Nat → AV) × Mem) (hi : i ≤ l.length) : part (fun j => Nat.blt j i) 0 l s = part (fun _ => true) 0 (l.take i) s := by
  have hl : (l.take i).length = i := by simp; omega
  conv => lhs; rw [← List.take_append_drop i l]
  rw [part_append, hl]
  rw [part_none (l.drop i) (0 + i) _ (fun j => Nat.blt j i) (fun j hj => by
    rw [← Bool.not_eq_true]; intro h; have : j < i := Eq.mp Nat.blt_eq h; omega)]
  exact part_congr _ 0 s fun j _ h2 => by
    rw [hl] at h2
    exact Eq.mpr Nat.blt_eq (by omega)

section
variable {P : Program} {dd : List Deferred} {ro : Option Nat} {A : Nat → Prop} {ρ : Nat → Nat} {w : World} {a : Act}

theorem put_tau (st : St) (M : List Blk) (d : Option Nat) (v : AV) (h : ∀ t, d = some t → t < st.tmps.length) : ((St.mk st.tmps M).put d v).τ = fun t => if d = some t then v else st.τ t := by
  funext t
  cases d with
  | none => simp [St.put, St.τ]
  | some d =>
    have := h d rfl
    simp only [St.put, St.τ, List.getD_eq_getElem?_getD, List.getElem?_set]
    by_cases hd : d = t
    · subst hd; simp [this]
    · simp [hd]
theorem put_mem (st : St) (d : Option Nat) (v : AV) : (st.put d v).mem = st.mem := by cases d <;> rfl
theorem put_len (st : St) (d : Option Nat) (v : AV) : (st.put d v).tmps.length = st.tmps.length := by cases d <;> simp [St.put]

theorem drawStep_app {ops : List Oper} {masks : List Nat} {o : Oper} {s : Sup} {st st1 : St} {ob : List Prop} {r : Rec} (h : evDrawStep P ops masks o s st = some (st1, ob, r)) :
    (st1.τ, memL st1.mem) = r.app (st.τ, memL st.mem) ∧ st1.tmps.length = st.tmps.length ∧ r.ah = ahOf masks o ∧ r.d = o.dst ∧ r.rd = rdOf ops o := by
  unfold evDrawStep at h
  split at h
  · rename_i hc
    simp only [Bool.and_eq_true] at hc
    have hd : ∀ t, o.dst = some t → t < st.tmps.length := fun t ht => by
      have := hc.1
      unfold dOk at this
      rw [ht] at this
      exact Eq.mp Nat.blt_eq this
    split at h
    · split at h
      · split at h
        · rename_i r' hr M hM
          cases h
          refine ⟨?_, put_len _ _ _, rfl, rfl, rfl⟩
          rw [put_tau _ _ _ _ hd, put_mem]
          simp only [Rec.app, applyR_ok hM]
        · cases h
      · cases h
    · cases h
      refine ⟨?_, put_len _ _ _, rfl, rfl, rfl⟩
      rw [show st = St.mk st.tmps st.mem from rfl, put_tau _ _ _ _ hd, put_mem]
      simp only [Rec.app, updM_none]
    · cases h
  · cases h

theorem drawL_get {ops : List Oper} : ∀ (l : List Oper) (masks : List Nat) (ss : List Sup) (st st' : St) (ss' : List Sup) (ob : List Prop) (rs : List Rec), evDrawL P ops masks l ss st = some (st', ss', ob, rs) → AllP ob →
    rs.length = l.length ∧ (st'.τ, memL st'.mem) = part (fun _ => true) 0 rs (st.τ, memL st.mem) ∧ st'.tmps.length = st.tmps.length ∧
    ∀ i o, l[i]? = some o → ∃ sti s st1 ob1 r, rs[i]? = some r ∧ (sti.τ, memL sti.mem) = part (fun _ => true) 0 (rs.take i) (st.τ, memL st.mem) ∧ sti.tmps.length = st.tmps.length ∧
      evDrawStep P ops (masks ++ (rs.take i).map Rec.ah) o s sti = some (st1, ob1, r) ∧ AllP ob1 := by
  intro l
  induction l with
  | nil =>
    intro masks ss st st' ss' ob rs h _
    simp only [evDrawL] at h
    cases h
    exact ⟨rfl, rfl, rfl, fun i o hi => by simp at hi⟩
  | cons o l ih =>
    intro masks ss st st' ss' ob rs h hob
    cases ss with
    | nil => simp [evDrawL] at h
    | cons s ss =>
      simp only [evDrawL] at h
      split at h
      · rename_i st1 o1 r h1
        split at h
        · rename_i st2 ss2 o2 rs2 h2
          cases h
          obtain ⟨hob1, hob2⟩ := AllP.append hob
          obtain ⟨e1, e2, e3, e4⟩ := ih _ _ _ _ _ _ _ h2 hob2
          obtain ⟨a1, a2, _, _, _⟩ := drawStep_app h1
          refine ⟨by simp [e1], ?_, by omega, fun i o' hi => ?_⟩
          · rw [part]
            simp only [if_true]
            rw [← a1, part_all rs2 (0 + 1) 0]
            exact e2
          · cases i with
            | zero =>
              simp at hi; subst hi
              exact ⟨st, s, st1, o1, r, rfl, rfl, rfl, by simpa using h1, hob1⟩
            | succ i =>
              obtain ⟨sti, s', st1', ob1, r', b1, b2, b3, b4, b5⟩ := e4 i o' (by simpa using hi)
              refine ⟨sti, s', st1', ob1, r', by simpa using b1, ?_, by omega, ?_, b5⟩
              · rw [List.take_succ_cons, part]
                simp only [if_true]
                rw [← a1, part_all (rs2.take i) (0 + 1) 0]
                exact b2
              · simpa [List.append_assoc] using b4
        · cases h
      · cases h

structure DInv (dd : List Deferred) (A : Nat → Prop) (ops : Array Oper) (st : St) (rs : List Rec) (ρ0 : Nat → Nat) (w0 : World) (D : Nat → Bool) (a : Act) (w : World) : Prop where
  closed : ∀ i o, ops[i]? = some o → D i = true → ∀ j ∈ wts o, D j = true
  size : a.tmps.size = st.tmps.length
  df : a.defers = dd
  ex : ∃ ρ, Fits A (part D 0 rs (st.τ, memL st.mem)).2 ρ w ∧ Ext (memL st.mem) ρ0 w0 (part D 0 rs (st.τ, memL st.mem)).2 ρ w ∧ ∀ t, Rep A (part D 0 rs (st.τ, memL st.mem)).2 ρ w ((part D 0 rs (st.τ, memL st.mem)).1 t) (a.eval (.tmp t))

theorem put_eval (a : Act) (d : Option Nat) (v : Value) (t : Nat) (h : ∀ t, d = some t → t < a.tmps.size) : (a.put d v).eval (.tmp t) = if d = some t then v else a.eval (.tmp t) := by
  cases d with
  | none => simp [Act.put]
  | some d =>
    have := h d rfl
    simp only [Act.put, Act.eval, Array.getD_eq_getD_getElem?, Array.getElem?_setIfInBounds]
    by_cases hd : d = t
    · subst hd; simp [this]
    · simp [hd]

theorem draw_ok {id : Nat} {ops : Array Oper} {ss ss' : List Sup} {st st' : St} {ob : List Prop} {Q : Exit → Act → World → Prop} (hm : P.follows .mixedOrders = true) (he : evDraw P ops.toList ss st = some (st', ss', ob)) (hob : AllP ob) (hR : RS dd A ρ st a w) (hup : ∀ b, w.heap.size ≤ b → A b)
    (hQ : ∀ a' ρ' w', RS dd A ρ' st' a' w' → Ext (memL st.mem) ρ w (memL st'.mem) ρ' w' → Q .normal a' w') : (Code.region id ops true).wpIn (FR ro) 0 P Q a w := by
  unfold evDraw at he
  split at he
  · rename_i st2 ss2 ob2 rs hL
    split at he
    · rename_i hchk
      cases he
      obtain ⟨hlen, hfin, htl, hget⟩ := drawL_get _ _ _ _ _ _ _ _ hL hob
      have hget' := fun (i : Nat) (o : Oper) (hi : ops[i]? = some o) => hget i o (by simpa using hi)
      have hpair : ∀ (i k : Nat) (a b : Rec), i < k → rs[i]? = some a → rs[k]? = some b → Nat.testBit b.ah i = true ∨ Indep a b := fun i k a b hik ha hb => chkAll_get rs [] hchk i k a b hik (Nat.zero_le _) ha hb
      have hwf : ∀ i o, ops[i]? = some o → ∀ j ∈ wts o, j < i := fun i o hi j hj => by
        obtain ⟨sti, s, st1, ob1, r, b1, b2, b3, b4, b5⟩ := hget' i o hi
        unfold evDrawStep at b4
        split at b4
        · rename_i hc
          simp only [Bool.and_eq_true] at hc
          have := List.all_eq_true.1 hc.2 j hj
          have h3 : j < ([] ++ (rs.take i).map Rec.ah).length := Eq.mp Nat.blt_eq this
          simp at h3; omega
        · cases b4
      have hmask : ∀ D : Nat → Bool, (∀ i o, ops[i]? = some o → D i = true → ∀ j ∈ wts o, D j = true) → ∀ (i : Nat) (o : Oper) (r : Rec), ops[i]? = some o → rs[i]? = some r → (∀ j ∈ wts o, D j = true) → ∀ j, Nat.testBit r.ah j = true → D j = true := by
        intro D hcl i
        induction i using Nat.strongRecOn with
        | ind i ih =>
          intro o r hi hr hw j hj
          obtain ⟨sti, s, st1, ob1, r', b1, b2, b3, b4, b5⟩ := hget' i o hi
          rw [hr] at b1; cases b1
          rw [(drawStep_app b4).2.2.1] at hj
          rcases foldl_bit _ j _ _ hj with h | h | ⟨k, h1, h2⟩
          · simp at h
          · exact hw j h
          · have hki := hwf i o hi k h1
            have hio : i < ops.size := (Array.getElem?_eq_some_iff.1 hi).1
            have hko : ops[k]? = some ops[k] := by simp [show k < ops.size by omega]
            have hkl : k < rs.length := by simp at hlen; omega
            obtain ⟨rk, hrk⟩ : ∃ rk, rs[k]? = some rk := ⟨rs[k], List.getElem?_eq_getElem hkl⟩
            have h3 : ([] ++ (rs.take i).map Rec.ah).getD k 0 = rk.ah := by
              rw [List.nil_append, List.getD_eq_getElem?_getD, List.getElem?_map, List.getElem?_take, if_pos hki, hrk]; rfl
            rw [h3] at h2
            exact ih k hki ops[k] _ hko hrk (hcl k _ hko (hw k h1)) j h2
      refine region_any (DInv dd A ops st rs ρ w) hm hwf ?_ ?_ ?_
      · refine ⟨fun i o _ h => (by cases h), hR.size, hR.df, ρ, ?_⟩
        rw [part_none rs 0 _ (fun _ => false) (fun _ _ => rfl)]
        exact ⟨drew_fits hR.fits, drew_ext _ _ _, fun t => (hR.eval t).mono (drew_ext _ _ _)⟩
      · intro i o hi D a1 w1 hI hDi hw
        obtain ⟨sti, s, st1, ob1, r, b1, b2, b3, b4, b5⟩ := hget' i o hi
        obtain ⟨a1', a2', a3', a4', a5'⟩ := drawStep_app b4
        obtain ⟨ρ1, hF1, hE1, hr1⟩ := hI.ex
        have hil : i < rs.length := (List.getElem?_eq_some_iff.1 b1).1
        have hto : part (fun j => Nat.blt j i) 0 rs (st.τ, memL st.mem) = (sti.τ, memL sti.mem) := by rw [part_blt _ _ _ (by omega), b2]
        have hlow : ∀ (k : Nat) (rk : Rec), rs[k]? = some rk → k < i → D k = false → Indep rk r := fun k rk hk hki hDk => by
          rcases hpair k i rk r hki hk b1 with h | h
          · have := hmask D hI.closed i o r hi b1 hw k h
            rw [hDk] at this; cases this
          · exact h
        have hhigh : ∀ (k : Nat) (rk : Rec), rs[k]? = some rk → i < k → D k = true → Indep r rk := fun k rk hk hki hDk => by
          rcases hpair i k r rk hki b1 hk with h | h
          · have hko : k < ops.size := by have := (List.getElem?_eq_some_iff.1 hk).1; simp at hlen; omega
            have hk' : ops[k]? = some ops[k] := by simp [hko]
            have := hmask D hI.closed k ops[k] rk hk' hk (hI.closed k _ hk' hDk) i h
            rw [hDi] at this; cases this
          · exact h
        have blt_lt : ∀ {j}, j < i → Nat.blt j i = true := fun h => Eq.mpr Nat.blt_eq h
        have blt_ge : ∀ {j}, i ≤ j → Nat.blt j i = false := fun h => by rw [← Bool.not_eq_true]; intro h2; have : _ < i := Eq.mp Nat.blt_eq h2; omega
        have agreeM : ∀ q, (q ∈ r.fp ∨ r.hits q) → (part D 0 rs (st.τ, memL st.mem)).2 q = memL sti.mem q := fun q hq => by
          have := part_mem2 (D := D) (D' := fun j => Nat.blt j i) (id := q) rs 0 (st.τ, memL st.mem) (st.τ, memL st.mem) rfl (fun k rk hk => by
            rw [Nat.zero_add]
            rcases Nat.lt_trichotomy k i with h | h | h
            · cases hd : D k with
              | true => exact .inl (blt_lt h).symm
              | false =>
                refine .inr fun hh => ?_
                have := (hlow k rk hk h hd).m1 q hh
                rcases hq with hq | hq
                · exact this.1 hq
                · exact this.2 hq
            · subst h; exact .inl (by rw [hDi, blt_ge (Nat.le_refl _)])
            · cases hd : D k with
              | false => exact .inl (blt_ge (by omega)).symm
              | true =>
                refine .inr fun hh => ?_
                have hin := hhigh k rk hk h hd
                rcases hq with hq | hq
                · exact hin.m2 q hh hq
                · exact (hin.m1 q hq).2 hh)
          rw [this, hto]
        have agreeT : ∀ t, t ∈ r.rd → (part D 0 rs (st.τ, memL st.mem)).1 t = sti.τ t := fun t ht => by
          have := part_tmp2 (D := D) (D' := fun j => Nat.blt j i) (t := t) rs 0 (st.τ, memL st.mem) (st.τ, memL st.mem) rfl (fun k rk hk => by
            rw [Nat.zero_add]
            rcases Nat.lt_trichotomy k i with h | h | h
            · cases hd : D k with
              | true => exact .inl (blt_lt h).symm
              | false => exact .inr fun hh => ((hlow k rk hk h hd).d1 t hh).1 ht
            · subst h; exact .inl (by rw [hDi, blt_ge (Nat.le_refl _)])
            · cases hd : D k with
              | false => exact .inl (blt_ge (by omega)).symm
              | true => exact .inr fun hh => (hhigh k rk hk h hd).d2 t hh ht)
          rw [this, hto]
        have hnext : part (updE D i) 0 rs (st.τ, memL st.mem) = r.app (part D 0 rs (st.τ, memL st.mem)) := by
          have hsplit : rs = rs.take i ++ r :: rs.drop (i + 1) := by
            have h1 : rs[i] = r := (List.getElem?_eq_some_iff.1 b1).2
            rw [← h1, List.getElem_cons_drop, List.take_append_drop]
          have htl2 : (rs.take i).length = i := by simp; omega
          have hk2 : ∀ j (x : Rec), (rs.drop (i + 1))[j]? = some x → rs[i + 1 + j]? = some x := fun j x hx => by rwa [List.getElem?_drop] at hx
          have e1 : part (updE D i) 0 (rs.take i) (st.τ, memL st.mem) = part D 0 (rs.take i) (st.τ, memL st.mem) := part_congr _ 0 _ fun j _ h2 => updE_ne D (by omega)
          have e2 : ∀ q, part (updE D i) (i + 1) (rs.drop (i + 1)) q = part D (i + 1) (rs.drop (i + 1)) q := fun q => part_congr _ _ _ fun j h1 _ => updE_ne D (by omega)
          conv => lhs; rw [hsplit]
          conv => rhs; rw [hsplit]
          rw [part_append, part_append, htl2, Nat.zero_add, part, part, updE_same, hDi, e1]
          simp only [if_true, Bool.false_eq_true, if_false]
          rw [e2]
          exact part_ahead _ _ _ fun j x hx hd => hhigh _ x (hk2 j x hx) (by omega) hd
        have hcl : ∀ k o', ops[k]? = some o' → updE D i k = true → ∀ j ∈ wts o', updE D i j = true := fun k o' hk hd j hj => by
          by_cases hki : k = i
          · subst hki
            rw [hi] at hk; cases hk
            exact updE_le D (hw j hj)
          · rw [updE_ne D hki] at hd
            exact updE_le D (hI.closed k o' hk hd j hj)
        have hdlt : ∀ t, o.dst = some t → t < a1.tmps.size := fun t ht => by
          unfold evDrawStep at b4
          split at b4
          · rename_i hc
            simp only [Bool.and_eq_true] at hc
            have := hc.1
            unfold dOk at this
            rw [ht] at this
            have q1 : t < sti.tmps.length := Eq.mp Nat.blt_eq this
            have q2 := hI.size
            rw [q2, ← b3]; exact q1
          · cases b4
        have hgd : ∀ j c t, o.guard = some (j, c) → (ops[j]?).bind (·.dst) = some t → Rep A (part D 0 rs (st.τ, memL st.mem)).2 ρ1 w1 (sti.τ t) (a1.eval (.tmp t)) := fun j c t hg ht => by
          rw [← agreeT t (by rw [a5']; simp only [rdOf, hg]; simp [ht])]
          exact hr1 t
        have hfinish : ∀ (v : Value) (ρ2 : Nat → Nat) (w2 : World), Ext (part D 0 rs (st.τ, memL st.mem)).2 ρ1 w1 (r.app (part D 0 rs (st.τ, memL st.mem))).2 ρ2 w2 → Fits A (r.app (part D 0 rs (st.τ, memL st.mem))).2 ρ2 w2 → Rep A (r.app (part D 0 rs (st.τ, memL st.mem))).2 ρ2 w2 r.v v →
            DInv dd A ops st rs ρ w (updE D i) (a1.put o.dst v) w2 := fun v ρ2 w2 h1 h2 h3 => by
          refine ⟨hcl, by cases o.dst <;> simp [Act.put, hI.size], by cases o.dst <;> exact hI.df, ρ2, ?_⟩
          rw [hnext]
          refine ⟨h2, hE1.trans h1, fun t => ?_⟩
          rw [put_eval _ _ _ _ hdlt]
          simp only [Rec.app]
          rw [a4']
          split
          · exact h3
          · exact (hr1 t).mono h1
        unfold wpOpIn
        rw [hi]
        have b4' := b4
        unfold evDrawStep at b4
        split at b4
        · split at b4
          · rename_i hwn
            have hwn' := wanted_ok (ops := ops) hgd hwn
            split at b4
            · rename_i rr hrr
              split at b4
              · rename_i M hM
                cases b4
                simp only [hwn', if_true]
                have hlook : ∀ q b, restr (fpOf sti.τ o) (memL sti.mem) q = some b → (part D 0 rs (st.τ, memL st.mem)).2 q = some b := fun q b hq => by
                  unfold restr at hq
                  split at hq
                  · rename_i hc
                    rw [agreeM q (.inl (by simpa using hc))]; exact hq
                  · cases hq
                have hup1 : ∀ b, w1.heap.size ≤ b → A b := up_ext hE1 hup
                refine any_ok hF1 hup1 hlook (fun j hj => ?_) hrr b5 (fun x hx => ?_) _ _ _ fun v ρ2 w2 h1 h2 h3 => hfinish v ρ2 w2 h1 h2 h3
                · rw [agreeM _ (.inr (.inr ⟨Nat.le_add_right _ _, Nat.add_lt_add_left hj _⟩))]
                  exact memL_out _ _
                · refine rep_opd fun t ht => ?_
                  subst ht
                  rw [← agreeT t (by rw [a5']; simp only [rdOf]; exact List.mem_append_left _ (List.mem_filterMap.2 ⟨.tmp t, by simpa using hx, rfl⟩))]
                  exact hr1 t
              · cases b4
            · cases b4
          · rename_i hwn
            have hwn' := wanted_ok (ops := ops) hgd hwn
            cases b4
            simp only [hwn', Bool.false_eq_true, if_false]
            refine ⟨fun _ _ => trivial, hfinish undef ρ1 w1 ?_ ?_ (.base (.tuple [] #[] rfl (fun i c hc => by simp at hc)))⟩
            · simp only [Rec.app, updM_none]; exact .refl _ _ _
            · simp only [Rec.app, updM_none]; exact hF1
          · cases b4
        · cases b4
      · intro D a1 w1 hD hI
        obtain ⟨ρ1, hF1, hE1, hr1⟩ := hI.ex
        have hall : part D 0 rs (st.τ, memL st.mem) = (st'.τ, memL st'.mem) := by
          rw [hfin]
          exact part_congr _ 0 _ fun j _ h2 => hD j (by simp at hlen; omega)
        rw [hall] at hF1 hE1 hr1
        refine hQ a1 ρ1 w1 ⟨hF1, by rw [hI.size]; exact htl.symm, hI.df, fun t v hv => ?_⟩ hE1
        have := hr1 t
        simp only [St.τ, List.getD_eq_getElem?_getD, hv, Option.getD_some] at this
        exact this
    · cases he
  · cases he

end
end Go.Proofs.Ytkijlggnnbdeiaa
