/- A region that draws its order, by one invariant over what has been carried out: each operation is looked at once. For every program. -/
import Derived.WalkKit
import Derived.RegionTactic
import Derived.Deep.RegionHeld
set_option linter.unusedVariables false
set_option linter.unusedSimpArgs false
namespace Go.Proofs.Ytlokjiniigfaiaa
open Go.RowKit

/-- What has been carried out, and one more. -/
def upd (D : Nat → Bool) (i : Nat) (j : Nat) : Bool := Nat.beq j i || D j
/-- The values of the region's slots, one changed. -/
def supd (s : Nat → Value) (d : Nat) (v : Value) (t : Nat) : Value := bif Nat.beq t d then v else s t
def supo (s : Nat → Value) : Option Tmp → Value → Nat → Value
  | none, _ => s
  | some d, v => supd s d v

def waits (o : Oper) : List Nat := (o.after.toList.filter (Region.binds .any)).map (·.on)

def DAll (D : Nat → Bool) : List Nat → Prop
  | [] => True
  | j :: l => D j = true ∧ DAll D l

theorem dall_iff (D : Nat → Bool) : ∀ l, DAll D l ↔ ∀ j ∈ l, D j = true
  | [] => by simp [DAll]
  | j :: l => by simp [DAll, dall_iff D l]

/-- Each operation waits for earlier ones alone. -/
def wfOps (ops : Array Oper) : Bool := (List.range ops.size).all fun i => match ops[i]? with | none => true | some o => (waits o).all fun j => Nat.blt j i

def putAll (a : Act) (s : Nat → Value) : List Nat → Act
  | [] => a
  | d :: l => putAll (a.put (some d) (s d)) s l

theorem put_eval (a : Act) (d : Nat) (v : Value) (t : Nat) (h : t ≠ d) : (a.put (some d) v).eval (.tmp t) = a.eval (.tmp t) := by
  simp [Act.put, Act.eval, Array.getD_eq_getD_getElem?, Array.getElem?_setIfInBounds_ne (Ne.symm h)]
theorem put_eval_self (a : Act) (d : Nat) (v : Value) (h : d < a.tmps.size) : (a.put (some d) v).eval (.tmp d) = v := by
  simp [Act.put, Act.eval, Array.getD_eq_getD_getElem?, h]
theorem put_size (a : Act) (d : Option Tmp) (v : Value) : (a.put d v).tmps.size = a.tmps.size := by cases d <;> simp [Act.put]
theorem put_put (a : Act) (d : Nat) (u v : Value) : (a.put (some d) u).put (some d) v = a.put (some d) v := by simp [Act.put]
theorem put_comm (a : Act) (d e : Nat) (u v : Value) (h : d ≠ e) : (a.put (some d) u).put (some e) v = (a.put (some e) v).put (some d) u := by
  simp [Act.put, Array.setIfInBounds_comm _ _ h]
theorem put_self (a : Act) (d : Nat) : a.put (some d) (a.eval (.tmp d)) = a := by
  cases a with
  | mk t df =>
    simp only [Act.put, Act.eval, Act.mk.injEq, and_true]
    apply Array.ext
    · simp
    · intro i h1 h2
      rw [Array.getElem_setIfInBounds h2]
      split
      · subst_vars; simp [Array.getD_eq_getD_getElem?, h2]
      · rfl

theorem putAll_size (s : Nat → Value) : ∀ (l : List Nat) (a : Act), (putAll a s l).tmps.size = a.tmps.size
  | [], _ => rfl
  | d :: l, a => by rw [putAll, putAll_size s l, put_size]
theorem putAll_other (s : Nat → Value) (t : Nat) : ∀ (l : List Nat) (a : Act), t ∉ l → (putAll a s l).eval (.tmp t) = a.eval (.tmp t)
  | [], _, _ => rfl
  | d :: l, a, h => by
    simp only [List.mem_cons, not_or] at h
    rw [putAll, putAll_other s t l _ h.2, put_eval _ _ _ _ h.1]
theorem putAll_in (s : Nat → Value) (t : Nat) : ∀ (l : List Nat) (a : Act), t ∈ l → t < a.tmps.size → (putAll a s l).eval (.tmp t) = s t
  | [], _, h, _ => by cases h
  | d :: l, a, h, ht => by
    rw [putAll]
    by_cases hl : t ∈ l
    · exact putAll_in s t l _ hl (by rw [put_size]; exact ht)
    · rw [putAll_other s t l _ hl]
      rcases List.mem_cons.1 h with rfl | h
      · exact put_eval_self _ _ _ ht
      · exact absurd h hl
theorem putAll_congr {s s' : Nat → Value} : ∀ (l : List Nat) (a : Act), (∀ t ∈ l, s t = s' t) → putAll a s l = putAll a s' l
  | [], _, _ => rfl
  | d :: l, a, h => by rw [putAll, putAll, h d (by simp), putAll_congr l _ (fun t ht => h t (by simp [ht]))]
theorem putAll_put_out (s : Nat → Value) (d : Nat) (v : Value) : ∀ (l : List Nat) (a : Act), d ∉ l → (putAll a s l).put (some d) v = putAll (a.put (some d) v) s l
  | [], _, _ => rfl
  | e :: l, a, h => by
    simp only [List.mem_cons, not_or] at h
    rw [putAll, putAll, putAll_put_out s d v l _ h.2, put_comm _ _ _ _ _ (Ne.symm h.1)]
theorem beq_no {t d : Nat} (h : t ≠ d) : Nat.beq t d = false := by rw [← Bool.not_eq_true]; exact fun e => h (Nat.eq_of_beq_eq_true e)
theorem supd_self (s : Nat → Value) (d : Nat) (v : Value) : supd s d v d = v := by simp [supd]
theorem supd_ne (s : Nat → Value) (d : Nat) (v : Value) (t : Nat) (h : t ≠ d) : supd s d v t = s t := by simp [supd, beq_no h]
theorem putAll_put_in (s : Nat → Value) (d : Nat) (v : Value) : ∀ (l : List Nat) (a : Act), d ∈ l → l.Nodup → (putAll a s l).put (some d) v = putAll a (supd s d v) l
  | [], _, h, _ => by cases h
  | e :: l, a, h, hn => by
    have hn := List.nodup_cons.1 hn
    rcases List.mem_cons.1 h with rfl | h
    · rw [putAll, putAll, putAll_put_out s d v l _ hn.1, put_put, supd_self]
      exact putAll_congr l _ fun t ht => (supd_ne s d v t (fun e => hn.1 (e ▸ ht))).symm
    · rw [putAll, putAll, putAll_put_in s d v l _ h hn.2, supd_ne s d v e (fun e' => hn.1 (e' ▸ h))]
theorem putAll_self (a : Act) : ∀ (l : List Nat), putAll a (fun t => a.eval (.tmp t)) l = a
  | [] => rfl
  | d :: l => by rw [putAll, put_self, putAll_self a l]

section
variable {P : Program} {ops : Array Oper} {Q : Exit → Act → World → Prop}

/-- The steps that are owed, one for each operation. -/
def FSteps (P : Program) (ops : Array Oper) (Q : Exit → Act → World → Prop) (a : Act) (ds : List Nat) (F : (Nat → Bool) → (Nat → Value) → World → Prop) (rs : List Nat) : Prop :=
  ∀ i ∈ rs, ∀ o, ops[i]? = some o → ∀ D s W, D i = false → DAll D (waits o) → F D s W → wpOp P ops Q i (fun a' W' => ∃ s', a' = putAll a s' ds ∧ F (upd D i) s' W') (putAll a s ds) W

theorem getD_is (b : Act) (t : Nat) : b.eval (.tmp t) = b.tmps[t]?.getD undef := by
  show b.tmps.getD t undef = _
  rw [Array.getD_eq_getD_getElem?]

/-- What a step may use of the act at hand. -/
structure ActIs (a : Act) (ds : List Nat) (s : Nat → Value) (b : Act) : Prop where
  i : ∀ t, ds.contains t = true → Nat.blt t a.tmps.size = true → b.tmps[t]?.getD undef = s t
  o : ∀ t, ds.contains t = false → b.tmps[t]?.getD undef = a.eval (.tmp t)

variable {a : Act} {ds : List Nat} {F : (Nat → Bool) → (Nat → Value) → World → Prop}

theorem actIs (s : Nat → Value) : ActIs a ds s (putAll a s ds) :=
  ⟨fun t h ht => (getD_is _ t).symm.trans (putAll_in s t ds a (by simpa using h) (Eq.mp Nat.blt_eq ht)), fun t h => (getD_is _ t).symm.trans (putAll_other s t ds a (by simpa using h))⟩

theorem FSteps.nil : FSteps P ops Q a ds F [] := fun _ h => by cases h

/-- The next act. -/
def dstIn (ds : List Nat) : Option Tmp → Bool
  | none => true
  | some d => ds.contains d

theorem next_act (hn : ds.Nodup) (s : Nat → Value) (d : Option Tmp) (h : dstIn ds d = true) (v : Value) : (putAll a s ds).put d v = putAll a (supo s d v) ds := by
  cases d with
  | none => rfl
  | some d => exact putAll_put_in s d v ds a (by simpa [dstIn] using h) hn

def nodupB : List Nat → Bool
  | [] => true
  | d :: l => !l.contains d && nodupB l
theorem nodup_of : ∀ {l : List Nat}, nodupB l = true → l.Nodup
  | [], _ => List.nodup_nil
  | d :: l, h => by
    simp only [nodupB, Bool.and_eq_true, Bool.not_eq_true'] at h
    exact List.nodup_cons.2 ⟨by simpa using h.1, nodup_of h.2⟩

/-- An operation without a guard. -/
theorem FSteps.op {i : Nat} {o : Oper} {rs dv : List Nat} (ho : ops[i]? = some o) (hd : waits o = dv) (hg : o.guard = none) (hin : dstIn ds o.dst = true) (hn : nodupB ds = true)
    (h : ∀ D s W b (K : Act → World → Prop), D i = false → DAll D dv → F D s W → ActIs a ds s b → Shut (∀ v W', F (upd D i) (supo s o.dst v) W' → K (b.put o.dst v) W') → Oper.wp P o b W K Q)
    (hs : FSteps P ops Q a ds F rs) : FSteps P ops Q a ds F (i :: rs) := fun j hj o' ho' D s W hD hW hF => by
  rcases List.mem_cons.1 hj with rfl | hj
  · obtain rfl : o = o' := by rw [ho] at ho'; cases ho'; rfl
    refine wpOp_step ho fun K' hK => ?_
    rw [if_pos (by simp [Region.wanted, hg])]
    refine h D s W _ K' hD (hd ▸ hW) hF (actIs s) fun v W' hF' => hK _ _ ⟨_, next_act (nodup_of hn) s o.dst hin v, hF'⟩
  · exact hs j hj o' ho' D s W hD hW hF

theorem yielded_is {b : Act} {j d : Nat} {bv : Bool} (hj : (ops[j]?).bind (·.dst) = some d) (h : b.eval (.tmp d) = .bool bv) : yielded ops b.tmps j = some bv := by
  have hh : b.tmps.getD d undef = .bool bv := h
  have : b.tmps[d]? = some (.bool bv) := by
    rw [Array.getD_eq_getD_getElem?] at hh
    cases hx : b.tmps[d]? with
    | none => rw [hx] at hh; cases hh
    | some v => rw [hx] at hh; rw [← hh]; rfl
  simp [yielded, hj, this]

/-- An operation whose guard says yes. -/
theorem FSteps.yes {i : Nat} {o : Oper} {rs dv : List Nat} {j d : Nat} {bv : Bool} (ho : ops[i]? = some o) (hd : waits o = dv) (hg : o.guard = some (j, bv)) (hj : (ops[j]?).bind (·.dst) = some d) (hdi : ds.contains d = true)
    (hsz : Nat.blt d a.tmps.size = true) (hf : ∀ D s W, DAll D dv → F D s W → s d = .bool bv) (hin : dstIn ds o.dst = true) (hn : nodupB ds = true)
    (h : ∀ D s W b (K : Act → World → Prop), D i = false → DAll D dv → F D s W → ActIs a ds s b → Shut (∀ v W', F (upd D i) (supo s o.dst v) W' → K (b.put o.dst v) W') → Oper.wp P o b W K Q)
    (hs : FSteps P ops Q a ds F rs) : FSteps P ops Q a ds F (i :: rs) := fun j' hj' o' ho' D s W hD hW hF => by
  rcases List.mem_cons.1 hj' with rfl | hj'
  · obtain rfl : o = o' := by rw [ho] at ho'; cases ho'; rfl
    refine wpOp_step ho fun K' hK => ?_
    have hy := yielded_is (b := putAll a s ds) hj ((getD_is _ d).trans (((actIs s).i d hdi hsz).trans (hf D s W (hd ▸ hW) hF)))
    rw [if_pos (by simp [Region.wanted, hg, hy])]
    refine h D s W _ K' hD (hd ▸ hW) hF (actIs s) fun v W' hF' => hK _ _ ⟨_, next_act (nodup_of hn) s o.dst hin v, hF'⟩
  · exact hs j' hj' o' ho' D s W hD hW hF

/-- An operation whose guard says no. -/
theorem FSteps.no {i : Nat} {o : Oper} {rs dv : List Nat} {j d : Nat} {bv : Bool} (ho : ops[i]? = some o) (hd : waits o = dv) (hg : o.guard = some (j, bv)) (hj : (ops[j]?).bind (·.dst) = some d) (hdi : ds.contains d = true)
    (hsz : Nat.blt d a.tmps.size = true) (hf : ∀ D s W, DAll D dv → F D s W → s d = .bool (!bv)) (hin : dstIn ds o.dst = true) (hn : nodupB ds = true)
    (h : ∀ D s W, D i = false → F D s W → F (upd D i) (supo s o.dst undef) W)
    (hs : FSteps P ops Q a ds F rs) : FSteps P ops Q a ds F (i :: rs) := fun j' hj' o' ho' D s W hD hW hF => by
  rcases List.mem_cons.1 hj' with rfl | hj'
  · obtain rfl : o = o' := by rw [ho] at ho'; cases ho'; rfl
    refine wpOp_step ho fun K' hK => ?_
    have hy := yielded_is (b := putAll a s ds) hj ((getD_is _ d).trans (((actIs s).i d hdi hsz).trans (hf D s W (hd ▸ hW) hF)))
    rw [if_neg (by simp [Region.wanted, hg, hy])]
    exact hK _ _ ⟨_, next_act (nodup_of hn) s o.dst hin undef, h D s W hD hF⟩
  · exact hs j' hj' o' ho' D s W hD hW hF

theorem ready_nil (hwf : wfOps ops = true) {listed : Array Bool} (hr : Region.ready .any ops listed = []) : ∀ i, i < ops.size → listed.getD i true = true := by
  intro i
  induction i using Nat.strongRecOn with
  | ind i ih =>
    intro hi
    rcases hb : listed.getD i true with _ | _
    · exfalso
      have : i ∈ Region.ready .any ops listed := by
        rw [mem_ready]
        refine ⟨hb, ops[i], by simp [hi], fun e he hbd => ?_⟩
        have h1 := List.all_eq_true.1 hwf i (by simpa using hi)
        simp only [Array.getElem?_eq_getElem hi, List.all_eq_true, waits, List.mem_map, List.mem_filter] at h1
        have h2 : e.on < i := Eq.mp Nat.blt_eq (h1 e.on ⟨e, ⟨by simpa using he, hbd⟩, rfl⟩)
        have h3 := ih e.on h2 (by omega)
        rcases Nat.lt_or_ge e.on listed.size with h4 | h4
        · simpa [h4] using h3
        · have h5 : listed.size ≤ i := by omega
          simp [Array.getElem?_eq_none h5] at hb
      rw [hr] at this
      cases this
    · rfl

def nope (listed : Array Bool) : Nat := listed.toList.countP (fun b => !b)

theorem nope_set (listed : Array Bool) (i : Nat) (h : listed.getD i true = false) : nope (listed.setIfInBounds i true) + 1 = nope listed := by
  have hi : i < listed.size := by
    rcases Nat.lt_or_ge i listed.size with h1 | h1
    · exact h1
    · simp [Array.getElem?_eq_none h1] at h
  have hv : listed.toList[i]'(by simpa using hi) = false := by simpa [hi] using h
  unfold nope
  rw [Array.toList_setIfInBounds, List.countP_set (by simpa using hi), hv]
  have : 0 < listed.toList.countP (fun b => !b) := List.countP_pos_iff.2 ⟨false, by rw [← hv]; exact List.getElem_mem _, rfl⟩
  rw [if_pos (show (!false) = true from rfl), if_neg (show ¬ (!true) = true by decide)]
  omega

theorem wpAny_facts (hwf : wfOps ops = true) {rs : List Nat} (hrs : List.range ops.size = rs) (hs : FSteps P ops Q a ds F rs)
    (hend : ∀ D s W, DAll D rs → F D s W → Q .normal (putAll a s ds) W) :
    ∀ (fuel : Nat) (listed : Array Bool) (s : Nat → Value) (W : World), listed.size = ops.size → nope listed ≤ fuel → F (fun j => listed.getD j false) s W → wpAny P .any ops Q fuel listed (putAll a s ds) W := by
  have key : ∀ (listed : Array Bool) (s : Nat → Value) (W : World), listed.size = ops.size → Region.ready .any ops listed = [] → F (fun j => listed.getD j false) s W → Q .normal (putAll a s ds) W := by
    intro listed s W hsz hr hF
    refine hend _ s W ((dall_iff _ _).2 fun j hj => ?_) hF
    have hj' : j < ops.size := by rw [← hrs] at hj; simpa using hj
    have := ready_nil hwf hr j hj'
    have h4 : j < listed.size := by omega
    simpa [h4] using this
  intro fuel
  induction fuel with
  | zero =>
    intro listed s W hsz hc hF
    have hr : Region.ready .any ops listed = [] := by
      rw [List.eq_nil_iff_forall_not_mem]
      intro i hi
      have := nope_set listed i (mem_ready.1 hi).1
      omega
    exact ⟨hr, key listed s W hsz hr hF⟩
  | succ fuel ih =>
    intro listed s W hsz hc hF
    refine ⟨fun hr => key listed s W hsz hr hF, fun i hi => ?_⟩
    obtain ⟨hl, o, ho, hw⟩ := mem_ready.1 hi
    have hio : i < ops.size := by
      rcases Nat.lt_or_ge i ops.size with h1 | h1
      · exact h1
      · rw [Array.getElem?_eq_none h1] at ho; cases ho
    have hil : i < listed.size := by omega
    have h1 := hs i (by rw [← hrs]; simpa using hio) o ho (fun j => listed.getD j false) s W (by simpa [hil] using hl) ((dall_iff _ _).2 fun j hj => by
      obtain ⟨e, he, rfl⟩ := List.mem_map.1 hj
      have he := List.mem_filter.1 he
      exact hw e (by simpa using he.1) he.2) hF
    refine wpOp_mono ?_ h1
    rintro a' W' ⟨s', rfl, hF'⟩
    refine ih _ s' W' (by simpa using hsz) (by have := nope_set listed i hl; omega) ?_
    have he : (fun j => (listed.setIfInBounds i true).getD j false) = upd (fun j => listed.getD j false) i := by
      funext j
      by_cases hj : j = i
      · subst hj; simp [upd, hil]
      · simp [upd, beq_no hj, Array.getElem?_setIfInBounds_ne (Ne.symm hj)]
    rw [he]
    exact hF'

/-- A region that draws its order: the invariant F holds at the start, each operation keeps it, and it gives what the rest needs. -/
theorem region_facts0 {id : Nat} {w : World} (F : (Nat → Bool) → (Nat → Value) → World → Prop) (ds : List Nat) (rs : List Nat) (hm : P.follows .mixedOrders = true) (hwf : wfOps ops = true) (hrs : List.range ops.size = rs)
    (h0 : F (fun _ => false) (fun t => a.eval (.tmp t)) w.drew) (hs : FSteps P ops Q a ds F rs) (hend : ∀ D s W, DAll D rs → F D s W → Q .normal (putAll a s ds) W) : (Code.region id ops true).wp P Q a w := by
  refine wp_region_any hm ?_
  have h := wpAny_facts (P := P) (Q := Q) (a := a) hwf hrs hs hend ops.size (Array.replicate ops.size false) (fun t => a.eval (.tmp t)) w.drew (by simp) (by
    refine Nat.le_trans (List.countP_le_length) (by simp)) (by
    have he : (fun j => (Array.replicate ops.size false).getD j false) = fun _ => false := by
      funext j
      simp only [Array.getD_eq_getD_getElem?]
      rw [Array.getElem?_replicate]
      split <;> rfl
    rw [he]
    exact h0)
  rw [putAll_self] at h
  exact h

/-- The same, where the slots' values ahead of it do not matter. -/
theorem region_facts {id : Nat} {w : World} (F : (Nat → Bool) → (Nat → Value) → World → Prop) (ds : List Nat) (rs : List Nat) (hm : P.follows .mixedOrders = true) (hwf : wfOps ops = true) (hrs : List.range ops.size = rs)
    (h0 : ∀ s, F (fun _ => false) s w.drew) (hs : FSteps P ops Q a ds F rs) (hend : ∀ D s W, DAll D rs → F D s W → Q .normal (putAll a s ds) W) : (Code.region id ops true).wp P Q a w :=
  region_facts0 F ds rs hm hwf hrs (h0 _) hs hend

end

end Go.Proofs.Ytlokjiniigfaiaa
