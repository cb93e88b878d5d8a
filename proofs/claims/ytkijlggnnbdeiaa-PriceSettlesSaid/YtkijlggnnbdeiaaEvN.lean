/- Regions that draw their order. For every program. -/
import Derived.Test.YtkijlggnnbdeiaaEvM
set_option linter.unusedVariables false
set_option linter.unusedSimpArgs false
namespace Go.Proofs.Ytkijlggnnbdeiaa
open Go.RowKit

/-! ### Any order that keeps the waits -/

def updE (D : Nat → Bool) (i : Nat) (j : Nat) : Bool := Nat.beq j i || D j
def wts (o : Oper) : List Nat := (o.after.toList.filter (Region.binds .any)).map (·.on)

theorem updE_same (D : Nat → Bool) (i : Nat) : updE D i i = true := by simp [updE]
theorem updE_ne (D : Nat → Bool) {i j : Nat} (h : j ≠ i) : updE D i j = D j := by
  have : Nat.beq j i = false := by rw [← Bool.not_eq_true]; exact fun e => h (Nat.eq_of_beq_eq_true e)
  simp [updE, this]
theorem updE_le (D : Nat → Bool) {i j : Nat} (h : D j = true) : updE D i j = true := by simp [updE, h]

section
variable {P : Program} {ro : Option Nat} {ops : Array Oper} {Q : Exit → Act → World → Prop}

theorem mem_readyE {listed : Array Bool} {i : Nat} : i ∈ Region.ready .any ops listed ↔ listed.getD i true = false ∧ ∃ o, ops[i]? = some o ∧ ∀ j ∈ wts o, listed.getD j false = true := by
  unfold Region.ready wts
  simp only [List.mem_filter, List.mem_range, Bool.and_eq_true, Bool.not_eq_true']
  constructor
  · rintro ⟨hi, h1, h2⟩
    refine ⟨h1, ?_⟩
    cases ho : ops[i]? with
    | none => rw [ho] at h2; simp at h2
    | some o =>
      rw [ho] at h2
      simp only [Option.map_some, Option.getD_some, Array.all_eq_true_iff_forall_mem, Bool.or_eq_true, Bool.not_eq_true'] at h2
      refine ⟨o, rfl, fun j hj => ?_⟩
      simp only [List.mem_map, List.mem_filter] at hj
      obtain ⟨e, ⟨he, hb⟩, rfl⟩ := hj
      rcases h2 e (by simpa using he) with h | h
      · rw [hb] at h; cases h
      · exact h
  · rintro ⟨h1, o, ho, h2⟩
    refine ⟨(Array.getElem?_eq_some_iff.1 ho).1, h1, ?_⟩
    rw [ho]
    simp only [Option.map_some, Option.getD_some, Array.all_eq_true_iff_forall_mem, Bool.or_eq_true, Bool.not_eq_true']
    intro e he
    cases hb : Region.binds .any e with
    | false => exact .inl rfl
    | true => exact .inr (h2 e.on (List.mem_map.2 ⟨e, List.mem_filter.2 ⟨by simpa using he, hb⟩, rfl⟩))

def nopeE (listed : Array Bool) : Nat := listed.toList.countP (fun b => !b)

theorem nopeE_set (listed : Array Bool) (i : Nat) (h : listed.getD i true = false) : nopeE (listed.setIfInBounds i true) + 1 = nopeE listed := by
  have hi : i < listed.size := by
    rcases Nat.lt_or_ge i listed.size with h1 | h1
    · exact h1
    · simp [Array.getElem?_eq_none h1] at h
  have hv : listed.toList[i]'(by simpa using hi) = false := by simpa [hi] using h
  unfold nopeE
  rw [Array.toList_setIfInBounds, List.countP_set (by simpa using hi), hv]
  have : 0 < listed.toList.countP (fun b => !b) := List.countP_pos_iff.2 ⟨false, by rw [← hv]; exact List.getElem_mem _, rfl⟩
  rw [if_pos (show (!false) = true from rfl), if_neg (show ¬ (!true) = true by decide)]
  omega

theorem ready_nilE (hwf : ∀ i o, ops[i]? = some o → ∀ j ∈ wts o, j < i) {listed : Array Bool} (hs : listed.size = ops.size) (hr : Region.ready .any ops listed = []) : ∀ i, i < ops.size → listed.getD i false = true := by
  intro i
  induction i using Nat.strongRecOn with
  | ind i ih =>
    intro hi
    rcases hb : listed.getD i true with _ | _
    · exfalso
      have : i ∈ Region.ready .any ops listed := mem_readyE.2 ⟨hb, ops[i], by simp [hi], fun j hj => ih j (hwf i ops[i] (by simp [hi]) j hj) (by have := hwf i ops[i] (by simp [hi]) j hj; omega)⟩
      rw [hr] at this
      cases this
    · simpa [show i < listed.size by omega] using hb

theorem wpAnyE (Inv : (Nat → Bool) → Act → World → Prop) (hwf : ∀ i o, ops[i]? = some o → ∀ j ∈ wts o, j < i)
    (hs : ∀ i o, ops[i]? = some o → ∀ D a w, Inv D a w → D i = false → (∀ j ∈ wts o, D j = true) → wpOpIn (FR ro) 0 P ops Q i (Inv (updE D i)) a w) (hend : ∀ D a w, (∀ i, i < ops.size → D i = true) → Inv D a w → Q .normal a w) :
    ∀ (fuel : Nat) (listed : Array Bool) (a : Act) (w : World), listed.size = ops.size → nopeE listed ≤ fuel → Inv (fun j => listed.getD j false) a w → wpAnyIn (FR ro) 0 P .any ops Q fuel listed a w := by
  have key : ∀ (listed : Array Bool) (a : Act) (w : World), listed.size = ops.size → Region.ready .any ops listed = [] → Inv (fun j => listed.getD j false) a w → Q .normal a w := fun listed a w h1 h2 h3 => hend _ a w (ready_nilE hwf h1 h2) h3
  intro fuel
  induction fuel with
  | zero =>
    intro listed a w hsz hc hF
    have hr : Region.ready .any ops listed = [] := by
      rw [List.eq_nil_iff_forall_not_mem]
      intro i hi
      have := nopeE_set listed i (mem_readyE.1 hi).1
      omega
    exact ⟨hr, key listed a w hsz hr hF⟩
  | succ fuel ih =>
    intro listed a w hsz hc hF
    refine ⟨fun hr => key listed a w hsz hr hF, fun i hi => ?_⟩
    obtain ⟨hl, o, ho, hw⟩ := mem_readyE.1 hi
    have hio : i < ops.size := (Array.getElem?_eq_some_iff.1 ho).1
    have hil : i < listed.size := by omega
    refine wpOpIn_mono (fun a' w' hF' => ?_) (hs i o ho (fun j => listed.getD j false) a w hF (by simpa [hil] using hl) hw)
    refine ih _ a' w' (by simpa using hsz) (by have := nopeE_set listed i hl; omega) ?_
    have he : (fun j => (listed.setIfInBounds i true).getD j false) = updE (fun j => listed.getD j false) i := by
      funext j
      by_cases hj : j = i
      · subst hj; simp [updE, hil]
      · rw [updE_ne _ hj]; simp [Array.getElem?_setIfInBounds_ne (Ne.symm hj)]
    rw [he]
    exact hF'

theorem region_any {id : Nat} {a : Act} {w : World} (Inv : (Nat → Bool) → Act → World → Prop) (hm : P.follows .mixedOrders = true) (hwf : ∀ i o, ops[i]? = some o → ∀ j ∈ wts o, j < i) (h0 : Inv (fun _ => false) a w.drew)
    (hs : ∀ i o, ops[i]? = some o → ∀ D a w, Inv D a w → D i = false → (∀ j ∈ wts o, D j = true) → wpOpIn (FR ro) 0 P ops Q i (Inv (updE D i)) a w) (hend : ∀ D a w, (∀ i, i < ops.size → D i = true) → Inv D a w → Q .normal a w) : (Code.region id ops true).wpIn (FR ro) 0 P Q a w := by
  refine wpIn_region_any hm ?_
  refine wpAnyE Inv hwf hs hend ops.size (Array.replicate ops.size false) a w.drew (by simp) (Nat.le_trans List.countP_le_length (by simp)) ?_
  have he : (fun j => (Array.replicate ops.size false).getD j false) = fun _ => false := by
    funext j
    simp only [Array.getD_eq_getD_getElem?]
    rw [Array.getElem?_replicate]
    split <;> rfl
  rw [he]
  exact h0

end

/-! ### What each operation writes and looks at -/

structure Rec where
  d : Option Nat
  v : AV
  wr : Option (Nat × Blk)
  n0 : Nat
  ns : List Blk
  fp : List Nat
  rd : List Nat
  ah : Nat

def Rec.app (r : Rec) (s : (Nat → AV) × Mem) : (Nat → AV) × Mem := ((fun t => if r.d = some t then r.v else s.1 t), updM s.2 r.wr r.n0 r.ns)

def Rec.hits (r : Rec) (id : Nat) : Prop := (∃ b, r.wr = some (id, b)) ∨ (r.n0 ≤ id ∧ id < r.n0 + r.ns.length)

theorem app_tmp (r : Rec) (s : (Nat → AV) × Mem) {t : Nat} (h : r.d ≠ some t) : (r.app s).1 t = s.1 t := if_neg h
theorem app_mem (r : Rec) (s : (Nat → AV) × Mem) {id : Nat} (h : ¬ r.hits id) : (r.app s).2 id = s.2 id := by
  simp only [Rec.app, updM]
  have h1 : (if r.n0 ≤ id then r.ns[id - r.n0]? else none) = none := by
    split
    · rename_i hle
      rw [List.getElem?_eq_none]
      have : ¬ (id < r.n0 + r.ns.length) := fun hlt => h (.inr ⟨hle, hlt⟩)
      omega
    · rfl
  rw [h1]
  cases hw : r.wr with
  | none => rfl
  | some x =>
    obtain ⟨i, b⟩ := x
    simp only
    rw [if_neg]
    intro e; subst e
    exact h (.inl ⟨b, hw⟩)

def wrId (r : Rec) : List Nat := match r.wr with | some (i, _) => [i] | none => []

/-- Neither looks at, or writes, what the other one writes. -/
structure Indep (a b : Rec) : Prop where
  d1 : ∀ t, a.d = some t → t ∉ b.rd ∧ b.d ≠ some t
  d2 : ∀ t, b.d = some t → t ∉ a.rd
  m1 : ∀ id, a.hits id → id ∉ b.fp ∧ ¬ b.hits id
  m2 : ∀ id, b.hits id → id ∉ a.fp

def inNew (r : Rec) (id : Nat) : Bool := Nat.ble r.n0 id && Nat.blt id (r.n0 + r.ns.length)

def indepB (a b : Rec) : Bool :=
  (match a.d with | some t => !(b.rd.contains t) && (match b.d with | some u => !(Nat.beq t u) | none => true) | none => true) &&
  (match b.d with | some t => !(a.rd.contains t) | none => true) &&
  (wrId a).all (fun i => !(b.fp.contains i) && !((wrId b).contains i) && !(inNew b i)) && (wrId b).all (fun i => !(a.fp.contains i) && !(inNew a i)) &&
  b.fp.all (fun i => !(inNew a i)) && a.fp.all (fun i => !(inNew b i)) &&
  (Nat.beq a.ns.length 0 || Nat.beq b.ns.length 0 || Nat.ble (a.n0 + a.ns.length) b.n0 || Nat.ble (b.n0 + b.ns.length) a.n0)

theorem inNew_iff {r : Rec} {id : Nat} : inNew r id = true ↔ r.n0 ≤ id ∧ id < r.n0 + r.ns.length := by
  simp only [inNew, Bool.and_eq_true]
  exact ⟨fun h => ⟨Nat.le_of_ble_eq_true h.1, Eq.mp Nat.blt_eq h.2⟩, fun h => ⟨Nat.ble_eq_true_of_le h.1, Eq.mpr Nat.blt_eq h.2⟩⟩
theorem hits_iff {r : Rec} {id : Nat} : r.hits id ↔ id ∈ wrId r ∨ inNew r id = true := by
  rw [inNew_iff]
  unfold Rec.hits wrId
  constructor
  · rintro (⟨b, h⟩ | h)
    · left; rw [h]; simp
    · exact .inr h
  · rintro (h | h)
    · left
      split at h
      · rename_i i b hw
        simp at h; subst h
        exact ⟨b, hw⟩
      · cases h
    · exact .inr h

theorem indep_of {a b : Rec} (h : indepB a b = true) : Indep a b := by
  simp only [indepB, Bool.and_eq_true] at h
  obtain ⟨⟨⟨⟨⟨⟨h1, h2⟩, h3⟩, h4⟩, h5⟩, h6⟩, h7⟩ := h
  refine ⟨fun t ht => ?_, fun t ht => ?_, fun id hid => ?_, fun id hid => ?_⟩
  · rw [ht] at h1
    simp only [Bool.and_eq_true, Bool.not_eq_true'] at h1
    refine ⟨by simpa using h1.1, fun hb => ?_⟩
    rw [hb] at h1
    simp at h1
  · rw [ht] at h2
    simpa using h2
  · rcases hits_iff.1 hid with hw | hn
    · have := List.all_eq_true.1 h3 id hw
      simp only [Bool.and_eq_true, Bool.not_eq_true'] at this
      obtain ⟨⟨e1, e2⟩, e3⟩ := this
      refine ⟨by simpa using e1, fun hb => ?_⟩
      rcases hits_iff.1 hb with hb | hb
      · rw [show (wrId b).contains id = true by simpa using hb] at e2; cases e2
      · rw [hb] at e3; cases e3
    · refine ⟨fun hf => ?_, fun hb => ?_⟩
      · have := List.all_eq_true.1 h5 id hf
        rw [hn] at this; cases this
      · rcases hits_iff.1 hb with hb | hb
        · have := List.all_eq_true.1 h4 id hb
          simp only [Bool.and_eq_true, Bool.not_eq_true'] at this
          rw [hn] at this; cases this.2
        · rw [inNew_iff] at hn hb
          simp only [Bool.or_eq_true] at h7
          rcases h7 with ((h7 | h7) | h7) | h7
          · have := Nat.eq_of_beq_eq_true h7; omega
          · have := Nat.eq_of_beq_eq_true h7; omega
          · have := Nat.le_of_ble_eq_true h7; omega
          · have := Nat.le_of_ble_eq_true h7; omega
  · intro hf
    rcases hits_iff.1 hid with hw | hn
    · have := List.all_eq_true.1 h4 id hw
      simp only [Bool.and_eq_true, Bool.not_eq_true'] at this
      rw [show a.fp.contains id = true by simpa using hf] at this; cases this.1
    · have := List.all_eq_true.1 h6 id hf
      rw [hn] at this; cases this

theorem hits_val {r : Rec} {s s' : (Nat → AV) × Mem} {id : Nat} (h : r.hits id) : (r.app s).2 id = (r.app s').2 id := by
  simp only [Rec.app, updM]
  by_cases hn : r.n0 ≤ id ∧ id < r.n0 + r.ns.length
  · rw [if_pos hn.1]
    have : id - r.n0 < r.ns.length := by omega
    simp [this]
  · have h1 : (if r.n0 ≤ id then r.ns[id - r.n0]? else none) = none := by
      split
      · rw [List.getElem?_eq_none]; omega
      · rfl
    rw [h1]
    rcases h with ⟨b, hw⟩ | h
    · rw [hw]; simp
    · exact absurd h hn

theorem app_comm {a b : Rec} (h : Indep a b) (s : (Nat → AV) × Mem) : a.app (b.app s) = b.app (a.app s) := by
  apply Prod.ext
  · funext t
    by_cases h1 : a.d = some t
    · have := (h.d1 t h1).2
      rw [app_tmp b _ this]
      simp only [Rec.app, if_pos h1]
    · rw [app_tmp a _ h1]
      by_cases h2 : b.d = some t
      · simp only [Rec.app, if_pos h2]
      · rw [app_tmp b _ h2, app_tmp b _ h2, app_tmp a _ h1]
  · funext id
    by_cases h1 : a.hits id
    · have := (h.m1 id h1).2
      rw [app_mem b _ this]
      exact hits_val h1
    · rw [app_mem a _ h1]
      by_cases h2 : b.hits id
      · exact hits_val h2
      · rw [app_mem b _ h2, app_mem b _ h2, app_mem a _ h1]

/-- The records of the operations that have come up, one behind the other. -/
def part (D : Nat → Bool) : Nat → List Rec → (Nat → AV) × Mem → (Nat → AV) × Mem
  | _, [], s => s
  | i, r :: rs, s => part D (i + 1) rs (if D i then r.app s else s)

theorem part_append (D : Nat → Bool) : ∀ (l l' : List Rec) (i : Nat) (s : (Nat → AV) × Mem), part D i (l ++ l') s = part D (i + l.length) l' (part D i l s)
  | [], l', i, s => rfl
  | r :: l, l', i, s => by
    rw [List.cons_append, part, part, part_append D l l' (i + 1), List.length_cons]
    congr 1; omega

theorem part_congr {D D' : Nat → Bool} : ∀ (l : List Rec) (i : Nat) (s : (Nat → AV) × Mem), (∀ j, i ≤ j → j < i + l.length → D j = D' j) → part D i l s = part D' i l s
  | [], _, _, _ => rfl
  | r :: l, i, s, h => by
    rw [part, part, h i (Nat.le_refl _) (by simp), part_congr l (i + 1) _ (fun j h1 h2 => h j (by omega) (by simp; omega))]

/-- A record that parts from all that have come up behind it may be put ahead of them. -/
theorem part_ahead {D : Nat → Bool} {x : Rec} : ∀ (l : List Rec) (i : Nat) (s : (Nat → AV) × Mem), (∀ j r, l[j]? = some r → D (i + j) = true → Indep x r) → part D i l (x.app s) = x.app (part D i l s)
  | [], _, _, _ => rfl
  | r :: l, i, s, h => by
    rw [part, part]
    have h' : ∀ j r', l[j]? = some r' → D (i + 1 + j) = true → Indep x r' := fun j r' h1 h2 => h (j + 1) r' (by simpa using h1) (by rw [show i + (j + 1) = i + 1 + j by omega]; exact h2)
    cases hd : D i with
    | true =>
      simp only [if_true]
      rw [← app_comm (h 0 r rfl (by simpa using hd))]
      exact part_ahead l (i + 1) _ h'
    | false =>
      simp only [Bool.false_eq_true, if_false]
      exact part_ahead l (i + 1) _ h'

/-- What nobody writes stays. -/
theorem part_tmp {D : Nat → Bool} {t : Nat} : ∀ (l : List Rec) (i : Nat) (s : (Nat → AV) × Mem), (∀ j r, l[j]? = some r → D (i + j) = true → r.d ≠ some t) → (part D i l s).1 t = s.1 t
  | [], _, _, _ => rfl
  | r :: l, i, s, h => by
    rw [part, part_tmp l (i + 1) _ (fun j r' h1 h2 => h (j + 1) r' (by simpa using h1) (by rw [show i + (j + 1) = i + 1 + j by omega]; exact h2))]
    cases hd : D i with
    | true => simp only [if_true]; exact app_tmp r s (h 0 r rfl (by simpa using hd))
    | false => rfl
theorem part_mem {D : Nat → Bool} {id : Nat} : ∀ (l : List Rec) (i : Nat) (s : (Nat → AV) × Mem), (∀ j r, l[j]? = some r → D (i + j) = true → ¬ r.hits id) → (part D i l s).2 id = s.2 id
  | [], _, _, _ => rfl
  | r :: l, i, s, h => by
    rw [part, part_mem l (i + 1) _ (fun j r' h1 h2 => h (j + 1) r' (by simpa using h1) (by rw [show i + (j + 1) = i + 1 + j by omega]; exact h2))]
    cases hd : D i with
    | true => simp only [if_true]; exact app_mem r s (h 0 r rfl (by simpa using hd))
    | false => rfl

/-- Two choices that part only in records that do not write a place agree there. -/
theorem part_tmp2 {D D' : Nat → Bool} {t : Nat} : ∀ (l : List Rec) (i : Nat) (s s' : (Nat → AV) × Mem), s.1 t = s'.1 t → (∀ j r, l[j]? = some r → D (i + j) = D' (i + j) ∨ r.d ≠ some t) → (part D i l s).1 t = (part D' i l s').1 t
  | [], _, _, _, h0, _ => h0
  | r :: l, i, s, s', h0, h => by
    rw [part, part]
    refine part_tmp2 l (i + 1) _ _ ?_ (fun j r' h1 => by have := h (j + 1) r' (by simpa using h1); rwa [show i + (j + 1) = i + 1 + j by omega] at this)
    have h1 := h 0 r rfl
    simp only [Nat.add_zero] at h1
    by_cases hd : r.d = some t
    · rcases h1 with h1 | h1
      · rw [h1]
        cases D' i
        · exact h0
        · simp only [if_true, Rec.app, if_pos hd]
      · exact absurd hd h1
    · have e : ∀ (b : Bool) (q : (Nat → AV) × Mem), (if b then r.app q else q).1 t = q.1 t := fun b q => by cases b; rfl; exact app_tmp r q hd
      rw [e, e]; exact h0
theorem part_mem2 {D D' : Nat → Bool} {id : Nat} : ∀ (l : List Rec) (i : Nat) (s s' : (Nat → AV) × Mem), s.2 id = s'.2 id → (∀ j r, l[j]? = some r → D (i + j) = D' (i + j) ∨ ¬ r.hits id) → (part D i l s).2 id = (part D' i l s').2 id
  | [], _, _, _, h0, _ => h0
  | r :: l, i, s, s', h0, h => by
    rw [part, part]
    refine part_mem2 l (i + 1) _ _ ?_ (fun j r' h1 => by have := h (j + 1) r' (by simpa using h1); rwa [show i + (j + 1) = i + 1 + j by omega] at this)
    have h1 := h 0 r rfl
    simp only [Nat.add_zero] at h1
    by_cases hd : r.hits id
    · rcases h1 with h1 | h1
      · rw [h1]
        cases D' i
        · exact h0
        · simp only [if_true]; exact hits_val hd
      · exact absurd hd h1
    · have e : ∀ (b : Bool) (q : (Nat → AV) × Mem), (if b then r.app q else q).2 id = q.2 id := fun b q => by cases b; rfl; exact app_mem r q hd
      rw [e, e]; exact h0

end Go.Proofs.Ytkijlggnnbdeiaa
