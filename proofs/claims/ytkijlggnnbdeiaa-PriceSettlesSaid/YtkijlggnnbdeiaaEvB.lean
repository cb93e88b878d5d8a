/- Steps of memory: nothing turns, a new block, a block written, a row laid anew, a call. For every program. -/
import Derived.Test.YtkijlggnnbdeiaaEvA
set_option linter.unusedVariables false
set_option linter.unusedSimpArgs false
namespace Go.Proofs.Ytkijlggnnbdeiaa
open Go.RowKit

/-- Memory behind a step: one block written, new blocks from n0 on. -/
def updM (m : Mem) (wr : Option (Nat × Blk)) (n0 : Nat) (ns : List Blk) : Mem := fun id =>
  match (if n0 ≤ id then ns[id - n0]? else none) with
  | some b => some b
  | none => match wr with
    | some (i, b) => if i = id then some b else m id
    | none => m id

theorem updM_none (m : Mem) (n0 : Nat) : updM m none n0 [] = m := by
  funext id; simp [updM]
theorem updM_w (m : Mem) (i n0 : Nat) (b : Blk) (id : Nat) : updM m (some (i, b)) n0 [] id = if i = id then some b else m id := by
  simp [updM]
theorem updM_n (m : Mem) (n0 : Nat) (ns : List Blk) (id : Nat) : updM m none n0 ns id = match (if n0 ≤ id then ns[id - n0]? else none) with | some b => some b | none => m id := rfl

section
variable {A : Nat → Prop} {m : Mem} {ρ : Nat → Nat} {w : World}

theorem Fits.lt (h : Fits A m ρ w) {id : Nat} (hid : m id ≠ none) : ρ id < w.heap.size := by
  cases hb : m id with
  | none => exact absurd hb hid
  | some b => exact (h.at_ id b hb).lt

theorem heap_push (w : World) (o : Obj) (b : Nat) (h : b < w.heap.size) : (w.alloc o).heap[b]? = w.heap[b]? := Below.heap_alloc w o b h
theorem heap_new (w : World) (o : Obj) : (w.alloc o).heap[w.heap.size]? = some o := by
  show (w.heap.push o)[w.heap.size]? = _
  simp

/-- A new block. -/
theorem step_new (hF : Fits A m ρ w) {n0 : Nat} (hn : m n0 = none) (o : Obj) (blk : Blk)
    (hb : ∀ m' ρ', Ext m ρ w m' ρ' (w.alloc o) → FitsB A m' ρ' (w.alloc o) w.heap.size blk) :
    ∃ ρ', ρ' n0 = w.heap.size ∧ Ext m ρ w (updM m none n0 [blk]) ρ' (w.alloc o) ∧ Fits A (updM m none n0 [blk]) ρ' (w.alloc o) := by
  have hu : ∀ id, updM m none n0 [blk] id = if id = n0 then some blk else m id := fun id => by
    simp only [updM]
    by_cases h : id = n0
    · subst h; simp
    · rw [if_neg h]
      by_cases h2 : n0 ≤ id
      · obtain ⟨k, rfl⟩ : ∃ k, id = n0 + (k + 1) := ⟨id - n0 - 1, by omega⟩
        simp
      · simp [h2]
  have he : Ext m ρ w (updM m none n0 [blk]) (fun id => if id = n0 then w.heap.size else ρ id) (w.alloc o) := by
    refine ⟨rfl, rfl, rfl, by simp, fun b hb _ => heap_push w o b hb, fun id hid => ?_, fun id b hb => ?_⟩
    · by_cases h : id = n0
      · right; simp [h]
      · left
        rw [hu id, if_neg h] at hid
        exact ⟨hid, by simp [h]⟩
    · have h : id ≠ n0 := fun e => by subst e; rw [hn] at hb; cases hb
      have hlt : ρ id < w.heap.size := hF.lt (by rw [hb]; simp)
      refine ⟨b, by rw [hu, if_neg h, hb], .refl b, fun _ => ⟨by simp [h], fun vs t hv => ⟨vs, by rw [heap_push w o _ hlt]; exact hv, rfl⟩⟩⟩
  refine ⟨_, by simp, he, Fits.step he hF n0 (fun id h => by rw [hu, if_neg h]) (fun id h _ => by simp [h]) (fun id _ hid => heap_push w o _ (hF.lt hid)) ?_ (fun _ => .inr (by simp))⟩
  intro b hb'
  rw [hu, if_pos rfl] at hb'
  obtain rfl := Option.some.inj hb'
  simpa using hb _ _ he

/-- One block is written in its place. -/
theorem step_set (hF : Fits A m ρ w) {id n0 : Nat} {blk blk' : Blk} {vs vs' : Array Value} {t : TypeId} {w' : World} (hm : m id = some blk) (hk : BlkKeep blk blk')
    (hv : w.heap[ρ id]? = some (.cells vs t (0, 0))) (ho : w'.os = w.os) (ht : w'.tape = w.tape) (hu : w'.output = w.output) (hs : w'.heap.size = w.heap.size)
    (h1 : w'.heap[ρ id]? = some (.cells vs' t (0, 0))) (h2 : vs'.size = vs.size) (h3 : ∀ b, b ≠ ρ id → w'.heap[b]? = w.heap[b]?)
    (hb : ∀ m', Ext m ρ w m' ρ w' → FitsB A m' ρ w' (ρ id) blk') :
    Ext m ρ w (updM m (some (id, blk')) n0 []) ρ w' ∧ Fits A (updM m (some (id, blk')) n0 []) ρ w' := by
  have hq : m id ≠ none := by rw [hm]; simp
  have he : Ext m ρ w (updM m (some (id, blk')) n0 []) ρ w' := by
    refine ⟨ho, ht, hu, by omega, fun b _ hn => h3 b (fun e => hn id hq e.symm), fun i hi => .inl ⟨?_, rfl⟩, fun i b hi => ?_⟩
    · rw [updM_w] at hi
      by_cases h : id = i
      · subst h; exact hq
      · rwa [if_neg h] at hi
    · by_cases h : id = i
      · subst h
        rw [hm] at hi; obtain rfl := Option.some.inj hi
        refine ⟨blk', by rw [updM_w, if_pos rfl], hk, fun _ => ⟨rfl, fun us u hus => ?_⟩⟩
        rw [hv] at hus
        cases hus
        exact ⟨vs', h1, h2⟩
      · have hne : ρ i ≠ ρ id := fun e => h (hF.inj i id (by rw [hi]; simp) hq e).symm
        exact ⟨b, by rw [updM_w, if_neg h, hi], .refl b, fun _ => ⟨rfl, fun us u hus => ⟨us, by rw [h3 _ hne]; exact hus, rfl⟩⟩⟩
  refine ⟨he, Fits.step he hF id (fun i h => by rw [updM_w, if_neg (Ne.symm h)]) (fun _ _ _ => rfl) (fun i h hi => h3 _ (fun e => h (hF.inj i id hi hq e))) ?_ (fun _ => .inl ⟨hq, rfl⟩)⟩
  intro b hb'
  rw [updM_w, if_pos rfl] at hb'
  obtain rfl := Option.some.inj hb'
  exact hb _ he

/-- A row is laid anew in a new block. -/
theorem step_move (hF : Fits A m ρ w) {id n0 : Nat} {blk blk' : Blk} (o : Obj) (hm : m id = some blk) (hk : BlkKeep blk blk') (hne : ¬ BlkSame blk blk')
    (hb : ∀ m' ρ', Ext m ρ w m' ρ' (w.alloc o) → FitsB A m' ρ' (w.alloc o) w.heap.size blk') :
    ∃ ρ', ρ' id = w.heap.size ∧ Ext m ρ w (updM m (some (id, blk')) n0 []) ρ' (w.alloc o) ∧ Fits A (updM m (some (id, blk')) n0 []) ρ' (w.alloc o) := by
  have hq : m id ≠ none := by rw [hm]; simp
  have he : Ext m ρ w (updM m (some (id, blk')) n0 []) (fun i => if i = id then w.heap.size else ρ i) (w.alloc o) := by
    refine ⟨rfl, rfl, rfl, by simp, fun b hb _ => heap_push w o b hb, fun i hi => ?_, fun i b hi => ?_⟩
    · by_cases h : i = id
      · right; simp [h]
      · left
        rw [updM_w, if_neg (Ne.symm h)] at hi
        exact ⟨hi, by simp [h]⟩
    · by_cases h : i = id
      · subst h
        rw [hm] at hi; obtain rfl := Option.some.inj hi
        exact ⟨blk', by rw [updM_w, if_pos rfl], hk, fun hs => absurd hs hne⟩
      · have hlt : ρ i < w.heap.size := hF.lt (by rw [hi]; simp)
        exact ⟨b, by rw [updM_w, if_neg (Ne.symm h), hi], .refl b, fun _ => ⟨by simp [h], fun us u hus => ⟨us, by rw [heap_push w o _ hlt]; exact hus, rfl⟩⟩⟩
  refine ⟨_, by simp, he, Fits.step he hF id (fun i h => by rw [updM_w, if_neg (Ne.symm h)]) (fun i h _ => by simp [h]) (fun i _ hi => heap_push w o _ (hF.lt hi)) ?_ (fun _ => .inr (by simp))⟩
  intro b hb'
  rw [updM_w, if_pos rfl] at hb'
  obtain rfl := Option.some.inj hb'
  simpa using hb _ _ he

end

/-! ### Calls -/

def memL (M : List Blk) : Mem := fun id => M[id]?

theorem memL_nil : memL [] = fun _ => none := by funext id; simp [memL]

/-- What a function gives: from memory M and values args, the value r and memory M'. -/
def callable (P : Program) (f : FuncId) : Bool := match P.funcs[f]? with
  | some fn => fn.name != "runtime.NumGoroutine" && fn.body.isSome
  | none => false

/-- The blocks that lists may lie in, in a call's world: those that were handed over, and new ones. -/
def Allow (B : Nat → Prop) (s : Nat) : Nat → Prop := fun b => B b ∨ s ≤ b

def FnM (P : Program) (f : FuncId) (M : List Blk) (args : List AV) (r : AV) (M' : List Blk) : Prop :=
  callable P f = true ∧ ∀ (B : Nat → Prop) (ρ : Nat → Nat) (w : World) (vs : Array Value), Fits (Allow B w.heap.size) (memL M) ρ w → vs.size = args.length →
    (∀ i x, args[i]? = some x → Rep (Allow B w.heap.size) (memL M) ρ w x (vs.getD i undef)) →
    Calls P f vs w fun e w' => ∃ v ρ', e = .returned v ∧ Ext (memL M) ρ w (memL M') ρ' w' ∧ Fits (Allow B w.heap.size) (memL M') ρ' w' ∧ Rep (Allow B w.heap.size) (memL M') ρ' w' r v

mutual
def shiftV (n : Nat) : AV → AV
  | .ptr id off => .ptr (id + n) off
  | .ptrR id ver i off => .ptrR (id + n) ver i off
  | .slice id lo len ver => .slice (id + n) lo len ver
  | .map id => .map (id + n)
  | .agg cs => .agg (shiftL n cs)
  | .tuple cs => .tuple (shiftL n cs)
  | .func f p c => .func f (shiftL n p) (shiftL n c)
  | .iface t v => .iface t (shiftV n v)
  | v => v
def shiftL (n : Nat) : List AV → List AV
  | [] => []
  | v :: l => shiftV n v :: shiftL n l
end

theorem shiftL_get (n : Nat) : ∀ (l : List AV) (i : Nat), (shiftL n l)[i]? = (l[i]?).map (shiftV n)
  | [], i => by simp [shiftL]
  | v :: l, 0 => by simp [shiftL]
  | v :: l, i + 1 => by simpa [shiftL] using shiftL_get n l i
theorem shiftL_len (n : Nat) : ∀ (l : List AV), (shiftL n l).length = l.length
  | [] => rfl
  | v :: l => by simp [shiftL, shiftL_len n l]

theorem shiftV_ri (n : Nat) {w : World} {B : Nat → Prop} {x : AV} {v : Value} (h : RI w B x v) : RI w B (shiftV n x) v := by
  induction h with
  | agg cs vs hs h ih =>
    simp only [shiftV]
    refine .agg _ vs (by rw [shiftL_len]; exact hs) fun i c hc => ?_
    rw [shiftL_get] at hc
    obtain ⟨c', h1, rfl⟩ := Option.map_eq_some_iff.1 hc
    exact ih i c' h1
  | tuple cs vs hs h ih =>
    simp only [shiftV]
    refine .tuple _ vs (by rw [shiftL_len]; exact hs) fun i c hc => ?_
    rw [shiftL_get] at hc
    obtain ⟨c', h1, rfl⟩ := Option.map_eq_some_iff.1 hc
    exact ih i c' h1
  | func f p c ps cs hp hc h k ih ik =>
    simp only [shiftV]
    refine .func f _ _ ps cs (by rw [shiftL_len]; exact hp) (by rw [shiftL_len]; exact hc) (fun i x hx => ?_) (fun i x hx => ?_)
    · rw [shiftL_get] at hx
      obtain ⟨x', h1, rfl⟩ := Option.map_eq_some_iff.1 hx
      exact ih i x' h1
    · rw [shiftL_get] at hx
      obtain ⟨x', h1, rfl⟩ := Option.map_eq_some_iff.1 hx
      exact ik i x' h1
  | iface t x v h ih => simp only [shiftV]; exact .iface t _ v ih
  | ptrIn e off b o x hB hx hr ih => simp only [shiftV]; exact .ptrIn e off b o x hB hx hr
  | list l b o cap k x hc hB hk hx hr ih => simp only [shiftV]; exact .list l b o cap k x hc hB hk hx hr
  | lnil a cap h => simp only [shiftV]; exact .lnil a cap h
  | _ => simp only [shiftV]; constructor

mutual
def shiftB (n : Nat) : Blk → Blk
  | .cells cs => .cells (shiftL n cs)
  | .row k es ver => .row k (shiftL n es) ver
end

theorem cellsOf_shift (n : Nat) (x : AV) : cellsOf (shiftV n x) = shiftL n (cellsOf x) := by
  cases x <;> simp [shiftV, cellsOf, shiftL]

theorem Rep.shift {A A' : Nat → Prop} {n : Nat} {M' : List Blk} {ρ' : Nat → Nat} {w' : World} {m2 : Mem} {ρ2 : Nat → Nat} (hm : ∀ id b, M'[id]? = some b → m2 (id + n) = some (shiftB n b)) (hr : ∀ id, id < M'.length → ρ2 (id + n) = ρ' id)
    (ha : ∀ b, Alien A' (memL M') ρ' w' b → Alien A m2 ρ2 w' b) {x : AV} {v : Value} (h : Rep A' (memL M') ρ' w' x v) : Rep A m2 ρ2 w' (shiftV n x) v := by
  have lt : ∀ {id : Nat} {b : Blk}, memL M' id = some b → id < M'.length := fun h => (List.getElem?_eq_some_iff.1 h).1
  induction h with
  | base h => exact .base (shiftV_ri n (h.mono ha (fun _ _ _ => rfl)))
  | ptr id off cs h =>
    simp only [shiftV]
    rw [← hr id (lt h)]
    exact .ptr _ _ (shiftL n cs) (hm id _ h)
  | ptrR id ver i off k es ver' a h hle hv =>
    simp only [shiftV]
    refine .ptrR _ ver i off k (shiftL n es) ver' a (hm id _ h) hle fun he => ?_
    rw [shiftL_len, hr id (lt h)]
    exact hv he
  | slice id lo len ver k es ver' a n' c h hle hv =>
    simp only [shiftV]
    refine .slice _ lo len ver k (shiftL n es) ver' a n' c (hm id _ h) hle fun he => ?_
    rw [shiftL_len, hr id (lt h)]
    exact hv he
  | agg cs vs hs h ih =>
    simp only [shiftV]
    refine .agg _ vs (by rw [shiftL_len]; exact hs) fun i c hc => ?_
    rw [shiftL_get] at hc
    obtain ⟨c', h1, rfl⟩ := Option.map_eq_some_iff.1 hc
    exact ih i c' h1
  | tuple cs vs hs h ih =>
    simp only [shiftV]
    refine .tuple _ vs (by rw [shiftL_len]; exact hs) fun i c hc => ?_
    rw [shiftL_get] at hc
    obtain ⟨c', h1, rfl⟩ := Option.map_eq_some_iff.1 hc
    exact ih i c' h1
  | func f p c ps cs hp hc h k ih ik =>
    simp only [shiftV]
    refine .func f _ _ ps cs (by rw [shiftL_len]; exact hp) (by rw [shiftL_len]; exact hc) (fun i x hx => ?_) (fun i x hx => ?_)
    · rw [shiftL_get] at hx
      obtain ⟨x', h1, rfl⟩ := Option.map_eq_some_iff.1 hx
      exact ih i x' h1
    · rw [shiftL_get] at hx
      obtain ⟨x', h1, rfl⟩ := Option.map_eq_some_iff.1 hx
      exact ik i x' h1
  | iface t x v h ih => simp only [shiftV]; exact .iface t _ v ih

theorem FitsB.shift {A A' : Nat → Prop} {n : Nat} {M' : List Blk} {ρ' : Nat → Nat} {w' : World} {m2 : Mem} {ρ2 : Nat → Nat} (hm : ∀ id b, M'[id]? = some b → m2 (id + n) = some (shiftB n b)) (hr : ∀ id, id < M'.length → ρ2 (id + n) = ρ' id)
    (ha : ∀ b, Alien A' (memL M') ρ' w' b → Alien A m2 ρ2 w' b) {b : Nat} {x : Blk} (h : FitsB A' (memL M') ρ' w' b x) : FitsB A m2 ρ2 w' b (shiftB n x) := by
  cases x with
  | cells cs =>
    obtain ⟨vs, t, h1, h2, h3⟩ := h
    refine ⟨vs, t, h1, by rw [shiftL_len]; exact h2, fun i c hc => ?_⟩
    rw [shiftL_get] at hc
    obtain ⟨c', h4, rfl⟩ := Option.map_eq_some_iff.1 hc
    exact (h3 i c' h4).shift hm hr ha
  | row k es ver =>
    obtain ⟨h0, h5, vs, t, h1, h2, h3⟩ := h
    refine ⟨h0, fun e he => ?_, vs, t, h1, by rw [shiftL_len]; exact h2, fun i e j c he hc => ?_⟩
    · obtain ⟨i, hi⟩ := List.mem_iff_getElem?.1 he
      rw [shiftL_get] at hi
      obtain ⟨e', h4, rfl⟩ := Option.map_eq_some_iff.1 hi
      rw [cellsOf_shift, shiftL_len]
      exact h5 e' (List.mem_iff_getElem?.2 ⟨i, h4⟩)
    · rw [shiftL_get] at he
      obtain ⟨e', h4, rfl⟩ := Option.map_eq_some_iff.1 he
      rw [cellsOf_shift, shiftL_get] at hc
      obtain ⟨c', h6, rfl⟩ := Option.map_eq_some_iff.1 hc
      exact (h3 i e' j c' h4 h6).shift hm hr ha

mutual
/-- No list inside. -/
def plainV : AV → Bool
  | .list _ | .ptrIn _ _ => false
  | .agg cs => plainL cs
  | .tuple cs => plainL cs
  | .func _ p c => plainL p && plainL c
  | .iface _ v => plainV v
  | _ => true
def plainL : List AV → Bool
  | [] => true
  | v :: l => plainV v && plainL l
end

theorem plainL_get {l : List AV} (h : plainL l = true) {i : Nat} {x : AV} (hx : l[i]? = some x) : plainV x = true := by
  induction l generalizing i with
  | nil => simp at hx
  | cons y l ih =>
    simp only [plainL, Bool.and_eq_true] at h
    cases i with
    | zero => simp at hx; subst hx; exact h.1
    | succ i => simp at hx; exact ih h.2 hx

theorem RI.plain {w : World} {B B' : Nat → Prop} {x : AV} {v : Value} (h : RI w B x v) (hp : plainV x = true) : RI w B' x v := by
  induction h with
  | agg cs vs hs h ih => exact .agg cs vs hs fun i c hc => ih i c hc (plainL_get (by simpa [plainV] using hp) hc)
  | tuple cs vs hs h ih => exact .tuple cs vs hs fun i c hc => ih i c hc (plainL_get (by simpa [plainV] using hp) hc)
  | func f p c ps cs hp' hc h k ih ik =>
    simp only [plainV, Bool.and_eq_true] at hp
    exact .func f p c ps cs hp' hc (fun i x hx => ih i x hx (plainL_get hp.1 hx)) (fun i x hx => ik i x hx (plainL_get hp.2 hx))
  | iface t x v h ih => exact .iface t x v (ih (by simpa [plainV] using hp))
  | ptrIn => simp [plainV] at hp
  | lnil => simp [plainV] at hp
  | list => simp [plainV] at hp
  | _ => constructor

theorem Rep.plain {A A' : Nat → Prop} {m : Mem} {ρ : Nat → Nat} {w : World} {x : AV} {v : Value} (h : Rep A m ρ w x v) (hp : plainV x = true) : Rep A' m ρ w x v := by
  induction h with
  | base h => exact .base (h.plain hp)
  | ptr id off cs h => exact .ptr id off cs h
  | ptrR id ver i off k es ver' a h hle hv => exact .ptrR id ver i off k es ver' a h hle hv
  | slice id lo len ver k es ver' a n c h hle hv => exact .slice id lo len ver k es ver' a n c h hle hv
  | agg cs vs hs h ih => exact .agg cs vs hs fun i c hc => ih i c hc (plainL_get (by simpa [plainV] using hp) hc)
  | tuple cs vs hs h ih => exact .tuple cs vs hs fun i c hc => ih i c hc (plainL_get (by simpa [plainV] using hp) hc)
  | func f p c ps cs hp' hc h k ih ik =>
    simp only [plainV, Bool.and_eq_true] at hp
    exact .func f p c ps cs hp' hc (fun i x hx => ih i x hx (plainL_get hp.1 hx)) (fun i x hx => ik i x hx (plainL_get hp.2 hx))
  | iface t x v h ih => exact .iface t x v (ih (by simpa [plainV] using hp))

def PlainB : Blk → Prop
  | .cells cs => ∀ c ∈ cs, plainV c = true
  | .row _ es _ => ∀ e ∈ es, plainV e = true

theorem plain_cells {e : AV} (h : plainV e = true) {j : Nat} {c : AV} (hc : (cellsOf e)[j]? = some c) : plainV c = true := by
  cases e with
  | agg cs => exact plainL_get (show plainL cs = true by simpa [plainV] using h) hc
  | _ =>
    simp only [cellsOf] at hc
    obtain ⟨h1, h2⟩ := List.getElem?_eq_some_iff.1 hc
    have : j = 0 := by simp at h1; omega
    subst this
    simp at h2
    rw [← h2]; exact h

theorem FitsB.plain {A A' : Nat → Prop} {m : Mem} {ρ : Nat → Nat} {w : World} {b : Nat} {x : Blk} (h : FitsB A m ρ w b x) (hp : PlainB x) : FitsB A' m ρ w b x := by
  cases x with
  | cells cs =>
    obtain ⟨vs, t, h1, h2, h3⟩ := h
    exact ⟨vs, t, h1, h2, fun i c hc => (h3 i c hc).plain (hp c (List.mem_iff_getElem?.2 ⟨i, hc⟩))⟩
  | row k es ver =>
    obtain ⟨h0, h5, vs, t, h1, h2, h3⟩ := h
    exact ⟨h0, h5, vs, t, h1, h2, fun i e j c he hc => (h3 i e j c he hc).plain (plain_cells (hp e (List.mem_iff_getElem?.2 ⟨i, he⟩)) hc)⟩

theorem Fits.plain {A A' : Nat → Prop} {m : Mem} {ρ : Nat → Nat} {w : World} (h : Fits A m ρ w) (hp : ∀ id b, m id = some b → PlainB b) : Fits A' m ρ w :=
  ⟨h.inj, fun id b hb => (h.at_ id b hb).plain (hp id b hb)⟩

/-- Behind a call that was given nothing of the caller's own memory. -/
theorem step_call {A A' : Nat → Prop} {m : Mem} {ρ : Nat → Nat} {w : World} (hF : Fits A m ρ w) (hup : ∀ b, w.heap.size ≤ b → A b) {n0 : Nat} {R : List Blk} (hn : ∀ j, j < R.length → m (n0 + j) = none) {ρc : Nat → Nat} {w' : World} {ρe : Nat → Nat}
    (hE : Ext (memL []) ρe w (memL R) ρc w') (hR : Fits A' (memL R) ρc w') (ha : ∀ b, A' b → w.heap.size ≤ b ∨ Alien A m ρ w b) {r : AV} {v : Value} (hr : Rep A' (memL R) ρc w' r v) :
    ∃ ρ', Ext m ρ w (updM m none n0 (R.map (shiftB n0))) ρ' w' ∧ Fits A (updM m none n0 (R.map (shiftB n0))) ρ' w' ∧ Rep A (updM m none n0 (R.map (shiftB n0))) ρ' w' (shiftV n0 r) v ∧ ∀ b, Alien A' (memL R) ρc w' b → Alien A (updM m none n0 (R.map (shiftB n0))) ρ' w' b := by
  have hw : ∀ b, b < w.heap.size → w'.heap[b]? = w.heap[b]? := fun b hb => hE.frame b hb (fun id hid => absurd (by simp [memL]) hid)
  have hfresh : ∀ id, id < R.length → w.heap.size ≤ ρc id := fun id hid => by
    rcases hE.ids id (by simp [memL, hid]) with ⟨h, _⟩ | h
    · exact absurd (by simp [memL]) h
    · exact h
  have hu : ∀ id, updM m none n0 (R.map (shiftB n0)) id = if n0 ≤ id ∧ id < n0 + R.length then (R[id - n0]?).map (shiftB n0) else m id := fun id => by
    simp only [updM]
    by_cases h1 : n0 ≤ id
    · by_cases h2 : id < n0 + R.length
      · have h3 : id - n0 < R.length := by omega
        simp [h1, h2, h3]
      · have h3 : R.length ≤ id - n0 := by omega
        simp [h1, h2, h3]
    · simp [h1]
  let ρ' : Nat → Nat := fun id => if n0 ≤ id ∧ id < n0 + R.length then ρc (id - n0) else ρ id
  have he : Ext m ρ w (updM m none n0 (R.map (shiftB n0))) ρ' w' := by
    refine ⟨hE.os, hE.tape, hE.output, hE.size, fun b hb _ => hw b hb, fun id hid => ?_, fun id b hb => ?_⟩
    · by_cases h : n0 ≤ id ∧ id < n0 + R.length
      · right
        simp only [ρ', if_pos h]
        exact hfresh _ (by omega)
      · left
        rw [hu, if_neg h] at hid
        exact ⟨hid, by simp only [ρ', if_neg h]⟩
    · have h : ¬ (n0 ≤ id ∧ id < n0 + R.length) := fun ⟨h1, h2⟩ => by
        have := hn (id - n0) (by omega)
        rw [show n0 + (id - n0) = id by omega, hb] at this
        cases this
      have hlt : ρ id < w.heap.size := hF.lt (by rw [hb]; simp)
      exact ⟨b, by rw [hu, if_neg h, hb], .refl b, fun _ => ⟨by simp only [ρ', if_neg h], fun vs t hv => ⟨vs, by rw [hw _ hlt]; exact hv, rfl⟩⟩⟩
  have hm2 : ∀ id b, R[id]? = some b → updM m none n0 (R.map (shiftB n0)) (id + n0) = some (shiftB n0 b) := fun id b hb => by
    have := (List.getElem?_eq_some_iff.1 hb).1
    rw [hu, if_pos (by omega), show id + n0 - n0 = id by omega, hb]; rfl
  have hr2 : ∀ id, id < R.length → ρ' (id + n0) = ρc id := fun id hid => by
    simp only [ρ']
    rw [if_pos (by omega), show id + n0 - n0 = id by omega]
  have hae : ∀ b, Alien A' (memL R) ρc w' b → Alien A (updM m none n0 (R.map (shiftB n0))) ρ' w' b := fun b hb => by
    have hor := ha b hb.1
    refine ⟨?_, hb.2.1, fun id hid => ?_⟩
    · rcases hor with h | h
      · exact hup b h
      · exact h.1
    · by_cases h : n0 ≤ id ∧ id < n0 + R.length
      · simp only [ρ', if_pos h]
        exact hb.2.2 (id - n0) (by simp [memL]; omega)
      · simp only [ρ', if_neg h]
        rw [hu, if_neg h] at hid
        rcases hor with h2 | h2
        · have := hF.lt hid; omega
        · exact h2.2.2 id hid
  refine ⟨ρ', he, ⟨fun i j hi hj hij => ?_, fun id b hb => ?_⟩, hr.shift hm2 hr2 hae, hae⟩
  · by_cases h1 : n0 ≤ i ∧ i < n0 + R.length
    · by_cases h2 : n0 ≤ j ∧ j < n0 + R.length
      · simp only [ρ', if_pos h1, if_pos h2] at hij
        have := hR.inj (i - n0) (j - n0) (by simp [memL]; omega) (by simp [memL]; omega) hij
        omega
      · simp only [ρ', if_pos h1, if_neg h2] at hij
        rw [hu, if_neg h2] at hj
        have h3 := hF.lt hj
        have h4 := hfresh (i - n0) (by omega)
        omega
    · rw [hu, if_neg h1] at hi
      by_cases h2 : n0 ≤ j ∧ j < n0 + R.length
      · simp only [ρ', if_neg h1, if_pos h2] at hij
        have h3 := hF.lt hi
        have h4 := hfresh (j - n0) (by omega)
        omega
      · rw [hu, if_neg h2] at hj
        simp only [ρ', if_neg h1, if_neg h2] at hij
        exact hF.inj i j hi hj hij
  · rw [hu] at hb
    by_cases h : n0 ≤ id ∧ id < n0 + R.length
    · rw [if_pos h] at hb
      obtain ⟨b', h1, rfl⟩ := Option.map_eq_some_iff.1 hb
      simp only [ρ', if_pos h]
      exact (hR.at_ _ b' h1).shift hm2 hr2 hae
    · rw [if_neg h] at hb
      simp only [ρ', if_neg h]
      exact (hF.at_ id b hb).mono he (hw _ (hF.lt (by rw [hb]; simp)))

end Go.Proofs.Ytkijlggnnbdeiaa
