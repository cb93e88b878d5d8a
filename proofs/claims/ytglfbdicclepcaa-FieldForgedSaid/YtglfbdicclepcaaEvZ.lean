/- A range over a function. For every program. The walk of an iterator: calls of yield. For every program. Own rows and variables that nobody writes any more become lists. For every program. -/
import Derived.Test.YtglfbdicclepcaaEvV
set_option linter.unusedVariables false
set_option linter.unusedSimpArgs false
namespace Go.Proofs.Ytglfbdicclepcaa
set_option maxRecDepth 100000
section
open Go.RowKit

/-- What lies below n, or at places of S, stays; of the rest nothing is asked. -/
def Frm (n : Nat) (J : Nat → (Nat → Prop) → World → Prop) : Prop :=
  ∀ k S W W', J k S W → W'.os = W.os → W'.tape = W.tape → W'.output = W.output → W.heap.size ≤ W'.heap.size → (∀ b, b < W.heap.size → (b < n ∨ S b) → W'.heap[b]? = W.heap[b]?) → J k S W'

structure GrowS (S : Nat → Prop) (W W' : World) : Prop where
  os : W'.os = W.os
  tape : W'.tape = W.tape
  output : W'.output = W.output
  size : W.heap.size ≤ W'.heap.size
  same : ∀ b, b < W.heap.size → ¬ S b → W'.heap[b]? = W.heap[b]?
theorem GrowS.refl (S : Nat → Prop) (W : World) : GrowS S W W := ⟨rfl, rfl, rfl, Nat.le_refl _, fun _ _ _ => rfl⟩

/-- What an iterator gives: elements without references, in this order, to any loop body. -/
def Iter (P : Program) (gf : FuncId) (args : List AV) (xs : List (List AV)) : Prop :=
  callable P gf = true ∧ ∀ (B : Nat → Prop) (w : World) (vs : Array Value), vs.size = args.length → (∀ i x, args[i]? = some x → RI w (fun b => B b ∧ b < w.heap.size) x (vs.getD i undef)) →
  ∀ (l : Nat) (J Jx : Nat → (Nat → Prop) → World → Prop) (S : Nat → Prop), Frm w.heap.size J → Frm w.heap.size Jx → (∀ b, S b → b < w.heap.size ∧ ¬ B b) →
    (∀ k x S1 W1 (ys : Array Value), xs[k]? = some x → J k S1 W1 → w.heap.size ≤ W1.heap.size → ys.size = x.length → (∀ i c, x[i]? = some c → RI W1 (fun _ => False) c (ys.getD i undef)) →
      YieldAt Fence.wide 0 P l ys W1 fun e W' => ∃ S2, (∀ b, S2 b → b < W'.heap.size ∧ (S1 b ∨ W1.heap.size ≤ b)) ∧ GrowS S1 W1 W' ∧ ((e = .returned (.bool true) ∧ J (k + 1) S2 W') ∨ (e = .returned (.bool false) ∧ Jx (k + 1) S2 W'))) →
    J 0 S w → Calls P gf (#[.func (.yield l) #[] #[]] ++ vs) w fun e W' => (∃ v, e = .returned v) ∧ ∃ S2, GrowS S w W' ∧ (J xs.length S2 W' ∨ ∃ k, Jx k S2 W')

mutual
def ptrOnly (j : Nat) : AV → Bool
  | .ptr id _ => Nat.blt id j
  | .map id => Nat.blt id j
  | .ptrR _ _ _ _ => false
  | .slice _ _ _ _ => false
  | .agg cs => ptrOnlyL j cs
  | .tuple cs => ptrOnlyL j cs
  | .func _ p c => ptrOnlyL j p && ptrOnlyL j c
  | .iface _ v => ptrOnly j v
  | _ => true
def ptrOnlyL (j : Nat) : List AV → Bool
  | [] => true
  | v :: l => ptrOnly j v && ptrOnlyL j l
end
theorem ptrOnlyL_get {j : Nat} : ∀ {l : List AV} {i : Nat} {x : AV}, ptrOnlyL j l = true → l[i]? = some x → ptrOnly j x = true
  | [], i, x, _, hx => by simp at hx
  | v :: l, 0, x, h, hx => by simp at hx; subst hx; simp only [ptrOnlyL, Bool.and_eq_true] at h; exact h.1
  | v :: l, i + 1, x, h, hx => by simp only [ptrOnlyL, Bool.and_eq_true] at h; exact ptrOnlyL_get h.2 (by simpa using hx)

/-- A value of the loop's start, in a later round. -/
theorem Rep.carry {A A' : Nat → Prop} {m m' : Mem} {ρ ρ' : Nat → Nat} {w w' : World} {j : Nat} (hA : ∀ b, Alien A m ρ w b → Alien A' m' ρ' w' b) (hc : ∀ b, Alien A m ρ w b → ∀ o, w'.cell? ⟨b, o, none⟩ = w.cell? ⟨b, o, none⟩) (hp : PreC j m ρ m' ρ') {x : AV} {v : Value} (h : Rep A m ρ w x v) (hx : ptrOnly j x = true) : Rep A' m' ρ' w' x v := by
  induction h with
  | base h => exact .base (h.mono hA hc)
  | ptr id off cs h =>
    have hlt : id < j := by simp only [ptrOnly] at hx; exact Eq.mp Nat.blt_eq hx
    obtain ⟨⟨cs', h1⟩, h2⟩ := hp.c hlt h
    rw [← h2]
    exact .ptr id off cs' h1
  | ptrR id ver i off k es ver' a h hle hv => simp [ptrOnly] at hx
  | slice id lo len ver k es ver' a n c h hle hv => simp [ptrOnly] at hx
  | map id es h =>
    have hlt : id < j := by simp only [ptrOnly] at hx; exact Eq.mp Nat.blt_eq hx
    obtain ⟨⟨es', h1⟩, h2⟩ := hp.m hlt h
    rw [← h2]
    exact .map id es' h1
  | agg cs vs hs h ih => simp only [ptrOnly] at hx; exact .agg cs vs hs fun i c hi => ih i c hi (ptrOnlyL_get hx hi)
  | tuple cs vs hs h ih => simp only [ptrOnly] at hx; exact .tuple cs vs hs fun i c hi => ih i c hi (ptrOnlyL_get hx hi)
  | func f p c ps cs hp' hc' h k ih ik =>
    simp only [ptrOnly, Bool.and_eq_true] at hx
    exact .func f p c ps cs hp' hc' (fun i x hi => ih i x hi (ptrOnlyL_get hx.1 hi)) (fun i x hi => ik i x hi (ptrOnlyL_get hx.2 hi))
  | iface t x v h ih => simp only [ptrOnly] at hx; exact .iface t x v (ih hx)

theorem Rep.same {A A' : Nat → Prop} {m : Mem} {ρ : Nat → Nat} {w w' : World} (hA : ∀ b, Alien A m ρ w b → Alien A' m ρ w' b ∧ w'.heap[b]? = w.heap[b]?) (ho : ∀ id, m id ≠ none → w'.heap[ρ id]? = w.heap[ρ id]?) {x : AV} {v : Value} (h : Rep A m ρ w x v) : Rep A' m ρ w' x v := by
  induction h with
  | base h => exact .base (h.mono (fun b hb => (hA b hb).1) (fun b hb o => by simp only [World.cell?]; rw [(hA b hb).2]))
  | ptr id off cs h => exact .ptr id off cs h
  | ptrR id ver i off k es ver' a h hle hv => exact .ptrR id ver i off k es ver' a h hle hv
  | slice id lo len ver k es ver' a n c h hle hv =>
    exact .slice id lo len ver k es ver' a n c h hle (fun e => by
      obtain ⟨h1, h2, o, vs, t, h3, h4, h5, h6, h7⟩ := hv e
      exact ⟨h1, h2, o, vs, t, h3, h4, h5, by rw [ho id (by rw [h]; simp)]; exact h6, h7⟩)
  | map id es h => exact .map id es h
  | agg cs vs hs h ih => exact .agg cs vs hs ih
  | tuple cs vs hs h ih => exact .tuple cs vs hs ih
  | func f p c ps cs hp hc' h k ih ik => exact .func f p c ps cs hp hc' ih ik
  | iface t x v h ih => exact .iface t x v ih
theorem Fits.same {A A' : Nat → Prop} {m : Mem} {ρ : Nat → Nat} {w w' : World} (hA : ∀ b, Alien A m ρ w b → Alien A' m ρ w' b ∧ w'.heap[b]? = w.heap[b]?) (ho : ∀ id, m id ≠ none → w'.heap[ρ id]? = w.heap[ρ id]?) (h : Fits A m ρ w) : Fits A' m ρ w' := ⟨h.inj, fun id b hb => by
  have hq := ho id (by rw [hb]; simp)
  have := h.at_ id b hb
  cases b with
  | cells cs =>
    obtain ⟨vs, t, h1, h2, h3⟩ := this
    exact ⟨vs, t, hq.trans h1, h2, fun i c hi => (h3 i c hi).same hA ho⟩
  | row k es ver =>
    obtain ⟨h0, h4, vs, t, h1, h2, h3⟩ := this
    exact ⟨h0, h4, vs, t, hq.trans h1, h2, fun i e j c he hc' => (h3 i e j c he hc').same hA ho⟩
  | mp es =>
    obtain ⟨ents, h1, h2, h3⟩ := this
    exact ⟨ents, hq.trans h1, h2, fun i x e hx he => by
      obtain ⟨k, v, rfl, q2, q3, q4⟩ := h3 i x e hx he
      exact ⟨k, v, rfl, q2, q3, q4.same hA ho⟩⟩⟩
theorem RS.same {dd : List Deferred} {A A' : Nat → Prop} {ρ : Nat → Nat} {st : St} {a : Act} {w w' : World} (hA : ∀ b, Alien A (memL st.mem) ρ w b → Alien A' (memL st.mem) ρ w' b ∧ w'.heap[b]? = w.heap[b]?) (ho : ∀ id, memL st.mem id ≠ none → w'.heap[ρ id]? = w.heap[ρ id]?) (h : RS dd A ρ st a w) : RS dd A' ρ st a w' :=
  ⟨h.fits.same hA ho, h.size, h.df, fun t v hv => (h.rep t v hv).same hA ho⟩

/-! ### Parameters -/

def setPs : List Nat → List AV → St → St
  | p :: ps, x :: xs, s => setPs ps xs (s.put (some p) x)
  | _, _, s => s
theorem setPs_mem : ∀ (ps : List Nat) (xs : List AV) (s : St), (setPs ps xs s).mem = s.mem
  | [], xs, s => by cases xs <;> rfl
  | p :: ps, [], s => rfl
  | p :: ps, x :: xs, s => (setPs_mem ps xs _).trans rfl
theorem rs_setPs {dd : List Deferred} {A : Nat → Prop} {ρ : Nat → Nat} {w : World} : ∀ (ps : List Nat) (xs : List AV) (vs : List Value) (st : St) (a : Act), RS dd A ρ st a w → xs.length = vs.length →
    (∀ i x, xs[i]? = some x → Rep A (memL st.mem) ρ w x (vs.getD i undef)) → RS dd A ρ (setPs ps xs st) { a with tmps := (ps.zip vs).foldl (fun t pv => t.setIfInBounds pv.1 pv.2) a.tmps } w
  | [], xs, vs, st, a, h, _, _ => by cases xs <;> exact h
  | p :: ps, [], vs, st, a, h, hl, _ => by
    have : vs = [] := List.length_eq_zero_iff.1 hl.symm
    subst this; exact h
  | p :: ps, x :: xs, [], st, a, h, hl, _ => by simp at hl
  | p :: ps, x :: xs, v :: vs, st, a, h, hl, hr => by
    have h1 := h.put (some p) (hr 0 x rfl)
    exact rs_setPs ps xs vs _ _ h1 (by simpa using hl) (fun i y hy => hr (i + 1) y (by simpa using hy))

/-! ### The rule -/

def memFrom (j : Nat) (M : List Blk) : Mem := fun id => if j ≤ id then M[id]? else none
def CutR (j : Nat) (s : St) (M : List Blk) : Prop := (∀ dd A ρ a w, RS dd A ρ s a w → Fits A (memL M) ρ w) ∧ NameK j s.mem M
def roundQ (I : Nat → List Blk → Prop) (Ix : EvX → List Blk → Prop) (j k : Nat) : EvX → St → Prop
  | .normal, s => ∃ M, I (k + 1) M ∧ CutR j s M
  | .exit i, s => ∃ M, Ix (.exit i) M ∧ CutR j s M
  | .ret, s => ∃ M, Ix .ret M ∧ CutR j s M
theorem cut_of {s s' : St} {j : Nat} {ob : List Prop} (h : preG s [] j = some (s', ob)) (hob : AllP ob) : CutR j s s'.mem := by
  obtain ⟨o, h1, h2⟩ := Option.map_eq_some_iff.1 h
  cases h2
  obtain ⟨q1, q2⟩ := closedR_of _ _ h1 hob
  exact ⟨fun dd A ρ a w hR => (renew_rs (forget_rs hR [] j q1) (rows_take q2)).1.fits, name_renew (Nat.le_refl _)⟩
theorem round_n {I : Nat → List Blk → Prop} {Ix : EvX → List Blk → Prop} {j k : Nat} {s : St} (s' : St) {ob : List Prop} (h : preG s [] j = some (s', ob)) (hob : AllP ob) (hI : I (k + 1) s'.mem) : roundQ I Ix j k .normal s := ⟨_, hI, cut_of h hob⟩
theorem round_e {I : Nat → List Blk → Prop} {Ix : EvX → List Blk → Prop} {j k i : Nat} {s : St} (s' : St) {ob : List Prop} (h : preG s [] j = some (s', ob)) (hob : AllP ob) (hI : Ix (.exit i) s'.mem) : roundQ I Ix j k (.exit i) s := ⟨_, hI, cut_of h hob⟩
theorem round_r {I : Nat → List Blk → Prop} {Ix : EvX → List Blk → Prop} {j k : Nat} {s : St} (s' : St) {ob : List Prop} (h : preG s [] j = some (s', ob)) (hob : AllP ob) (hI : Ix .ret s'.mem) : roundQ I Ix j k .ret s := ⟨_, hI, cut_of h hob⟩

def EvX.code : EvX → Code
  | .exit i => .exit i
  | _ => .ret
/-- Where a loop over a function begins: its record, and at most one mark. -/
theorem enter_loop {P : Program} (ro : Option Nat) {w : World} (hro : RoOk ro w) (fn : FuncId) (tmps : Array Value) (ps : Array Tmp) (assign body : Code) :
    ∃ (r : Loop) (Ds : List Nat) (l : Nat) (w1 : World), (Instr.enterLoop fn tmps ps assign body ro).run P w = .ok (l, Ds.map mkD) w1 ∧ w1.heap[l]? = some (.loop r) ∧ r.state = .ready ∧ r.pending = none ∧ r.fn = fn ∧ r.tmps = tmps ∧ r.params = ps ∧ r.assign = assign ∧ r.body = body ∧
      w.heap.size ≤ l ∧ CalmW w w1 ∧ (∀ b, b < w.heap.size → w1.heap[b]? = w.heap[b]?) ∧ Ds.Nodup ∧ ∀ D ∈ Ds, w.heap.size ≤ D ∧ D ≠ l ∧ w1.heap[D]? = some (.deferred (some [])) := by
  cases ro with
  | none =>
    refine ⟨{ state := .ready, pending := none, fn, tmps, params := ps, assign, body, defers := w.heap.size }, [w.heap.size], _, _, run_enterLoop_outer fn tmps ps assign body, ?_, rfl, rfl, rfl, rfl, rfl, rfl, rfl, by omega, (calmw_alloc w _).trans (calmw_alloc _ _), fun b hb => ?_, by simp, fun D hD => ?_⟩
    · have := World.alloc_heap_new (w.alloc (.deferred (some []))) (.loop { state := .ready, pending := none, fn, tmps, params := ps, assign, body, defers := w.heap.size })
      rwa [World.size_alloc] at this
    · rw [heap_push _ _ _ (by simp; omega), heap_push _ _ _ hb]
    · have hD : D = w.heap.size := by simpa using hD
      subst hD
      refine ⟨Nat.le_refl _, by omega, ?_⟩
      rw [heap_push _ _ _ (by simp)]
      exact World.alloc_heap_new w _
  | some l₀ =>
    obtain ⟨r₀, hr₀⟩ := hro l₀ rfl
    refine ⟨{ state := .ready, pending := none, fn, tmps, params := ps, assign, body, defers := r₀.defers }, [], _, _, run_enterLoop_inner hr₀ fn tmps ps assign body, World.alloc_heap_new w _, rfl, rfl, rfl, rfl, rfl, rfl, rfl, Nat.le_refl _, calmw_alloc w _, fun b hb => heap_push _ _ _ hb, by simp, fun D hD => by simp at hD⟩

def AS (A : Nat → Prop) (n l : Nat) (S : Nat → Prop) (W : World) (b : Nat) : Prop := A b ∧ b ≠ l ∧ (b < n ∨ S b ∨ W.heap.size ≤ b)
/-- What is known between two rounds: of the start m0, ρ0 (its heap ends at z), of the iterator's call (the heap ends at n). -/
structure Mid (A : Nat → Prop) (m0 : Mem) (ρ0 : Nat → Nat) (z n j l : Nat) (Ds : List Nat) (τ : List AV) (dd : List Deferred) (a : Act) (r : Loop) (M : List Blk) (ρ : Nat → Nat) (S : Nat → Prop) (W : World) : Prop where
  rs : RS dd (AS A n l S W) ρ ⟨τ, M⟩ a W
  pre : PreC j m0 ρ0 (memL M) ρ
  ids : ∀ id, memL M id ≠ none → (m0 id ≠ none ∧ ρ id = ρ0 id) ∨ z ≤ ρ id
  own : ∀ id, memL M id ≠ none → S (ρ id)
  sl : S l
  sD : ∀ D ∈ Ds, S D
  lt : ∀ b, S b → b < W.heap.size
  rec_ : W.heap[l]? = some (.loop r)
  mrk : ∀ D ∈ Ds, W.heap[D]? = some (.deferred (some []))
  nle : n ≤ W.heap.size

section
variable {P : Program} {A : Nat → Prop} {m0 : Mem} {ρ0 : Nat → Nat} {z n j l : Nat} {Ds : List Nat} {τ : List AV} {dd : List Deferred} {a : Act} {r : Loop} {M : List Blk} {ρ : Nat → Nat} {S : Nat → Prop} {W : World}

theorem Mid.later (h : Mid A m0 ρ0 z n j l Ds τ dd a r M ρ S W) {W' : World} (hs : W.heap.size ≤ W'.heap.size) (hb : ∀ b, b < W.heap.size → (b < n ∨ S b) → W'.heap[b]? = W.heap[b]?) : Mid A m0 ρ0 z n j l Ds τ dd a r M ρ S W' where
  rs := h.rs.same (fun b hA => by
    obtain ⟨⟨h1, h2, h3⟩, h4, h5⟩ := hA
    have h6 : b < n ∨ S b := by
      rcases h3 with h3 | h3 | h3
      · exact .inl h3
      · exact .inr h3
      · omega
    exact ⟨⟨⟨h1, h2, by rcases h6 with h6 | h6; exact .inl h6; exact .inr (.inl h6)⟩, by omega, h5⟩, hb b h4 h6⟩) (fun id hid => hb _ (h.lt _ (h.own id hid)) (.inr (h.own id hid)))
  pre := h.pre
  ids := h.ids
  own := h.own
  sl := h.sl
  sD := h.sD
  lt b hS := Nat.lt_of_lt_of_le (h.lt b hS) hs
  rec_ := (hb l (h.lt l h.sl) (.inr h.sl)).trans h.rec_
  mrk D hD := (hb D (h.lt D (h.sD D hD)) (.inr (h.sD D hD))).trans (h.mrk D hD)
  nle := Nat.le_trans h.nle hs

theorem Mid.own_ne (h : Mid A m0 ρ0 z n j l Ds τ dd a r M ρ S W) {id : Nat} (hid : memL M id ≠ none) : ρ id ≠ l := fun he => by
  obtain ⟨o5, h5, h6⟩ := h.rs.fits.cellsAt hid
  rw [he, h.rec_] at h5; cases h5; cases h6

/-- One round. -/
theorem mid_round (h : Mid A m0 ρ0 z n j l Ds τ dd a r M ρ S W) (hup : ∀ b, z ≤ b → A b) (hown0 : ∀ id, j ≤ id → m0 id ≠ none → A (ρ0 id)) (hz : z ≤ n) (hl : z ≤ l) (hlD : ∀ D ∈ Ds, D ≠ l) (hst : r.state = .ready) (hpend : r.pending = none) (htm : r.tmps = a.tmps) (hpo : ptrOnlyL j τ = true) {I : Nat → List Blk → Prop} {Ix : EvX → List Blk → Prop} {k : Nat} {x : List AV} {ys : Array Value}
    (hx : x.length = r.params.size) (hys : ys.size = x.length) (hr : ∀ i c, x[i]? = some c → RI W (fun _ => False) c (ys.getD i undef))
    (hround : Ok j P r.assign (setPs r.params.toList x ⟨τ, M⟩) (fun e s => e = .normal ∧ Ok j P r.body s (roundQ I Ix j k))) :
    YieldAt Fence.wide 0 P l ys W fun e W' => ∃ S2, (∀ b, S2 b → b < W'.heap.size ∧ (S b ∨ W.heap.size ≤ b)) ∧ GrowS S W W' ∧
      ((e = .returned (.bool true) ∧ ∃ M' ρ', I (k + 1) M' ∧ Mid A m0 ρ0 z n j l Ds τ dd a r M' ρ' S2 W') ∨
       (e = .returned (.bool false) ∧ ∃ e' M' ρ', e' ≠ .normal ∧ Ix e' M' ∧ Mid A m0 ρ0 z n j l Ds τ dd a { r with state := .done, pending := some e'.code } M' ρ' S2 W')) := by
  have hy := run_yield (P := P) (args := ys) h.rec_ (by omega)
  refine ⟨_, _, _, _, hy, roundIn_of_wpIn trivial ?_⟩
  have hR0 : RS [] (AS A n l S W) ρ ⟨τ, M⟩ { tmps := r.tmps, defers := [] } W := ⟨h.rs.fits, by rw [htm]; exact h.rs.size, rfl, fun t v hv => by rw [htm]; exact h.rs.rep t v hv⟩
  have hR := rs_setPs r.params.toList x ys.toList _ _ hR0 (by simp [hys]) (fun i c hc => by
    have h1 : ys.toList.getD i undef = ys.getD i undef := by simp [List.getD_eq_getElem?_getD, Array.getD_eq_getD_getElem?]
    rw [h1]
    exact .base ((hr i c hc).mono (fun _ h => h.elim) (fun _ h => h.elim)))
  have htmp : (r.params.zip ys).foldl (fun tmps (x : Tmp × Value) => tmps.setIfInBounds x.1 x.2) r.tmps = (r.params.toList.zip ys.toList).foldl (fun t pv => t.setIfInBounds pv.1 pv.2) r.tmps := by
    rw [← Array.foldl_toList, Array.toList_zip]
  have hupW : ∀ b, W.heap.size ≤ b → AS A n l S W b := fun b hb => ⟨hup b (by have := h.nle; omega), by have := h.lt l h.sl; omega, .inr (.inr hb)⟩
  have hUp : Up j (AS A n l S W) (memL M) ρ W := ⟨hupW, fun id hj hid => ⟨by
    rcases h.ids id hid with ⟨h1, h2⟩ | h1
    · rw [h2]; exact hown0 id hj h1
    · exact hup _ (by omega), h.own_ne hid, .inr (.inl (h.own id hid))⟩⟩
  have hgo := hround (some l) [] (AS A n l S W) ρ _ W (fun l' hl' => by cases hl'; exact ⟨r, h.rec_⟩) hR (by rw [setPs_mem]; exact hUp)
  rw [← htmp] at hgo
  refine wpIn_mono hgo ?_
  rintro e aa Wa ⟨x1, s1, ρ1, ds1, rfl, ⟨rfl, hbody⟩, hR1, hG1⟩
  rw [setPs_mem] at hG1
  have hnl : ∀ id, memL M id ≠ none → ρ id ≠ l := fun id hid => h.own_ne hid
  have hlW := h.lt l h.sl
  have hl1 : Wa.heap[l]? = some (.loop r) := (hG1.ext.frame l hlW hnl).trans h.rec_
  refine ⟨_, run_beginRound hl1 hst, ?_⟩
  have hlWa := (Array.getElem?_eq_some_iff.1 hl1).1
  have hcp : CalmW Wa (Wa.putObj l (.loop { r with state := .busy })) := calmw_put hl1 rfl rfl
  have hl2 : (Wa.putObj l (.loop { r with state := .busy })).heap[l]? = some (.loop { r with state := .busy }) := World.putObj_heap_same hlWa
  have hgo2 := hbody (some l) _ (AS A n l S W) ρ1 aa _ (fun l' hl' => by cases hl'; exact ⟨_, hl2⟩) (hR1.calm hcp) ((hUp.ext hG1.ext).world (by simp))
  refine wpIn_mono hgo2 ?_
  -- what holds behind the body
  have key : ∀ (e : EvX) (s2 : St) (ρ2 : Nat → Nat) (ds2 : List Deferred) (a3 : Act) (W3 : World) (r' : Loop) (M' : List Blk), RS (ds2 ++ (ds1 ++ [])) (AS A n l S W) ρ2 s2 a3 W3 → Gone j (memL s1.mem) ρ1 (Wa.putObj l (.loop { r with state := .busy })) (memL s2.mem) ρ2 W3 ds2 → CutR j s2 M' →
      W3.heap[l]? = some (.loop { r with state := .busy }) ∧ GrowS S W (W3.putObj l (.loop r')) ∧ Mid A m0 ρ0 z n j l Ds τ dd a r' M' ρ2 (fun b => S b ∨ (W.heap.size ≤ b ∧ b < W3.heap.size)) (W3.putObj l (.loop r')) := by
    intro e s2 ρ2 ds2 a3 W3 r' M' hR3 hG2 hcut
    have hn1 : ∀ id, memL s1.mem id ≠ none → ρ1 id ≠ l := fun id hid he => by
      obtain ⟨o5, h5, h6⟩ := hR1.fits.cellsAt hid
      rw [he, hl1] at h5; cases h5; cases h6
    have hl3 : W3.heap[l]? = some (.loop { r with state := .busy }) := (hG2.ext.frame l (by simpa using hlWa) hn1).trans hl2
    have hlW3 := (Array.getElem?_eq_some_iff.1 hl3).1
    have hsz : W.heap.size ≤ W3.heap.size := Nat.le_trans hG1.ext.size (by have := hG2.ext.size; simpa using this)
    have hsz1 := hG1.ext.size
    have hids : ∀ id, memL s2.mem id ≠ none → (memL M id ≠ none ∧ ρ2 id = ρ id) ∨ W.heap.size ≤ ρ2 id := fun id hid => by
      rcases hG2.ext.ids id hid with ⟨h1, h2⟩ | h1
      · rcases hG1.ext.ids id h1 with ⟨h3, h4⟩ | h3
        · exact .inl ⟨h3, h2.trans h4⟩
        · exact .inr (by omega)
      · exact .inr (by simp at h1; omega)
    have hfr : ∀ b, b < W.heap.size → b ≠ l → (∀ id, memL M id ≠ none → ρ id ≠ b) → W3.heap[b]? = W.heap[b]? := fun b hb hbl hno => by
      rw [hG2.ext.frame b (by simp; omega) (fun id hid he => ?_), World.putObj_heap_other hbl, hG1.ext.frame b hb hno]
      rcases hG1.ext.ids id hid with ⟨h1, h2⟩ | h1
      · exact hno id h1 (h2 ▸ he)
      · omega
    have hF := hcut.1 _ _ _ _ _ hR3
    have hsub : ∀ id, memL M' id ≠ none → memL s2.mem id ≠ none := hcut.2.sub
    have hpreM : PreC j (memL M) ρ (memL M') ρ2 := fun id hi b hk hc => by
      obtain ⟨⟨b', h1, h1'⟩, h2⟩ := (hG1.pre.trans hG2.pre) id hi b hk hc
      obtain ⟨b2, h3, h3'⟩ := hcut.2.low id hi b' (h1' ▸ hk) h1
      exact ⟨⟨b2, h3, h3'.trans h1'⟩, h2⟩
    have hcp3 : CalmW W3 (W3.putObj l (.loop r')) := calmw_put hl3 rfl rfl
    have hSn : ∀ D ∈ Ds, ∀ id, memL M id ≠ none → ρ id ≠ D := fun D hD id hid he => by
      obtain ⟨o5, h5, h6⟩ := h.rs.fits.cellsAt hid
      rw [he, h.mrk D hD] at h5; cases h5; cases h6
    refine ⟨hl3, ⟨?_, ?_, ?_, by simpa using hsz, fun b hb hS => ?_⟩, ?_⟩
    · exact hG2.ext.os.trans hG1.ext.os
    · exact hG2.ext.tape.trans hG1.ext.tape
    · exact hG2.ext.output.trans hG1.ext.output
    · have hbl : b ≠ l := fun e => hS (e ▸ h.sl)
      rw [World.putObj_heap_other hbl]
      exact hfr b hb hbl fun id hid he => hS (he ▸ h.own id hid)
    · have hA3 : ∀ b, AS A n l S W b → b < W3.heap.size → AS A n l (fun b => S b ∨ (W.heap.size ≤ b ∧ b < W3.heap.size)) (W3.putObj l (.loop r')) b := fun b hb hlt => by
        obtain ⟨h1, h2, h3⟩ := hb
        refine ⟨h1, h2, ?_⟩
        rcases h3 with h3 | h3 | h3
        · exact .inl h3
        · exact .inr (.inl (.inl h3))
        · exact .inr (.inl (.inr ⟨h3, hlt⟩))
      have hFM : Fits (AS A n l (fun b => S b ∨ (W.heap.size ≤ b ∧ b < W3.heap.size)) (W3.putObj l (.loop r'))) (memL M') ρ2 W3 := hF.same (fun b hb => ⟨⟨hA3 b hb.1 hb.2.1, hb.2.1, hb.2.2⟩, rfl⟩) (fun _ _ => rfl)
      have hAl : ∀ b, Alien (AS A n l S W) (memL M) ρ W b → Alien (AS A n l (fun b => S b ∨ (W.heap.size ≤ b ∧ b < W3.heap.size)) (W3.putObj l (.loop r'))) (memL M') ρ2 W3 b := fun b hb => ⟨hA3 b hb.1 (by have := hb.2.1; omega), by have := hb.2.1; omega, fun id hid he => by
        rcases hids id (hsub id hid) with ⟨h1, h2⟩ | h1
        · exact hb.2.2 id h1 (h2 ▸ he)
        · have := hb.2.1; omega⟩
      have hcell : ∀ b, Alien (AS A n l S W) (memL M) ρ W b → ∀ o, W3.cell? ⟨b, o, none⟩ = W.cell? ⟨b, o, none⟩ := fun b hb o => by
        simp only [World.cell?]
        rw [hfr b hb.2.1 hb.1.2.1 hb.2.2]
      have hRS : RS dd (AS A n l (fun b => S b ∨ (W.heap.size ≤ b ∧ b < W3.heap.size)) (W3.putObj l (.loop r'))) ρ2 ⟨τ, M'⟩ a W3 := ⟨hFM, h.rs.size, h.rs.df, fun t v hv => (h.rs.rep t v hv).carry hAl hcell hpreM (ptrOnlyL_get hpo hv)⟩
      exact {
        rs := hRS.calm hcp3
        pre := h.pre.trans hpreM
        ids := fun id hid => by
          rcases hids id (hsub id hid) with ⟨h1, h2⟩ | h1
          · rcases h.ids id h1 with ⟨h3, h4⟩ | h3
            · exact .inl ⟨h3, h2.trans h4⟩
            · exact .inr (by omega)
          · exact .inr (by have := h.nle; omega)
        own := fun id hid => by
          have hlt := hF.lt hid
          rcases hids id (hsub id hid) with ⟨h1, h2⟩ | h1
          · exact .inl (h2 ▸ h.own id h1)
          · exact .inr ⟨h1, hlt⟩
        sl := .inl h.sl
        sD := fun D hD => .inl (h.sD D hD)
        lt := fun b hb => by
          rcases hb with hb | hb
          · have := h.lt b hb; simp; omega
          · simpa using hb.2
        rec_ := World.putObj_heap_same hlW3
        mrk := fun D hD => by
          rw [World.putObj_heap_other (hlD D hD), hfr D (h.lt D (h.sD D hD)) (hlD D hD) (hSn D hD)]
          exact h.mrk D hD
        nle := by have := h.nle; simp; omega }
  have hS2 : ∀ (W3 : World) (r' : Loop), W.heap.size ≤ (W3.putObj l (.loop r')).heap.size → ∀ b, (S b ∨ (W.heap.size ≤ b ∧ b < W3.heap.size)) → b < (W3.putObj l (.loop r')).heap.size ∧ (S b ∨ W.heap.size ≤ b) := fun W3 r' hle b hb => by
    rcases hb with hb | hb
    · exact ⟨by have := h.lt b hb; omega, .inl hb⟩
    · exact ⟨by simpa using hb.2, .inr hb.1⟩
  have hrr : ({ r with state := .ready, pending := none } : Loop) = r := by cases r; simp_all
  rintro e a3 W3 ⟨x2, s2, ρ2, ds2, rfl, hq, hR3, hG2⟩
  cases x2 with
  | normal =>
    obtain ⟨M', hI, hcut⟩ := hq
    obtain ⟨g1, g2, g3⟩ := key .normal s2 ρ2 ds2 a3 W3 r M' hR3 hG2 hcut
    have he := run_endRound (P := P) none g1
    simp only [Option.isNone_none, if_true] at he
    rw [hrr] at he
    exact ⟨_, _, he, _, hS2 W3 _ g2.size, g2, .inl ⟨rfl, M', ρ2, hI, g3⟩⟩
  | exit i =>
    obtain ⟨M', hI, hcut⟩ := hq
    obtain ⟨g1, g2, g3⟩ := key (.exit i) s2 ρ2 ds2 a3 W3 { r with state := .done, pending := some (.exit i) } M' hR3 hG2 hcut
    exact ⟨_, _, run_endRound (P := P) (some (.exit i)) g1, _, hS2 W3 _ g2.size, g2, .inr ⟨rfl, .exit i, M', ρ2, by simp, hI, g3⟩⟩
  | ret =>
    obtain ⟨M', hI, hcut⟩ := hq
    obtain ⟨g1, g2, g3⟩ := key .ret s2 ρ2 ds2 a3 W3 { r with state := .done, pending := some .ret } M' hR3 hG2 hcut
    exact ⟨_, _, run_endRound (P := P) (some .ret) g1, _, hS2 W3 _ g2.size, g2, .inr ⟨rfl, .ret, M', ρ2, by simp, hI, g3⟩⟩


theorem loop_done {r : Loop} {l : Nat} {W : World} (h : W.heap[l]? = some (.loop r)) (hs : r.state ≠ .busy) : (Instr.endLoop l).run P W = .ok r.pending (W.putObj l (.loop { r with state := .exhausted })) := run_endLoop h hs

/-- A loop over a function. -/
theorem Ok.range {L j : Nat} {g : Operand} {ps : Array Tmp} {assign body : Code} {st : St} {Q : EvX → St → Prop} {gf : FuncId} {cap args : List AV} {ob : List Prop} {bl : Bool} {xs : List (List AV)} (keep : List Nat)
    (hg : opd st.τ g = .func (.func gf) [] cap) (hin : inlArgs (memFrom j st.mem) cap = some (args, ob, bl)) (hob : AllP ob) (hit : Iter P gf args xs) (hps : ∀ x ∈ xs, x.length = ps.size) (hL : L ≤ j) (hcl : ClosedM st.mem j)
    (hpo : ptrOnlyL j (st.forget keep j).tmps = true) (I : Nat → List Blk → Prop) (Ix : EvX → List Blk → Prop) (h0 : I 0 (st.mem.take j))
    (hround : ∀ k x M, xs[k]? = some x → I k M → Ok j P assign (setPs ps.toList x ⟨(st.forget keep j).tmps, M⟩) (fun e s => e = .normal ∧ Ok j P body s (roundQ I Ix j k)))
    (hdone : ∀ M, I xs.length M → Q .normal ⟨(st.forget keep j).tmps, M⟩) (hstop : ∀ e M, e ≠ .normal → Ix e M → Q e ⟨(st.forget keep j).tmps, M⟩) : Ok L P (.rangeFunc g ps assign body) st Q := fun ro dd A ρ a w hro hR hup => by
  refine wpIn_rangeFunc ?_
  intro fn _
  obtain ⟨r, Ds, l, w1, e1, e2, e3, e3', e4, e5, e6, e7, e8, e9, hc, hbelow, hnd, hDs⟩ := enter_loop (P := P) ro hro fn a.tmps ps assign body
  have hfv := hR.opd g
  rw [hg] at hfv
  obtain ⟨pv, cv, hfe, hp0, hcs, _, hcr⟩ := rep_func hfv
  have hpv : pv = #[] := Array.eq_empty_of_size_eq_zero (by simpa using hp0)
  subst hpv
  have hsub : ∀ id b, memFrom j st.mem id = some b → memL st.mem id = some b := fun id b h => by
    unfold memFrom at h
    split at h
    · exact h
    · cases h
  obtain ⟨f1, f2⟩ := inlArgs_ok (look := memFrom j st.mem) hR.fits hsub cap args ob bl hin hob
  have f3 := f2 (fun i => cv.getD i undef) hcr
  have hRf := forget_rs hR keep j hcl
  have htake : ∀ id, memL (st.mem.take j) id ≠ none → id < j ∧ memL st.mem id ≠ none := fun id hid => by
    simp only [memL, List.getElem?_take] at hid ⊢
    split at hid
    · exact ⟨by assumption, hid⟩
    · exact absurd rfl hid
  have hw1 : w.heap.size ≤ w1.heap.size := hc.size
  have hl1 : l < w1.heap.size := (Array.getElem?_eq_some_iff.1 e2).1
  obtain ⟨S, hS⟩ : ∃ S : Nat → Prop, S = fun b => (∃ id, memL (st.mem.take j) id ≠ none ∧ ρ id = b) ∨ b = l ∨ b ∈ Ds := ⟨_, rfl⟩
  have hlt : ∀ id, memL st.mem id ≠ none → ρ id < w.heap.size := fun id hid => hR.fits.lt hid
  have hSlt : ∀ b, S b → b < w1.heap.size := fun b hb => by
    rw [hS] at hb
    rcases hb with ⟨id, h1, rfl⟩ | rfl | hb
    · have := hlt id (htake id h1).2; omega
    · exact hl1
    · exact (Array.getElem?_eq_some_iff.1 (hDs b hb).2.2).1
  refine ⟨l, Ds.map mkD, w1, { target := .fn (.func gf) cv, args := #[.func (.yield l) #[] #[]] }, w1, gf, #[.func (.yield l) #[] #[]] ++ cv, w1, e1, ?_, fun _ _ => trivial, ?_, fun h => (by cases h), ?_⟩
  · simp only [resolve, hfe]
    simp [go_sem]
  · simp [invoke, go_sem, callable_ok hit.1]
  · refine calls_fr ro _ ((hit.2 (fun q => LentP (memFrom j st.mem) ρ bl q ∨ Alien A (memL st.mem) ρ w q) w1 cv (by rw [hcs, ← f1]) ?_ l
      (fun k S W => ∃ M ρ2, I k M ∧ Mid A (memL (st.mem.take j)) ρ w.heap.size w1.heap.size j l Ds (st.forget keep j).tmps dd a r M ρ2 S W)
      (fun k S W => ∃ e M ρ2, e ≠ .normal ∧ Ix e M ∧ Mid A (memL (st.mem.take j)) ρ w.heap.size w1.heap.size j l Ds (st.forget keep j).tmps dd a { r with state := .done, pending := some e.code } M ρ2 S W) S ?_ ?_ ?_ ?_ ?_).mono ?_)
    · intro i x hx
      have hq1 : ∀ q, LentP (memFrom j st.mem) ρ bl q ∨ Alien A (memL st.mem) ρ w q → q < w.heap.size := fun q hq => by
        rcases hq with hq | hq
        · exact hq.lt hR.fits hsub
        · exact hq.2.1
      refine (f3 i x hx).mono (fun q hq => ⟨hq, Nat.lt_of_lt_of_le (hq1 q hq) hw1⟩) (fun q hq o => ?_)
      have h3 := hbelow q (hq1 q hq)
      show World.cell? w1 ⟨q, o, none⟩ = World.cell? w ⟨q, o, none⟩
      simp only [World.cell?]
      rw [h3]
    · rintro k S W W' ⟨M, ρ2, hI, hM⟩ _ _ _ hs hb
      exact ⟨M, ρ2, hI, hM.later hs hb⟩
    · rintro k S W W' ⟨e, M, ρ2, hne, hI, hM⟩ _ _ _ hs hb
      exact ⟨e, M, ρ2, hne, hI, hM.later hs hb⟩
    · intro b hb
      refine ⟨hSlt b hb, ?_⟩
      rw [hS] at hb
      rcases hb with ⟨id, h1, rfl⟩ | rfl | hb
      · obtain ⟨h2, h3⟩ := htake id h1
        rintro (⟨_, id', blk, h4, h5⟩ | h4)
        · have h6 := hsub _ _ h4
          have := hR.fits.inj id' id (by rw [h6]; simp) h3 h5
          subst this
          unfold memFrom at h4
          rw [if_neg (by omega)] at h4; cases h4
        · exact h4.2.2 id h3 rfl
      · rintro (h4 | h4)
        · have := h4.lt hR.fits hsub; omega
        · have := h4.2.1; omega
      · have := (hDs b hb).1
        rintro (h4 | h4)
        · have := h4.lt hR.fits hsub; omega
        · have := h4.2.1; omega
    · rintro k x S1 W1 ys hx ⟨M, ρ2, hI, hM⟩ _ hys hri
      have hlen := hps x (List.mem_iff_getElem?.2 ⟨k, hx⟩)
      have hro2 := hround k x M hx hI
      rw [← e6] at hro2 hlen
      rw [← e7, ← e8] at hro2
      exact mid_round hM (fun b hb => hup.up b hb) (fun id hj hid => absurd (htake id hid).1 (by omega)) hw1 e9 (fun D hD => (hDs D hD).2.1) e3 e3' e5 hpo hlen hys hri hro2
    · refine ⟨st.mem.take j, ρ, h0, ?_⟩
      exact {
        rs := hRf.same (fun b hb => ⟨⟨⟨hb.1, by have := hb.2.1; omega, .inl (by have := hb.2.1; omega)⟩, by have := hb.2.1; omega, hb.2.2⟩, hbelow b hb.2.1⟩) (fun id hid => hbelow _ (hlt id (htake id hid).2))
        pre := .refl _ _ _
        ids := fun id hid => .inl ⟨hid, rfl⟩
        own := fun id hid => by rw [hS]; exact .inl ⟨id, hid, rfl⟩
        sl := by rw [hS]; exact .inr (.inl rfl)
        sD := fun D hD => by rw [hS]; exact .inr (.inr hD)
        lt := hSlt
        rec_ := e2
        mrk := fun D hD => (hDs D hD).2.2
        nle := Nat.le_refl _ }
    · rintro e W2 ⟨⟨v, rfl⟩, S2, hgr, hJ⟩
      have fin : ∀ (r' r'' : Loop) (M : List Blk) (ρ2 : Nat → Nat), Mid A (memL (st.mem.take j)) ρ w.heap.size w1.heap.size j l Ds (st.forget keep j).tmps dd a r' M ρ2 S2 W2 →
          RS (Ds.map mkD ++ dd) A ρ2 ⟨(st.forget keep j).tmps, M⟩ { a with defers := Ds.map mkD ++ a.defers } (W2.putObj l (.loop r'')) ∧ Gone L (memL st.mem) ρ w (memL M) ρ2 (W2.putObj l (.loop r'')) (Ds.map mkD) := fun r' r'' M ρ2 hM => by
        have hcp : CalmW W2 (W2.putObj l (.loop r'')) := calmw_put hM.rec_ rfl rfl
        have hRS : RS dd A ρ2 ⟨(st.forget keep j).tmps, M⟩ a W2 := hM.rs.same (fun b hb => ⟨⟨hb.1.1, hb.2.1, hb.2.2⟩, rfl⟩) (fun _ _ => rfl)
        have hRS2 := hRS.calm hcp
        refine ⟨⟨hRS2.fits, hRS2.size, by rw [show a.defers = dd from hR.df], hRS2.rep⟩, ⟨⟨?_, ?_, ?_, ?_, fun b hb hno => ?_, fun id hid => ?_⟩, fun id hi b hk hcs' => ?_, ⟨Ds, rfl, hnd, fun D hD => ⟨(hDs D hD).1, ?_⟩⟩⟩⟩
        · exact hgr.os.trans hc.os
        · exact hgr.tape.trans hc.tape
        · exact hgr.output.trans hc.output
        · have := hgr.size; simp; omega
        · have hbl : b ≠ l := by omega
          rw [World.putObj_heap_other hbl, hgr.same b (by omega) (fun hb2 => ?_), hbelow b hb]
          rw [hS] at hb2
          rcases hb2 with ⟨id, h1, h2⟩ | h1 | h1
          · exact hno id (htake id h1).2 h2
          · exact hbl h1
          · have := (hDs b h1).1; omega
        · rcases hM.ids id hid with ⟨h1, h2⟩ | h1
          · exact .inl ⟨(htake id h1).2, h2⟩
          · exact .inr h1
        · refine hM.pre id (by omega) b hk ?_
          simp only [memL, List.getElem?_take] at hcs' ⊢
          rw [if_pos (by omega)]; exact hcs'
        · rw [World.putObj_heap_other (hDs D hD).2.1]
          exact hM.mrk D hD
      rcases hJ with ⟨M, ρ2, hI, hM⟩ | ⟨k, e, M, ρ2, hne, hI, hM⟩
      · refine ⟨none, W2.putObj l (.loop { r with state := .exhausted }), ?_, ?_⟩
        · have := loop_done (P := P) hM.rec_ (by rw [e3]; simp)
          exact this.trans (by rw [e3'])
        · obtain ⟨q1, q2⟩ := fin r { r with state := .exhausted } M ρ2 hM
          have hQ := hdone M hI
          exact ⟨.normal, _, ρ2, Ds.map mkD, rfl, hQ, q1, q2⟩
      · refine ⟨some e.code, W2.putObj l (.loop { { r with state := .done, pending := some e.code } with state := .exhausted }), loop_done (P := P) hM.rec_ (by simp), ?_⟩
        obtain ⟨q1, q2⟩ := fin _ { { r with state := .done, pending := some e.code } with state := .exhausted } M ρ2 hM
        have hQ := hstop e M hne hI
        cases e with
        | normal => exact absurd rfl hne
        | exit i => exact wpIn_exit ⟨.exit i, _, ρ2, Ds.map mkD, rfl, hQ, q1, q2⟩
        | ret => exact wpIn_ret ⟨.ret, _, ρ2, Ds.map mkD, rfl, hQ, q1, q2⟩

end
end
section
open Go.RowKit

structure YC where
  n : Nat
  l : Nat
  xs : List (List AV)
  J : Nat → (Nat → Prop) → World → Prop
  Jx : Nat → (Nat → Prop) → World → Prop
def YC.inv (Y : YC) (g : Nat × Bool) (S : Nat → Prop) (W : World) : Prop := match g.2 with
  | false => Y.J g.1 S W
  | true => Y.Jx g.1 S W
structure YC.Good (Y : YC) (P : Program) : Prop where
  fJ : Frm Y.n Y.J
  fJx : Frm Y.n Y.Jx
  hY : ∀ k x S1 W1 (ys : Array Value), Y.xs[k]? = some x → Y.J k S1 W1 → Y.n ≤ W1.heap.size → ys.size = x.length → (∀ i c, x[i]? = some c → RI W1 (fun _ => False) c (ys.getD i undef)) →
      YieldAt Fence.wide 0 P Y.l ys W1 fun e W' => ∃ S2, (∀ b, S2 b → b < W'.heap.size ∧ (S1 b ∨ W1.heap.size ≤ b)) ∧ GrowS S1 W1 W' ∧ ((e = .returned (.bool true) ∧ Y.J (k + 1) S2 W') ∨ (e = .returned (.bool false) ∧ Y.Jx (k + 1) S2 W'))
theorem YC.Good.frm {Y : YC} {P : Program} (h : Y.Good P) {g : Nat × Bool} {S : Nat → Prop} {W W' : World} (hi : Y.inv g S W) (h1 : W'.os = W.os) (h2 : W'.tape = W.tape) (h3 : W'.output = W.output) (h4 : W.heap.size ≤ W'.heap.size) (h5 : ∀ b, b < W.heap.size → (b < Y.n ∨ S b) → W'.heap[b]? = W.heap[b]?) : Y.inv g S W' := by
  unfold YC.inv at *
  split at hi <;> rename_i e
  · exact h.fJ _ _ _ _ hi h1 h2 h3 h4 h5
  · exact h.fJx _ _ _ _ hi h1 h2 h3 h4 h5

structure ExtY (S : Nat → Prop) (m : Mem) (ρ : Nat → Nat) (w : World) (m' : Mem) (ρ' : Nat → Nat) (w' : World) : Prop where
  os : w'.os = w.os
  tape : w'.tape = w.tape
  output : w'.output = w.output
  size : w.heap.size ≤ w'.heap.size
  frame : ∀ b, b < w.heap.size → ¬ S b → (∀ id, m id ≠ none → ρ id ≠ b) → w'.heap[b]? = w.heap[b]?
  ids : ∀ id, m' id ≠ none → (m id ≠ none ∧ ρ' id = ρ id) ∨ w.heap.size ≤ ρ' id
theorem ExtY.refl (S : Nat → Prop) (m : Mem) (ρ : Nat → Nat) (w : World) : ExtY S m ρ w m ρ w := ⟨rfl, rfl, rfl, Nat.le_refl _, fun _ _ _ _ => rfl, fun _ h => .inl ⟨h, rfl⟩⟩
theorem ExtY.trans {S S' : Nat → Prop} {m m' m'' : Mem} {ρ ρ' ρ'' : Nat → Nat} {w w' w'' : World} (h : ExtY S m ρ w m' ρ' w') (hS : ∀ b, S' b → S b ∨ w.heap.size ≤ b) (k : ExtY S' m' ρ' w' m'' ρ'' w'') : ExtY S m ρ w m'' ρ'' w'' where
  os := k.os.trans h.os
  tape := k.tape.trans h.tape
  output := k.output.trans h.output
  size := Nat.le_trans h.size k.size
  frame b hb hn hno := by
    rw [k.frame b (Nat.lt_of_lt_of_le hb h.size) (fun h' => ?_) (fun id hid he => ?_), h.frame b hb hn hno]
    · rcases hS b h' with h1 | h1
      · exact hn h1
      · omega
    · rcases h.ids id hid with ⟨h1, h2⟩ | h1
      · exact hno id h1 (h2 ▸ he)
      · omega
  ids id hid := by
    rcases k.ids id hid with ⟨h1, h2⟩ | h1
    · rcases h.ids id h1 with ⟨h3, h4⟩ | h3
      · exact .inl ⟨h3, h2.trans h4⟩
      · exact .inr (by omega)
    · exact .inr (Nat.le_trans h.size h1)

abbrev SG := St × Nat × Bool

/-- What holds of a state within an iterator. -/
structure YS (Y : YC) (dd : List Deferred) (A : Nat → Prop) (ρ : Nat → Nat) (s : SG) (S : Nat → Prop) (a : Act) (w : World) : Prop where
  rs : RS dd A ρ s.1 a w
  sl : ∀ b, S b → b < w.heap.size ∧ ¬ A b
  own : ∀ id, memL s.1.mem id ≠ none → ¬ S (ρ id) ∧ Y.n ≤ ρ id
  nle : Y.n ≤ w.heap.size
  inv : Y.inv s.2 S w

def OkY (Y : YC) (P : Program) (c : Code) (s : SG) (Q : EvX → SG → Prop) : Prop :=
  ∀ (dd : List Deferred) (A : Nat → Prop) (ρ : Nat → Nat) (a : Act) (w : World) (S : Nat → Prop), YS Y dd A ρ s S a w → (∀ b, w.heap.size ≤ b → A b) →
    c.wpIn (FR none) 0 P (fun e a' w' => ∃ x s' ρ' S', e = EvX.to x ∧ Q x s' ∧ YS Y dd (fun b => A b ∧ ¬ S' b) ρ' s' S' a' w' ∧ ExtY S (memL s.1.mem) ρ w (memL s'.1.mem) ρ' w' ∧ ∀ b, S' b → S b ∨ w.heap.size ≤ b) a w

section
variable {Y : YC} {P : Program}

theorem YS.subA {dd : List Deferred} {A A' : Nat → Prop} {ρ : Nat → Nat} {s : SG} {S : Nat → Prop} {a : Act} {w : World} (h : YS Y dd A ρ s S a w) (hA : ∀ b, A b → A' b) (hS : ∀ b, S b → ¬ A' b) : YS Y dd A' ρ s S a w :=
  ⟨⟨h.rs.fits.subA hA, h.rs.size, h.rs.df, fun t v hv => (h.rs.rep t v hv).subA hA⟩, fun b hb => ⟨(h.sl b hb).1, hS b hb⟩, h.own, h.nle, h.inv⟩
theorem YS.up {dd : List Deferred} {A : Nat → Prop} {ρ' : Nat → Nat} {s' : SG} {S' : Nat → Prop} {a' : Act} {w w' : World} (h : YS Y dd (fun b => A b ∧ ¬ S' b) ρ' s' S' a' w') (hs : w.heap.size ≤ w'.heap.size) (hup : ∀ b, w.heap.size ≤ b → A b) : ∀ b, w'.heap.size ≤ b → A b ∧ ¬ S' b := fun b hb => ⟨hup b (by omega), fun hS => by have := (h.sl b hS).1; omega⟩
/-- One piece behind another. -/
theorem YS.join {dd : List Deferred} {A : Nat → Prop} {ρ : Nat → Nat} {s : SG} {S S' : Nat → Prop} {a : Act} {w : World} (h : YS Y dd (fun b => (A b ∧ ¬ S' b) ∧ ¬ S b) ρ s S a w) : YS Y dd (fun b => A b ∧ ¬ S b) ρ s S a w := h.subA (fun b hb => ⟨hb.1.1, hb.2⟩) (fun b hb hA => hA.2 hb)

theorem OkY.ev (hG : Y.Good P) (hm : P.follows .mixedOrders = true) (n : Nat) (ss : List Sup) {c : Code} {s : SG} {st' : St} {e : EvX} {ss' : List Sup} {ob : List Prop} {Q : EvX → SG → Prop} (h : evC P n c ss s.1 = some (e, st', ss', ob)) (hob : AllP ob) (hQ : Q e (st', s.2)) : OkY Y P c s Q :=
  fun dd A ρ a w S hR hup => evC_ok hm n c ss s.1 e st' ss' ob h hob ρ a w hR.rs hup _ fun a' ρ' w' hR' hE => ⟨e, (st', s.2), ρ', S, rfl, hQ, by
    have hw := hE.weak
    refine ⟨⟨hR'.fits.same (fun b hb => ⟨⟨⟨hb.1, fun hS => (hR.sl b hS).2 hb.1⟩, hb.2⟩, rfl⟩) (fun _ _ => rfl), hR'.size, hR'.df, fun t v hv => (hR'.rep t v hv).same (fun b hb => ⟨⟨⟨hb.1, fun hS => (hR.sl b hS).2 hb.1⟩, hb.2⟩, rfl⟩) (fun _ _ => rfl)⟩, fun b hS => ⟨by have := (hR.sl b hS).1; have := hE.size; omega, fun h => h.2 hS⟩, fun id hid => ?_, by have := hR.nle; have := hE.size; omega, ?_⟩
    · rcases hw.ids id hid with ⟨h1, h2⟩ | h1
      · rw [h2]; exact hR.own id h1
      · exact ⟨fun hS => by have := (hR.sl _ hS).1; omega, by have := hR.nle; omega⟩
    · refine hG.frm hR.inv hE.os hE.tape hE.output hE.size fun b hb hS => hE.frame b hb fun id hid he => ?_
      subst he
      rcases hS with hS | hS
      · have := (hR.own id hid).2; omega
      · exact (hR.own id hid).1 hS, ⟨hE.os, hE.tape, hE.output, hE.size, fun b hb _ hn => hE.frame b hb hn, hE.ids⟩, fun b hb => .inl hb⟩

theorem OkY.mono {c : Code} {s : SG} {Q Q' : EvX → SG → Prop} (h : OkY Y P c s Q) (hq : ∀ e s, Q e s → Q' e s) : OkY Y P c s Q' :=
  fun dd A ρ a w S hR hup => Code.wpIn_mono (fun e a' w' ⟨x, s', ρ', S', h1, h2, h3⟩ => ⟨x, s', ρ', S', h1, hq x s' h2, h3⟩) (h dd A ρ a w S hR hup)

theorem OkY.seq {x y : Code} {s : SG} {Q : EvX → SG → Prop} (h : OkY Y P x s (fun e s => (e = .normal ∧ OkY Y P y s Q) ∨ (e ≠ .normal ∧ Q e s))) : OkY Y P (.seq x y) s Q := fun dd A ρ a w S hR hup => by
  refine wpIn_seq (Code.wpIn_mono ?_ (h dd A ρ a w S hR hup))
  rintro e a' w' ⟨z, s', ρ', S', rfl, hz, hR', hE, hS⟩
  rcases hz with ⟨rfl, hy⟩ | ⟨hne, hq⟩
  · refine Code.wpIn_mono ?_ (hy dd _ ρ' a' w' S' hR' (hR'.up hE.size hup))
    rintro e2 a2 w2 ⟨z2, s2, ρ2, S2, h1, h2, h3, h4, h5⟩
    refine ⟨z2, s2, ρ2, S2, h1, h2, h3.join, hE.trans hS h4, fun b hb => ?_⟩
    rcases h5 b hb with h6 | h6
    · exact hS b h6
    · exact .inr (Nat.le_trans hE.size h6)
  · exact thenE hne ⟨z, s', ρ', S', rfl, hq, hR', hE, hS⟩

theorem OkY.block {id : Nat} {x : Code} {s : SG} {Q : EvX → SG → Prop} (h : OkY Y P x s (fun e s => match e with | .exit j => if j = id then Q .normal s else Q (.exit j) s | e => Q e s)) : OkY Y P (.block id x) s Q := fun dd A ρ a w S hR hup => by
  refine wpIn_block (Code.wpIn_mono ?_ (h dd A ρ a w S hR hup))
  rintro e a' w' ⟨z, s', ρ', S', rfl, hz, hR', hE⟩
  cases z with
  | exit j =>
    simp only [EvX.to, Exit.inBlock]
    split
    · rename_i hj; simp only [if_pos hj] at hz; exact ⟨.normal, s', ρ', S', rfl, hz, hR', hE⟩
    · rename_i hj; simp only [if_neg hj] at hz; exact ⟨.exit j, s', ρ', S', rfl, hz, hR', hE⟩
  | normal => exact ⟨.normal, s', ρ', S', rfl, hz, hR', hE⟩
  | ret => exact ⟨.ret, s', ρ', S', rfl, hz, hR', hE⟩

theorem OkY.cond {t : Nat} {x y : Code} {s : SG} {b : Bool} {Q : EvX → SG → Prop} (hb : s.1.τ t = .bool b) (h : b = true → OkY Y P x s Q) (k : b = false → OkY Y P y s Q) : OkY Y P (.cond (.tmp t) x y) s Q := fun dd A ρ a w S hR hup => by
  have hv := hR.rs.eval t
  rw [hb] at hv
  cases b with
  | true => exact wpIn_cond_true (rep_bool hv) (h rfl dd A ρ a w S hR hup)
  | false => exact wpIn_cond_false (rep_bool hv) (k rfl dd A ρ a w S hR hup)

theorem OkY.loop {x : Code} {s : SG} {Q : EvX → SG → Prop} (I : Nat → SG → Prop) (n : Nat) (h0 : I n s) (h : ∀ n s, I n s → OkY Y P x s (fun e s' => match e with | .normal => ∃ k, k < n ∧ I k s' | e => Q e s')) : OkY Y P (.loop x) s Q := fun dd A ρ a w S hR hup => by
  refine loopE (fun k a' w' => ∃ s1 ρ1 S1, I k s1 ∧ YS Y dd (fun b => A b ∧ ¬ S1 b) ρ1 s1 S1 a' w' ∧ ExtY S (memL s.1.mem) ρ w (memL s1.1.mem) ρ1 w' ∧ ∀ b, S1 b → S b ∨ w.heap.size ≤ b) n ⟨s, ρ, S, h0, ?_, .refl _ _ _ _, fun b hb => .inl hb⟩ ?_
  · exact ⟨⟨hR.rs.fits.same (fun b hb => ⟨⟨⟨hb.1, fun hS => (hR.sl b hS).2 hb.1⟩, hb.2⟩, rfl⟩) (fun _ _ => rfl), hR.rs.size, hR.rs.df, fun t v hv => (hR.rs.rep t v hv).same (fun b hb => ⟨⟨⟨hb.1, fun hS => (hR.sl b hS).2 hb.1⟩, hb.2⟩, rfl⟩) (fun _ _ => rfl)⟩, fun b hS => ⟨(hR.sl b hS).1, fun h => h.2 hS⟩, hR.own, hR.nle, hR.inv⟩
  rintro k a1 w1 ⟨s1, ρ1, S1, hI, hR1, hE1, hS1⟩
  refine Code.wpIn_mono ?_ (h k s1 hI dd _ ρ1 a1 w1 S1 hR1 (hR1.up hE1.size hup))
  rintro e a' w' ⟨z, s2, ρ2, S2, rfl, hz, hR2, hE2, hS2⟩
  have hE := hE1.trans hS1 hE2
  have hS : ∀ b, S2 b → S b ∨ w.heap.size ≤ b := fun b hb => by
    rcases hS2 b hb with h6 | h6
    · exact hS1 b h6
    · exact .inr (Nat.le_trans hE1.size h6)
  cases z with
  | normal => obtain ⟨k', h1, h2⟩ := hz; exact ⟨k', h1, s2, ρ2, S2, h2, hR2.join, hE, hS⟩
  | exit j => exact ⟨.exit j, s2, ρ2, S2, rfl, hz, hR2.join, hE, hS⟩
  | ret => exact ⟨.ret, s2, ρ2, S2, rfl, hz, hR2.join, hE, hS⟩

/-- What is known only of names and memory may be told anew. -/
theorem OkY.reshape {c : Code} {s : SG} {Q Q' : EvX → SG → Prop} (h : OkY Y P c s Q') (hq : ∀ e s', Q' e s' → ∃ st2, Q e (st2, s'.2) ∧ (∀ dd A ρ a w, RS dd A ρ s'.1 a w → RS dd A ρ st2 a w) ∧ ∀ id, memL st2.mem id ≠ none → memL s'.1.mem id ≠ none) : OkY Y P c s Q :=
  fun dd A ρ a w S hR hup => Code.wpIn_mono (fun e a' w' ⟨x, s', ρ', S', h1, h2, h3, h4, h5⟩ => by
    obtain ⟨st2, g1, g2, g3⟩ := hq x s' h2
    exact ⟨x, (st2, s'.2), ρ', S', h1, g1, ⟨g2 _ _ _ _ _ h3.rs, h3.sl, fun id hid => h3.own id (g3 id hid), h3.nle, h3.inv⟩, ⟨h4.os, h4.tape, h4.output, h4.size, h4.frame, fun id hid => h4.ids id (g3 id hid)⟩, h5⟩) (h dd A ρ a w S hR hup)
theorem OkY.pre {c : Code} {s : SG} {st2 : St} {Q : EvX → SG → Prop} (h : OkY Y P c (st2, s.2) Q) (h1 : ∀ dd A ρ a w, RS dd A ρ s.1 a w → RS dd A ρ st2 a w) (h2 : ∀ id, memL st2.mem id ≠ none → memL s.1.mem id ≠ none) : OkY Y P c s Q :=
  fun dd A ρ a w S hR hup => Code.wpIn_mono (fun e a' w' ⟨x, s', ρ', S', g1, g2, g3, g4, g5⟩ => ⟨x, s', ρ', S', g1, g2, g3, ⟨g4.os, g4.tape, g4.output, g4.size, fun b hb hS hn => g4.frame b hb hS fun id hid => hn id (h2 id hid), fun id hid => by
    rcases g4.ids id hid with ⟨q1, q2⟩ | q1
    · exact .inl ⟨h2 id q1, q2⟩
    · exact .inr q1⟩, g5⟩) (h dd A ρ a w S ⟨h1 _ _ _ _ _ hR.rs, hR.sl, fun id hid => hR.own id (h2 id hid), hR.nle, hR.inv⟩ hup)


/-! ### yield -/

theorem seq_pre {dd : List Deferred} {A : Nat → Prop} {ro : Option Nat} {ops : Array Oper} {Q : Exit → Act → World → Prop} (rest : List Oper) : ∀ (l : List Oper) (k : Nat) (ss : List Sup) (st st' : St) (ss' : List Sup) (ob : List Prop) (ρ : Nat → Nat) (a : Act) (w : World), ops.toList.drop k = l ++ rest → evSeq P ops.toList l ss st = some (st', ss', ob) → AllP ob → RS dd A ρ st a w → (∀ b, w.heap.size ≤ b → A b) →
    (∀ a' ρ' w', RS dd A ρ' st' a' w' → Ext (memL st.mem) ρ w (memL st'.mem) ρ' w' → wpOpsIn (FR ro) 0 P ops Q (List.range' (k + l.length) rest.length) a' w') → wpOpsIn (FR ro) 0 P ops Q (List.range' k (l.length + rest.length)) a w := by
  intro l
  induction l with
  | nil =>
    intro k ss st st' ss' ob ρ a w _ h _ hR _ hQ
    simp only [evSeq] at h
    cases h
    simpa using hQ a ρ w hR (.refl _ _ _)
  | cons o l ih =>
    intro k ss st st' ss' ob ρ a w hd h hob hR hup hQ
    cases ss with
    | nil => simp [evSeq] at h
    | cons s ss =>
      simp only [evSeq] at h
      split at h
      · rename_i st1 o1 h1
        split at h
        · rename_i st2 ss2 o2 h2
          cases h
          obtain ⟨hob1, hob2⟩ := AllP.append hob
          have hk : ops[k]? = some o := by
            have : ops.toList[k]? = some o := by
              have := congrArg (fun l => l[0]?) hd
              simpa using this
            simpa using this
          rw [List.length_cons, show l.length + 1 + rest.length = (l.length + rest.length) + 1 by omega, List.range'_succ, wpOpsIn_cons]
          refine step_ok hR hup hk h1 hob1 fun a' ρ' w' hR' hE => ?_
          refine ih (k + 1) ss st1 st' ss' o2 ρ' a' w' ?_ h2 hob2 hR' (up_ext hE hup) fun a'' ρ'' w'' hR'' hE' => ?_
          · have := congrArg (fun l => l.drop 1) hd
            simpa [List.drop_drop, Nat.add_comm] using this
          · rw [show k + 1 + l.length = k + (l.length + 1) by omega]
            exact hQ a'' ρ'' w'' hR'' (hE.trans hE')
        · cases h
      · cases h

theorem yield_exec {a : Act} {w : World} {o : Oper} {f : Operand} {args : Array Operand} {ts : Array TypeId} {l : Nat} {fn : FuncId} {tmps : Array Value} {assign body : Code} (ho : o.op = .call { callee := .value f, args := args, argTypes := ts }) (hf : a.eval f = .func (.yield l) #[] #[]) (hy : (Instr.yield l (args.map a.eval)).run P w = .ok (.round l fn tmps assign body) w) :
    (execOp a.eval o).run P w = .ok (.round l fn tmps assign body) w := by
  simp only [execOp, ho, resolve, hf, Deferred.ofValue, Sem.run_bind, Sem.run_pure, Result.andThen_ok, invoke]
  simpa using hy

/-- A region with one call of yield in it. -/
theorem OkY.yield (hG : Y.Good P) {id k : Nat} {ops : Array Oper} {s : SG} {Q : EvX → SG → Prop} (hs : s.2 = (k, false)) (i : Nat) {o : Oper} (hi : ops[i]? = some o) (ss : List Sup) {s1 : St} {ob1 : List Prop} (h1 : evSeq P ops.toList (ops.toList.take i) ss s.1 = some (s1, [], ob1)) (hob1 : AllP ob1) (hw : wantedAV ops.toList s1.τ o = some true)
    {f : Operand} {args : Array Operand} {ts : Array TypeId} (ho : o.op = .call { callee := .value f, args := args, argTypes := ts }) (hf : opd s1.τ f = .func (.yield Y.l) [] []) (hx : Y.xs[k]? = some (args.toList.map (opd s1.τ))) (hpl : plainL (args.toList.map (opd s1.τ)) = true) (hid : idsL (args.toList.map (opd s1.τ)) = [])
    (st : List Sup) {t2 : St} {obt : List Prop} (h2 : evSeq P ops.toList (ops.toList.drop (i + 1)) st (s1.put o.dst (.bool true)) = some (t2, [], obt)) (hobt : AllP obt) (sf : List Sup) {f2 : St} {obf : List Prop} (h3 : evSeq P ops.toList (ops.toList.drop (i + 1)) sf (s1.put o.dst (.bool false)) = some (f2, [], obf)) (hobf : AllP obf)
    (hQt : Q .normal (t2, k + 1, false)) (hQf : Q .normal (f2, k + 1, true)) : OkY Y P (.region id ops false) s Q := fun dd A ρ a w S hR hup => by
  have hlt : i < ops.size := (Array.getElem?_eq_some_iff.1 hi).1
  have hdrop : ops.toList.drop i = o :: ops.toList.drop (i + 1) := by
    have : ops.toList[i]? = some o := by simpa using hi
    exact List.drop_eq_getElem?_toList_append.trans (by rw [this]; rfl)
  refine wpIn_region ?_
  rw [List.range_eq_range']
  have hsz : ops.size = (ops.toList.take i).length + (ops.toList.drop i).length := by simp; omega
  rw [hsz]
  refine seq_pre (ops.toList.drop i) _ 0 ss s.1 s1 [] ob1 ρ a w (by simp) h1 hob1 hR.rs hup fun a1 ρ1 w1 hR1 hE1 => ?_
  have hti : (ops.toList.take i).length = i := by simp; omega
  rw [hti, Nat.zero_add, hdrop, List.length_cons, List.range'_succ, wpOpsIn_cons]
  unfold wpOpIn
  rw [hi]
  have hw' := wanted_ok (ops := ops) (fun _ _ t _ _ => hR1.eval t) hw
  simp only [hw', if_true]
  -- the state ahead of the call
  have hY1 : YS Y dd (fun b => A b ∧ ¬ S b) ρ1 (s1, s.2) S a1 w1 ∧ ExtY S (memL s.1.mem) ρ w (memL s1.mem) ρ1 w1 := by
    have hw := hE1.weak
    refine ⟨⟨⟨hR1.fits.same (fun b hb => ⟨⟨⟨hb.1, fun hS => (hR.sl b hS).2 hb.1⟩, hb.2⟩, rfl⟩) (fun _ _ => rfl), hR1.size, hR1.df, fun t v hv => (hR1.rep t v hv).same (fun b hb => ⟨⟨⟨hb.1, fun hS => (hR.sl b hS).2 hb.1⟩, hb.2⟩, rfl⟩) (fun _ _ => rfl)⟩, fun b hS => ⟨by have := (hR.sl b hS).1; have := hE1.size; omega, fun h => h.2 hS⟩, fun id hid => ?_, by have := hR.nle; have := hE1.size; omega, ?_⟩, ⟨hE1.os, hE1.tape, hE1.output, hE1.size, fun b hb _ hn => hE1.frame b hb hn, hE1.ids⟩⟩
    · rcases hw.ids id hid with ⟨h1, h2⟩ | h1
      · rw [h2]; exact hR.own id h1
      · exact ⟨fun hS => by have := (hR.sl _ hS).1; omega, by have := hR.nle; omega⟩
    · refine hG.frm hR.inv hE1.os hE1.tape hE1.output hE1.size fun b hb hS => hE1.frame b hb fun id hid he => ?_
      subst he
      rcases hS with hS | hS
      · have := (hR.own id hid).2; omega
      · exact (hR.own id hid).1 hS
  obtain ⟨hY1, hX1⟩ := hY1
  obtain ⟨ps, cs, hfe, hp0, hc0, _, _⟩ := rep_func (hf ▸ hR1.opd f)
  have e1 : ps = #[] := Array.eq_empty_of_size_eq_zero (by simpa using hp0)
  have e2 : cs = #[] := Array.eq_empty_of_size_eq_zero (by simpa using hc0)
  subst e1; subst e2
  obtain ⟨hs1, hr1⟩ := args_rep (q := args) (fun x _ => hR1.opd x)
  have hJ : Y.J k S w1 := by
    have := hY1.inv
    rw [hs] at this
    exact this
  obtain ⟨fn, tmps, assign, body, hy, hround⟩ := hG.hY k _ S w1 (args.map a1.eval) hx hJ hY1.nle hs1 fun i c hc => by
    have hidc : idsOf c = [] := by
      rw [List.eq_nil_iff_forall_not_mem]
      intro n hn
      have := idsL_get hc hn
      rw [hid] at this; cases this
    exact ((hr1 i c hc).ri hidc).plain (plainL_get hpl hc)
  refine ⟨fun _ _ => trivial, ?_⟩
  rw [show (FR none).round = none from rfl, Oper.semAt_none, yield_exec ho hfe hy]
  refine ⟨fun h => (by cases h), ?_⟩
  refine RoundIn.mono (F := FR none) (n := 0 - 1) (R := fun e W' => ∃ S2, (∀ b, S2 b → b < W'.heap.size ∧ (S b ∨ w1.heap.size ≤ b)) ∧ GrowS S w1 W' ∧ ((e = .returned (.bool true) ∧ Y.J (k + 1) S2 W') ∨ (e = .returned (.bool false) ∧ Y.Jx (k + 1) S2 W'))) hround ?_
  rintro e W2 ⟨S2, hS2, hgr, hj⟩
  -- the state behind the call
  have key : ∀ (bv : Bool) (g : Nat × Bool), Y.inv g S2 W2 → YS Y dd (fun b => A b ∧ ¬ S2 b) ρ1 (s1.put o.dst (.bool bv), g) S2 (a1.put o.dst (.bool bv)) W2 := fun bv g hinv => by
    have hRS : RS dd (fun b => A b ∧ ¬ S2 b) ρ1 s1 a1 W2 := hY1.rs.same (fun b hb => by
      have hnS : ¬ S2 b := fun h => by
        rcases (hS2 b h).2 with h1 | h1
        · exact hb.1.2 h1
        · have := hb.2.1; omega
      exact ⟨⟨⟨hb.1.1, hnS⟩, by have := hb.2.1; have := hgr.size; omega, hb.2.2⟩, hgr.same b hb.2.1 hb.1.2⟩) (fun id hid => hgr.same _ (hY1.rs.fits.lt hid) (hY1.own id hid).1)
    have hput := hRS.put o.dst (x := .bool bv) (v := .bool bv) (.base (.bool bv))
    have hmem : (s1.put o.dst (.bool bv)).mem = s1.mem := put_mem _ _ _
    refine ⟨hput, fun b hb => ⟨(hS2 b hb).1, fun h => h.2 hb⟩, fun id hid => ?_, by have := hY1.nle; have := hgr.size; omega, hinv⟩
    simp only [hmem] at hid
    refine ⟨fun h => ?_, (hY1.own id hid).2⟩
    rcases (hS2 _ h).2 with h1 | h1
    · exact (hY1.own id hid).1 h1
    · have := hY1.rs.fits.lt hid; omega
  have hX2 : ∀ bv, ExtY S (memL s.1.mem) ρ w (memL (s1.put o.dst (.bool bv)).mem) ρ1 W2 := fun bv => by
    rw [put_mem]
    exact ⟨hgr.os.trans hX1.os, hgr.tape.trans hX1.tape, hgr.output.trans hX1.output, Nat.le_trans hX1.size hgr.size, fun b hb hS hn => (hgr.same b (Nat.lt_of_lt_of_le hb hX1.size) hS).trans (hX1.frame b hb hS hn), hX1.ids⟩
  have hS3 : ∀ b, S2 b → S b ∨ w.heap.size ≤ b := fun b hb => by
    rcases (hS2 b hb).2 with h | h
    · exact .inl h
    · exact .inr (Nat.le_trans hX1.size h)
  have fin : ∀ (bv : Bool) (g : Nat × Bool) (sp : List Sup) (u : St) (obu : List Prop), YS Y dd (fun b => A b ∧ ¬ S2 b) ρ1 (s1.put o.dst (.bool bv), g) S2 (a1.put o.dst (.bool bv)) W2 → evSeq P ops.toList (ops.toList.drop (i + 1)) sp (s1.put o.dst (.bool bv)) = some (u, [], obu) → AllP obu → Q .normal (u, g) →
      wpOpsIn (FR none) 0 P ops (fun e a' w' => ∃ x s' ρ' S', e = EvX.to x ∧ Q x s' ∧ YS Y dd (fun b => A b ∧ ¬ S' b) ρ' s' S' a' w' ∧ ExtY S (memL s.1.mem) ρ w (memL s'.1.mem) ρ' w' ∧ ∀ b, S' b → S b ∨ w.heap.size ≤ b) (List.range' (i + 1) (ops.toList.drop (i + 1)).length) (a1.put o.dst (.bool bv)) W2 := fun bv g sp u obu hYS h4 hob4 hQ4 => by
    refine seq_ok (ro := none) _ (i + 1) sp _ u [] obu ρ1 _ W2 rfl h4 hob4 hYS.rs (hYS.up (Nat.le_trans hX1.size hgr.size) hup) fun a5 ρ5 w5 hR5 hE5 => ?_
    have hw5 := hE5.weak
    refine ⟨.normal, (u, g), ρ5, S2, rfl, hQ4, ⟨hR5, fun b hS => ⟨by have := (hYS.sl b hS).1; have := hE5.size; omega, fun h => h.2 hS⟩, fun id hid => ?_, by have := hYS.nle; have := hE5.size; omega, ?_⟩, ?_, hS3⟩
    · rcases hw5.ids id hid with ⟨q1, q2⟩ | q1
      · rw [q2]; exact hYS.own id q1
      · exact ⟨fun hS => by have := (hYS.sl _ hS).1; omega, by have := hYS.nle; omega⟩
    · refine hG.frm hYS.inv hE5.os hE5.tape hE5.output hE5.size fun b hb hS => hE5.frame b hb fun id hid he => ?_
      subst he
      rcases hS with hS | hS
      · have := (hYS.own id hid).2; omega
      · exact (hYS.own id hid).1 hS
    · exact (hX2 bv).trans hS3 ⟨hE5.os, hE5.tape, hE5.output, hE5.size, fun b hb _ hn => hE5.frame b hb hn, hE5.ids⟩
  rcases hj with ⟨rfl, hj⟩ | ⟨rfl, hj⟩
  · exact fin true (k + 1, false) st t2 obt (key true _ hj) h2 hobt hQt
  · exact fin false (k + 1, true) sf f2 obf (key false _ hj) h3 hobf hQf

/-! ### The whole iterator -/

theorem iter_of {gf : FuncId} {fn : Func} {args : List AV} {xs : List (List AV)} (hf : P.funcs[gf]? = some fn) (hb : fn.body.isSome = true) (hcal : callable P gf = true) (hres : fn.results = #[]) (hn : Nat.ble (args.length + 1) fn.ntmps = true)
    {st : Nat → St} (hst : (fun l => St.init fn (.func (.yield l) [] [] :: args) []) = st) (h : ∀ Y : YC, Y.Good P → Y.xs = xs → OkY Y P (cE (codeE fn) []) (st Y.l, 0, false) (fun e s => (e = .normal ∨ e = .ret) ∧ (s.2.2 = true ∨ s.2 = (xs.length, false)))) : Iter P gf args xs := by
  subst hst
  obtain ⟨c, hc⟩ := Option.isSome_iff_exists.1 hb
  refine ⟨hcal, fun B w vs hs hr l J Jx S fJ fJx hS hY h0 => fr_calls (callsIn_of_wp (F := FR none) (n := 0) hf hc trivial ?_)⟩
  have hn := Nat.le_of_ble_eq_true hn
  have nm : ∀ {i : Nat}, ¬ (memL [] i ≠ none) := fun h => h (by simp [memL])
  have hgo := h ⟨w.heap.size, l, xs, J, Jx⟩ ⟨fJ, fJx, hY⟩ rfl
  have hce : cE (codeE fn) [] = c := by
    have h1 : codeE fn = c := by unfold codeE; rw [hc]
    rw [h1]; cases c <;> rfl
  rw [hce] at hgo
  have hlen : (#[Value.func (.yield l) #[] #[]] ++ vs).size = args.length + 1 := by simp [hs]; omega
  refine Code.wpIn_mono ?_ (hgo [] (fun b => (B b ∧ b < w.heap.size) ∨ w.heap.size ≤ b) (fun _ => 0) { tmps := (#[Value.func (.yield l) #[] #[]] ++ vs) ++ Array.replicate (fn.ntmps - (#[Value.func (.yield l) #[] #[]] ++ vs).size) undef, defers := [] } w S ⟨⟨⟨fun i j hi => absurd hi nm, fun id b hb => by simp [St.init, memL] at hb⟩, ?_, rfl, fun t v hv => ?_⟩, fun b hb => ⟨(hS b hb).1, ?_⟩, fun id hid => absurd hid nm, Nat.le_refl _, h0⟩ fun b hb => .inr hb)
  · rintro e a' w' ⟨x, s', ρ', S', rfl, ⟨hx, hend⟩, hYS, hE, hS'⟩
    have hfin : ∃ v, (results fn a'.tmps).run P w' = .ok v w' ∧ ((∃ u, Ending.returned v = .returned u) ∧ ∃ S2, GrowS S w w' ∧ (J xs.length S2 w' ∨ ∃ k, Jx k S2 w')) := by
      refine ⟨.tuple #[], by simp [results, hres], ⟨_, rfl⟩, S', ⟨hE.os, hE.tape, hE.output, hE.size, fun b hb hn => hE.frame b hb hn fun id hid => absurd hid nm⟩, ?_⟩
      have hinv := hYS.inv
      obtain ⟨st', k, bs⟩ := s'
      rcases hend with hend | hend
      · simp only at hend
        subst hend
        exact .inr ⟨k, hinv⟩
      · simp only [Prod.mk.injEq] at hend
        obtain ⟨rfl, rfl⟩ := hend
        exact .inl hinv
    obtain ⟨v, h1, h2⟩ := hfin
    rcases hx with rfl | rfl
    · exact ⟨hYS.rs.df, v, h1, h2⟩
    · exact ⟨hYS.rs.df, v, h1, h2⟩
  · simp [St.init, hs]; omega
  · simp only [St.init] at hv
    rw [Array.getD_eq_getD_getElem?]
    by_cases h1 : t < args.length + 1
    · rw [List.getElem?_append_left (by simpa using h1)] at hv
      rw [Array.getElem?_append_left (by rw [hlen]; exact h1)]
      cases t with
      | zero =>
        simp at hv; subst hv
        rw [Array.getElem?_append_left (by simp)]
        exact .base (.func _ [] [] #[] #[] rfl rfl (fun i x h => by simp at h) (fun i x h => by simp at h))
      | succ t =>
        rw [Array.getElem?_append_right (by simp)]
        have := hr t v (by simpa using hv)
        rw [Array.getD_eq_getD_getElem?] at this
        refine .base ((by simpa using this : RI w (fun b => B b ∧ b < w.heap.size) v _).mono (fun b hb => ⟨.inl hb, hb.2, fun id hid => absurd hid nm⟩) (fun _ _ _ => rfl))
    · rw [List.getElem?_append_right (by simp; omega), List.getElem?_replicate] at hv
      split at hv
      · rename_i h2
        obtain rfl := Option.some.inj hv
        rw [Array.getElem?_append_right (by rw [hlen]; omega), Array.getElem?_replicate, if_pos (by rw [hlen]; simp at h2; omega)]
        exact .base (.tuple [] #[] rfl (fun i c hc => by simp at hc))
      · cases hv
  · rintro (h1 | h1)
    · exact (hS b hb).2 h1.1
    · have := (hS b hb).1; omega


/-! ### Steps at a place of the code -/

def seqQY (Y : YC) (P : Program) (y : Code) (Q : EvX → SG → Prop) : EvX → SG → Prop
  | .normal, s => OkY Y P y s Q
  | .exit j, s => Q (.exit j) s
  | .ret, s => Q .ret s
def blkQY (id : Nat) (Q : EvX → SG → Prop) : EvX → SG → Prop
  | .normal, s => Q .normal s
  | .exit j, s => if j = id then Q .normal s else Q (.exit j) s
  | .ret, s => Q .ret s
def loopQY (I : Nat → SG → Prop) (n : Nat) (Q : EvX → SG → Prop) : EvX → SG → Prop
  | .normal, s => ∃ k, k < n ∧ I k s
  | .exit j, s => Q (.exit j) s
  | .ret, s => Q .ret s
variable {Q : EvX → SG → Prop} {s : SG}
theorem blkQ_hereY {id : Nat} (h : Q .normal s) : blkQY id Q (.exit id) s := by simp [blkQY, h]
theorem blkQ_onY {id j : Nat} (hj : Nat.beq j id = false) (h : Q (.exit j) s) : blkQY id Q (.exit j) s := by
  have : j ≠ id := fun e => by subst e; simp at hj
  simp [blkQY, this, h]
theorem OkY.seqP {c : Code} (p : List Bool) (e : cE c p = .seq (cE c (p ++ [false])) (cE c (p ++ [true]))) (h : OkY Y P (cE c (p ++ [false])) s (seqQY Y P (cE c (p ++ [true])) Q)) : OkY Y P (cE c p) s Q := by
  rw [e]
  refine OkY.seq (h.mono fun x s hx => ?_)
  cases x with
  | normal => exact .inl ⟨rfl, hx⟩
  | exit j => exact .inr ⟨by simp, hx⟩
  | ret => exact .inr ⟨by simp, hx⟩
theorem OkY.blockP {c : Code} (p : List Bool) (id : Nat) (e : cE c p = .block id (cE c (p ++ [false]))) (h : OkY Y P (cE c (p ++ [false])) s (blkQY id Q)) : OkY Y P (cE c p) s Q := by
  rw [e]
  refine OkY.block (h.mono fun x s hx => ?_)
  cases x <;> exact hx
theorem OkY.condP {c : Code} (p : List Bool) (t : Nat) (b : Bool) (e : cE c p = .cond (.tmp t) (cE c (p ++ [false])) (cE c (p ++ [true]))) (hb : s.1.τ t = .bool b) (h : b = true → OkY Y P (cE c (p ++ [false])) s Q) (k : b = false → OkY Y P (cE c (p ++ [true])) s Q) : OkY Y P (cE c p) s Q := by
  rw [e]; exact OkY.cond hb h k
theorem OkY.condT {c : Code} (p : List Bool) (t : Nat) (b : Bool) (e : cE c p = .cond (.tmp t) (cE c (p ++ [false])) (cE c (p ++ [true]))) (hb : s.1.τ t = .bool b) (h : AV.bool b = AV.bool true) (k : OkY Y P (cE c (p ++ [false])) s Q) : OkY Y P (cE c p) s Q := by
  cases h; exact OkY.condP p t true e hb (fun _ => k) (fun h => by cases h)
theorem OkY.condF {c : Code} (p : List Bool) (t : Nat) (b : Bool) (e : cE c p = .cond (.tmp t) (cE c (p ++ [false])) (cE c (p ++ [true]))) (hb : s.1.τ t = .bool b) (h : AV.bool b = AV.bool false) (k : OkY Y P (cE c (p ++ [true])) s Q) : OkY Y P (cE c p) s Q := by
  cases h; exact OkY.condP p t false e hb (fun h => by cases h) (fun _ => k)
theorem seq_nY {y : Code} (h : OkY Y P y s Q) : seqQY Y P y Q .normal s := h
theorem seq_eY {y : Code} {j : Nat} (h : Q (.exit j) s) : seqQY Y P y Q (.exit j) s := h
theorem seq_rY {y : Code} (h : Q .ret s) : seqQY Y P y Q .ret s := h
theorem blk_nY {id : Nat} (h : Q .normal s) : blkQY id Q .normal s := h
theorem blk_rY {id : Nat} (h : Q .ret s) : blkQY id Q .ret s := h
def cutQY (s1 : SG) (Q : EvX → SG → Prop) : EvX → SG → Prop
  | .normal, s => s = s1
  | .exit j, s => Q (.exit j) s
  | .ret, s => Q .ret s
theorem cut_eY {s1 : SG} {j : Nat} (h : Q (.exit j) s) : cutQY s1 Q (.exit j) s := h
theorem cut_rY {s1 : SG} (h : Q .ret s) : cutQY s1 Q .ret s := h
theorem OkY.cutP {c : Code} {s1 : SG} (p : List Bool) (e : cE c p = .seq (cE c (p ++ [false])) (cE c (p ++ [true]))) (h : OkY Y P (cE c (p ++ [false])) s (cutQY s1 Q)) (k : OkY Y P (cE c (p ++ [true])) s1 Q) : OkY Y P (cE c p) s Q := by
  refine OkY.seqP p e (h.mono fun x s hx => ?_)
  cases x with
  | normal => cases hx; exact k
  | exit j => exact hx
  | ret => exact hx
theorem OkY.evf (hG : Y.Good P) (hm : P.follows .mixedOrders = true) (n : Nat) (ss : List Sup) (keep : List Nat) (j : Nat) {c : Code} {st' : St} {e : EvX} {ob : List Prop} (h : evf P n c ss s.1 keep j = some (e, st', ob)) (hob : AllP ob) (hQ : Q e (st', s.2)) : OkY Y P c s Q := by
  unfold Go.Proofs.Ytglfbdicclepcaa.evf at h
  split at h
  · rename_i e1 s2 ss' ob1 h1
    split at h
    · rename_i ob2 h2
      cases h
      obtain ⟨hob2, hob1⟩ := AllP.append hob
      refine OkY.reshape (Q' := fun e' s' => e' = e ∧ s' = (s2, s.2)) (OkY.ev hG hm n ss h1 hob1 ⟨rfl, rfl⟩) ?_
      rintro e' s' ⟨rfl, rfl⟩
      refine ⟨_, hQ, fun dd A ρ a w hR => forget_rs hR keep j (closed_of _ _ h2 hob2), fun id hid => take_none hid⟩
    · cases h
  · cases h
def loopGY (I : Nat → SG → Prop) (n M : Nat) (Q : EvX → SG → Prop) : EvX → SG → Prop
  | .normal, s => ∃ k st2, k < n ∧ I k (st2, s.2) ∧ (∀ dd A ρ a w, RS dd A ρ s.1 a w → RS dd A ρ st2 a w) ∧ ∀ id, memL st2.mem id ≠ none → memL s.1.mem id ≠ none
  | .exit j, s => Q (.exit j) s
  | .ret, s => Q .ret s
theorem OkY.loopB {c : Code} (p : List Bool) (e : cE c p = .loop (cE c (p ++ [false]))) (I : Nat → SG → Prop) (n : Nat) (h0 : I n s) (h : ∀ n s, I n s → OkY Y P (cE c (p ++ [false])) s (loopGY I n s.1.mem.length Q)) : OkY Y P (cE c p) s Q := by
  rw [e]
  refine OkY.loop I n h0 fun n s1 hI => ?_
  refine OkY.reshape (h n s1 hI) fun x s2 hx => ?_
  cases x with
  | normal =>
    obtain ⟨k, st2, h1, h2, h3, h4⟩ := hx
    exact ⟨st2, ⟨k, h1, h2⟩, h3, h4⟩
  | exit i => exact ⟨s2.1, hx, fun _ _ _ _ _ h => h, fun _ h => h⟩
  | ret => exact ⟨s2.1, hx, fun _ _ _ _ _ h => h, fun _ h => h⟩
theorem loop_gY {I : Nat → SG → Prop} {n M : Nat} {st2 : St} {ob : List Prop} (keep : List Nat) (j k : Nat) (hk : k < n) (hj : Nat.ble M j = true) (h : preG s.1 keep j = some (st2, ob)) (hob : AllP ob) (hI : I k (st2, s.2)) : loopGY I n M Q .normal s := by
  obtain ⟨o, h1, h2⟩ := Option.map_eq_some_iff.1 h
  cases h2
  obtain ⟨q1, q2⟩ := closedR_of _ _ h1 hob
  exact ⟨k, _, hk, hI, fun dd A ρ a w hR => (renew_rs (forget_rs hR keep j q1) (rows_take q2)).1, (name_ren (L := 0) (.inl (Nat.zero_le _))).sub⟩
theorem loopg_eY {I : Nat → SG → Prop} {n M j : Nat} (h : Q (.exit j) s) : loopGY I n M Q (.exit j) s := h
theorem loopg_rY {I : Nat → SG → Prop} {n M : Nat} (h : Q .ret s) : loopGY I n M Q .ret s := h
theorem OkY.preE {c : Code} {st2 : St} {ob : List Prop} (keep : List Nat) (h : preF s.1 keep = some (st2, ob)) (hob : AllP ob) (k : OkY Y P c (st2, s.2) Q) : OkY Y P c s Q := by
  obtain ⟨o, h1, h2⟩ := Option.map_eq_some_iff.1 h
  cases h2
  obtain ⟨q1, q2⟩ := closedR_of _ _ h1 hob
  exact k.pre (fun dd A ρ a w hR => (renew_rs (forget_rs hR keep s.1.mem.length (by unfold ClosedM; rw [List.take_length]; exact q1)) (rows_take (by rw [List.take_length]; exact q2))).1) (name_ren (L := 0) (.inl (Nat.zero_le _))).sub
theorem st_toY {e : EvX} {s s' : SG} (h : s = s') (k : Q e s') : Q e s := h ▸ k
/-- The region at a place of the code, and the call of yield in it. -/
def regOps : Code → Array Oper
  | .region _ ops _ => ops
  | _ => #[]
def isReg : Code → Bool
  | .region _ _ false => true
  | _ => false
def preS (P : Program) (c : Code) (i : Nat) (ss : List Sup) (st : St) : Option (St × List Prop) := match evSeq P (regOps c).toList ((regOps c).toList.take i) ss st with
  | some (s1, [], ob) => some (s1, ob)
  | _ => none
def postS (P : Program) (c : Code) (i : Nat) (ss : List Sup) (st : St) : Option (St × List Prop) := match evSeq P (regOps c).toList ((regOps c).toList.drop (i + 1)) ss st with
  | some (s1, [], ob) => some (s1, ob)
  | _ => none
def yView (c : Code) (i : Nat) (s1 : St) : Option (Option Nat × AV × List AV) := match (regOps c).toList[i]? with
  | some o => match o.op with
    | .call { callee := .value f, args, argTypes := _ } => match wantedAV (regOps c).toList s1.τ o with
      | some true => some (o.dst, opd s1.τ f, args.toList.map (opd s1.τ))
      | _ => none
    | _ => none
  | none => none
theorem OkY.yieldP (hG : Y.Good P) {c : Code} (p : List Bool) {k : Nat} (e : isReg (cE c p) = true) (hs : s.2 = (k, false)) (i : Nat) (ss : List Sup) {s1 : St} {ob1 : List Prop} (h1 : preS P (cE c p) i ss s.1 = some (s1, ob1)) (hob1 : AllP ob1)
    {dst : Option Nat} {x : List AV} (hv : yView (cE c p) i s1 = some (dst, .func (.yield Y.l) [] [], x)) (hx : Y.xs[k]? = some x) (hpl : plainL x = true) (hid : idsL x = [])
    (st : List Sup) {t2 : St} {obt : List Prop} (h2 : postS P (cE c p) i st (s1.put dst (.bool true)) = some (t2, obt)) (hobt : AllP obt) (sf : List Sup) {f2 : St} {obf : List Prop} (h3 : postS P (cE c p) i sf (s1.put dst (.bool false)) = some (f2, obf)) (hobf : AllP obf)
    (hQt : Q .normal (t2, k + 1, false)) (hQf : Q .normal (f2, k + 1, true)) : OkY Y P (cE c p) s Q := by
  generalize cE c p = c at *
  cases c with
  | region id ops b =>
    cases b with
    | true => cases e
    | false =>
      unfold yView at hv
      split at hv
      · rename_i o ho
        split at hv
        · rename_i f args ts hop
          split at hv
          · rename_i hw
            simp only [Option.some.injEq, Prod.mk.injEq] at hv
            obtain ⟨rfl, hf, rfl⟩ := hv
            have g : ∀ {l : List Oper} {ss : List Sup} {a s1 : St} {ob : List Prop}, (match evSeq P ops.toList l ss a with | some (s1, [], ob) => some (s1, ob) | _ => none) = some (s1, ob) → evSeq P ops.toList l ss a = some (s1, [], ob) := fun h => by
              split at h
              · rename_i h'; cases h; exact h'
              · cases h
            exact OkY.yield hG hs i (by simpa [regOps] using ho) ss (g h1) hob1 hw hop hf hx hpl hid st (g h2) hobt sf (g h3) hobf hQt hQf
          · cases hv
        · cases hv
      · cases hv
  | _ => cases e

/-! ### A loop over a function, at a place of the code -/
theorem st_is {L : Nat} {c : Code} {Q : EvX → St → Prop} {st st' : St} (h : st = st') (k : Ok L P c st' Q) : Ok L P c st Q := h ▸ k
theorem range_elem {α β : Type} {f : α → β} {L : List α} {k : Nat} {x : β} (h : (L.map f)[k]? = some x) : ∃ r, L[k]? = some r ∧ f r = x := by
  simpa [List.getElem?_map] using h
theorem len_all {α : Type} {f : α → List AV} {L : List α} {n : Nat} (h : ∀ x, (f x).length = n) : ∀ x ∈ L.map f, x.length = n := fun x hx => by
  obtain ⟨y, _, rfl⟩ := List.mem_map.1 hx
  exact h y
theorem Ok.rangeP {L j : Nat} {c : Code} {g : Operand} {ps : Array Tmp} {st : St} {Q : EvX → St → Prop} {gf : FuncId} {cap args : List AV} {ob ob2 : List Prop} {bl : Bool} {xs : List (List AV)} (p : List Bool) (e : cE c p = .rangeFunc g ps (cE c (p ++ [false])) (cE c (p ++ [true]))) (keep : List Nat)
    (hg : opd st.τ g = .func (.func gf) [] cap) (hin : inlArgs (memFrom j st.mem) cap = some (args, ob, bl)) (hob : AllP ob) (hit : Iter P gf args xs) (hps : ∀ x ∈ xs, x.length = ps.size) (hL : Nat.ble L j = true) (hcl : closedR j (st.mem.take j) = some ob2) (hob2 : AllP ob2)
    (hpo : ptrOnlyL j (st.forget keep j).tmps = true) (I : Nat → List Blk → Prop) (Ix : EvX → List Blk → Prop) (h0 : I 0 (st.mem.take j))
    (hround : ∀ k x M, xs[k]? = some x → I k M → Ok j P (cE c (p ++ [false])) (setPs ps.toList x ⟨(st.forget keep j).tmps, M⟩) (fun e s => e = .normal ∧ Ok j P (cE c (p ++ [true])) s (roundQ I Ix j k)))
    (hdone : ∀ M, I xs.length M → Q .normal ⟨(st.forget keep j).tmps, M⟩) (hstop : ∀ e M, e ≠ .normal → Ix e M → Q e ⟨(st.forget keep j).tmps, M⟩) : Ok L P (cE c p) st Q := by
  rw [e]
  exact Ok.range keep hg hin hob hit hps (Nat.le_of_ble_eq_true hL) (closedR_of _ _ hcl hob2).1 hpo I Ix h0 hround hdone hstop

end
end
section
open Go.RowKit

def frzV (M : List Blk) (j : Nat) (keep : List Nat) (t : Nat) (x : AV) : AV × List Prop :=
  if keep.contains t then (if belowV j x then (x, []) else match inl (memFrom j M) x with
    | some (y, ob, _) => (y, ob)
    | none => (.any, [])) else (.any, [])
def frzL (M : List Blk) (j : Nat) (keep : List Nat) : Nat → List AV → List AV × List Prop
  | _, [] => ([], [])
  | t, x :: l => ((frzV M j keep t x).1 :: (frzL M j keep (t + 1) l).1, (frzV M j keep t x).2 ++ (frzL M j keep (t + 1) l).2)
theorem frzL_get (M : List Blk) (j : Nat) (keep : List Nat) : ∀ (l : List AV) (t i : Nat), (frzL M j keep t l).1[i]? = (l[i]?).map fun x => (frzV M j keep (t + i) x).1
  | [], t, i => by simp [frzL]
  | x :: l, t, 0 => by simp [frzL]
  | x :: l, t, i + 1 => by
    rw [frzL, List.getElem?_cons_succ, List.getElem?_cons_succ, frzL_get M j keep l (t + 1) i]
    congr 1; funext x; rw [show t + 1 + i = t + (i + 1) by omega]
theorem frzL_len (M : List Blk) (j : Nat) (keep : List Nat) : ∀ (l : List AV) (t : Nat), (frzL M j keep t l).1.length = l.length
  | [], t => by simp [frzL]
  | x :: l, t => by simp [frzL, frzL_len M j keep l (t + 1)]
theorem frzL_ob (M : List Blk) (j : Nat) (keep : List Nat) : ∀ (l : List AV) (t : Nat), AllP (frzL M j keep t l).2 → ∀ i x, l[i]? = some x → AllP (frzV M j keep (t + i) x).2
  | [], t, _, i, x, h => by simp at h
  | y :: l, t, hob, 0, x, h => by
    simp at h; subst h
    exact (AllP.append hob).1
  | y :: l, t, hob, i + 1, x, h => by
    have := frzL_ob M j keep l (t + 1) (AllP.append hob).2 i x (by simpa using h)
    rwa [show t + 1 + i = t + (i + 1) by omega] at this
def St.frz (s : St) (keep : List Nat) (j : Nat) : St := ⟨(frzL s.mem j keep 0 s.tmps).1, s.mem.take j⟩
theorem frz_alien {L : Nat} {A : Nat → Prop} {ρ : Nat → Nat} {w : World} {M : List Blk} {j q : Nat} {b : Bool} (hL : L ≤ j) (hF : Fits A (memL M) ρ w) (hup : Up L A (memL M) ρ w) (h : LentP (memFrom j M) ρ b q ∨ Alien A (memL M) ρ w q) : Alien A (memL (M.take j)) ρ w q := by
  rcases h with ⟨_, id, blk, h1, rfl⟩ | h
  · unfold memFrom at h1
    split at h1
    · rename_i hj
      have hm : memL M id ≠ none := by simp only [memL]; rw [h1]; simp
      refine ⟨hup.own id (by omega) hm, hF.lt hm, fun id' hid' he => ?_⟩
      have e := hF.inj id' id (take_none hid') hm he
      subst e
      simp only [memL, List.getElem?_take] at hid'
      rw [if_neg (by omega)] at hid'
      exact hid' rfl
    · cases h1
  · exact ⟨h.1, h.2.1, fun id hid => h.2.2 id (take_none hid)⟩
theorem frz_rs {L : Nat} {dd : List Deferred} {A : Nat → Prop} {ρ : Nat → Nat} {s : St} {a : Act} {w : World} (h : RS dd A ρ s a w) (keep : List Nat) (j : Nat) (hL : L ≤ j) (hc : ClosedM s.mem j) (hup : Up L A (memL s.mem) ρ w) (hob : AllP (frzL s.mem j keep 0 s.tmps).2) : RS dd A ρ (s.frz keep j) a w := by
  have hf := forget_rs h keep j hc
  refine ⟨hf.fits, by rw [h.size]; simp [St.frz, frzL_len], h.df, fun t v hv => ?_⟩
  simp only [St.frz] at hv
  rw [frzL_get, Nat.zero_add] at hv
  obtain ⟨x, h1, rfl⟩ := Option.map_eq_some_iff.1 hv
  have ho := frzL_ob s.mem j keep s.tmps 0 hob t x h1
  rw [Nat.zero_add] at ho
  unfold frzV at ho ⊢
  split
  · rename_i hk
    rw [if_pos hk] at ho
    split
    · rename_i hb
      have := hf.rep t (forgetV j keep t x) (by simp only [St.forget]; rw [forgetL_get, h1, Nat.zero_add]; rfl)
      rw [forgetV, if_pos (by rw [hk, hb]; rfl)] at this
      exact this
    · rename_i hb
      rw [if_neg hb] at ho
      split
      · rename_i y ob b hin
        rw [hin] at ho
        exact .base ((inl_ok (look := memFrom j s.mem) h.fits (fun id b hb => by
          unfold memFrom at hb
          split at hb
          · exact hb
          · cases hb) x y ob b hin ho _ (h.rep t x h1)).mono (fun q hq => frz_alien hL h.fits hup hq) (fun _ _ _ => rfl))
      · exact .base (.any _)
  · exact .base (.any _)
def preZ (st : St) (keep : List Nat) (j : Nat) : Option (St × List Prop) := (closedR j (st.mem.take j)).map fun ob => ((st.frz keep j).renew, ob ++ (frzL st.mem j keep 0 st.tmps).2)
/-- From here on, what lies at the names from j on is only read. -/
theorem Ok.frz {P : Program} {L : Nat} {Q : EvX → St → Prop} {c : Code} {st st' : St} {ob : List Prop} (keep : List Nat) (j : Nat) (h : preZ st keep j = some (st', ob)) (hob : AllP ob) (k : Ok L P c st' Q) (hL : Nat.ble L j = true := by kernel_rfl) : Ok L P c st Q := fun ro dd A ρ a w hro hR hup => by
  obtain ⟨o, h1, h2⟩ := Option.map_eq_some_iff.1 h
  cases h2
  obtain ⟨hob1, hob2⟩ := AllP.append hob
  obtain ⟨q1, q2⟩ := closedR_of _ _ h1 hob1
  obtain ⟨e1, e2⟩ := renew_rs (frz_rs hR keep j (Nat.le_of_ble_eq_true hL) q1 hup hob2) (rows_take (keep := keep) q2)
  have e3 : NameK L st.mem ((st.frz keep j).renew).mem := name_ren (keep := keep) (.inl (Nat.le_of_ble_eq_true hL))
  refine Code.wpIn_mono (fun e a' w' ⟨x, st1, ρ', ds, h3, h4, h5, h6⟩ => ⟨x, st1, ρ', ds, h3, h4, h5, ⟨⟨h6.ext.os, h6.ext.tape, h6.ext.output, h6.ext.size, fun b hb hn => h6.ext.frame b hb fun id hid => hn id (take_none (e2 id hid)), fun id hid => ?_⟩, fun id hi b hk hc => ?_, h6.mks⟩⟩) (k ro dd A ρ a w hro e1 (hup.sub fun id hid => take_none (e2 id hid)))
  · rcases h6.ext.ids id hid with ⟨h7, h8⟩ | h7
    · exact .inl ⟨take_none (e2 id h7), h8⟩
    · exact .inr h7
  · obtain ⟨b', hc', he'⟩ := e3.low id hi b hk hc
    obtain ⟨⟨b2, g1, g2⟩, g3⟩ := h6.pre id hi b' (he' ▸ hk) hc'
    exact ⟨⟨b2, g1, g2.trans he'⟩, g3⟩
theorem Ok.told {P : Program} {L : Nat} {Q : EvX → St → Prop} {c : Code} {st st2 : St} (e : st = st2) (k : Ok L P c st2 Q) : Ok L P c st Q := e ▸ k
end
end Go.Proofs.Ytglfbdicclepcaa
