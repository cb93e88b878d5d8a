/- A range over a function. For every program. -/
import Derived.Test.YtkijlggnnbdeiaaEvV
set_option linter.unusedVariables false
set_option linter.unusedSimpArgs false
namespace Go.Proofs.Ytkijlggnnbdeiaa
open Go.RowKit

/-- What lies below n, or at places of S, stays; of the rest nothing is asked. -/
def Frm (n : Nat) (J : Nat → (Nat → Prop) → World → Prop) : Prop :=
  ∀ k S W W', J k S W → W'.os = W.os → W'.tape = W.tape → W'.output = W.output → W.heap.size ≤ W'.heap.size → (∀ b, b < W.heap.size → (b < n ∨ S b) → W'.heap[b]? = W.heap[b]?) → J k S W'

structure GrowS (S : Nat → Prop) (W W' : World) : Prop where
  os : W'.os = W.os
  tape : W'.tape = W.tape
  output : W'.output = W.output
  size : W.heap.size ≤ W'.heap.size
  same : ∀ b, b < W.heap.size → ¬ S b → W'.heap[b]? = W.heap[b]?
theorem GrowS.refl (S : Nat → Prop) (W : World) : GrowS S W W := ⟨rfl, rfl, rfl, Nat.le_refl _, fun _ _ _ => rfl⟩

/-- What an iterator gives: elements without references, in this order, to any loop body. -/
def Iter (P : Program) (gf : FuncId) (args : List AV) (xs : List (List AV)) : Prop :=
  callable P gf = true ∧ ∀ (B : Nat → Prop) (w : World) (vs : Array Value), vs.size = args.length → (∀ i x, args[i]? = some x → RI w (fun b => B b ∧ b < w.heap.size) x (vs.getD i undef)) →
  ∀ (l : Nat) (J Jx : Nat → (Nat → Prop) → World → Prop) (S : Nat → Prop), Frm w.heap.size J → Frm w.heap.size Jx → (∀ b, S b → b < w.heap.size ∧ ¬ B b) →
    (∀ k x S1 W1 (ys : Array Value), xs[k]? = some x → J k S1 W1 → w.heap.size ≤ W1.heap.size → ys.size = x.length → (∀ i c, x[i]? = some c → RI W1 (fun _ => False) c (ys.getD i undef)) →
      YieldAt Fence.wide 0 P l ys W1 fun e W' => ∃ S2, (∀ b, S2 b → b < W'.heap.size ∧ (S1 b ∨ W1.heap.size ≤ b)) ∧ GrowS S1 W1 W' ∧ ((e = .returned (.bool true) ∧ J (k + 1) S2 W') ∨ (e = .returned (.bool false) ∧ Jx (k + 1) S2 W'))) →
    J 0 S w → Calls P gf (#[.func (.yield l) #[] #[]] ++ vs) w fun e W' => (∃ v, e = .returned v) ∧ ∃ S2, GrowS S w W' ∧ (J xs.length S2 W' ∨ ∃ k, Jx k S2 W')

mutual
def ptrOnly (j : Nat) : AV → Bool
  | .ptr id _ => Nat.blt id j
  | .ptrR _ _ _ _ => false
  | .slice _ _ _ _ => false
  | .agg cs => ptrOnlyL j cs
  | .tuple cs => ptrOnlyL j cs
  | .func _ p c => ptrOnlyL j p && ptrOnlyL j c
  | .iface _ v => ptrOnly j v
  | _ => true
def ptrOnlyL (j : Nat) : List AV → Bool
  | [] => true
  | v :: l => ptrOnly j v && ptrOnlyL j l
end
theorem ptrOnlyL_get {j : Nat} : ∀ {l : List AV} {i : Nat} {x : AV}, ptrOnlyL j l = true → l[i]? = some x → ptrOnly j x = true
  | [], i, x, _, hx => by simp at hx
  | v :: l, 0, x, h, hx => by simp at hx; subst hx; simp only [ptrOnlyL, Bool.and_eq_true] at h; exact h.1
  | v :: l, i + 1, x, h, hx => by simp only [ptrOnlyL, Bool.and_eq_true] at h; exact ptrOnlyL_get h.2 (by simpa using hx)

/-- A value of the loop's start, in a later round. -/
theorem Rep.carry {A A' : Nat → Prop} {m m' : Mem} {ρ ρ' : Nat → Nat} {w w' : World} {j : Nat} (hA : ∀ b, Alien A m ρ w b → Alien A' m' ρ' w' b) (hc : ∀ b, Alien A m ρ w b → ∀ o, w'.cell? ⟨b, o, none⟩ = w.cell? ⟨b, o, none⟩) (hp : PreC j m ρ m' ρ') {x : AV} {v : Value} (h : Rep A m ρ w x v) (hx : ptrOnly j x = true) : Rep A' m' ρ' w' x v := by
  induction h with
  | base h => exact .base (h.mono hA hc)
  | ptr id off cs h =>
    have hlt : id < j := by simp only [ptrOnly] at hx; exact Eq.mp Nat.blt_eq hx
    obtain ⟨⟨cs', h1⟩, h2⟩ := hp id hlt cs h
    rw [← h2]
    exact .ptr id off cs' h1
  | ptrR id ver i off k es ver' a h hle hv => simp [ptrOnly] at hx
  | slice id lo len ver k es ver' a n c h hle hv => simp [ptrOnly] at hx
  | agg cs vs hs h ih => simp only [ptrOnly] at hx; exact .agg cs vs hs fun i c hi => ih i c hi (ptrOnlyL_get hx hi)
  | tuple cs vs hs h ih => simp only [ptrOnly] at hx; exact .tuple cs vs hs fun i c hi => ih i c hi (ptrOnlyL_get hx hi)
  | func f p c ps cs hp' hc' h k ih ik =>
    simp only [ptrOnly, Bool.and_eq_true] at hx
    exact .func f p c ps cs hp' hc' (fun i x hi => ih i x hi (ptrOnlyL_get hx.1 hi)) (fun i x hi => ik i x hi (ptrOnlyL_get hx.2 hi))
  | iface t x v h ih => simp only [ptrOnly] at hx; exact .iface t x v (ih hx)

theorem Rep.same {A A' : Nat → Prop} {m : Mem} {ρ : Nat → Nat} {w w' : World} (hA : ∀ b, Alien A m ρ w b → Alien A' m ρ w' b ∧ w'.heap[b]? = w.heap[b]?) (ho : ∀ id, m id ≠ none → w'.heap[ρ id]? = w.heap[ρ id]?) {x : AV} {v : Value} (h : Rep A m ρ w x v) : Rep A' m ρ w' x v := by
  induction h with
  | base h => exact .base (h.mono (fun b hb => (hA b hb).1) (fun b hb o => by simp only [World.cell?]; rw [(hA b hb).2]))
  | ptr id off cs h => exact .ptr id off cs h
  | ptrR id ver i off k es ver' a h hle hv => exact .ptrR id ver i off k es ver' a h hle hv
  | slice id lo len ver k es ver' a n c h hle hv =>
    exact .slice id lo len ver k es ver' a n c h hle (fun e => by
      obtain ⟨h1, h2, o, vs, t, h3, h4, h5, h6, h7⟩ := hv e
      exact ⟨h1, h2, o, vs, t, h3, h4, h5, by rw [ho id (by rw [h]; simp)]; exact h6, h7⟩)
  | agg cs vs hs h ih => exact .agg cs vs hs ih
  | tuple cs vs hs h ih => exact .tuple cs vs hs ih
  | func f p c ps cs hp hc' h k ih ik => exact .func f p c ps cs hp hc' ih ik
  | iface t x v h ih => exact .iface t x v ih
theorem Fits.same {A A' : Nat → Prop} {m : Mem} {ρ : Nat → Nat} {w w' : World} (hA : ∀ b, Alien A m ρ w b → Alien A' m ρ w' b ∧ w'.heap[b]? = w.heap[b]?) (ho : ∀ id, m id ≠ none → w'.heap[ρ id]? = w.heap[ρ id]?) (h : Fits A m ρ w) : Fits A' m ρ w' := ⟨h.inj, fun id b hb => by
  have hq := ho id (by rw [hb]; simp)
  have := h.at_ id b hb
  cases b with
  | cells cs =>
    obtain ⟨vs, t, h1, h2, h3⟩ := this
    exact ⟨vs, t, hq.trans h1, h2, fun i c hi => (h3 i c hi).same hA ho⟩
  | row k es ver =>
    obtain ⟨h0, h4, vs, t, h1, h2, h3⟩ := this
    exact ⟨h0, h4, vs, t, hq.trans h1, h2, fun i e j c he hc' => (h3 i e j c he hc').same hA ho⟩⟩
theorem RS.same {dd : List Deferred} {A A' : Nat → Prop} {ρ : Nat → Nat} {st : St} {a : Act} {w w' : World} (hA : ∀ b, Alien A (memL st.mem) ρ w b → Alien A' (memL st.mem) ρ w' b ∧ w'.heap[b]? = w.heap[b]?) (ho : ∀ id, memL st.mem id ≠ none → w'.heap[ρ id]? = w.heap[ρ id]?) (h : RS dd A ρ st a w) : RS dd A' ρ st a w' :=
  ⟨h.fits.same hA ho, h.size, h.df, fun t v hv => (h.rep t v hv).same hA ho⟩

/-! ### Parameters -/

def setPs : List Nat → List AV → St → St
  | p :: ps, x :: xs, s => setPs ps xs (s.put (some p) x)
  | _, _, s => s
theorem setPs_mem : ∀ (ps : List Nat) (xs : List AV) (s : St), (setPs ps xs s).mem = s.mem
  | [], xs, s => by cases xs <;> rfl
  | p :: ps, [], s => rfl
  | p :: ps, x :: xs, s => (setPs_mem ps xs _).trans rfl
theorem rs_setPs {dd : List Deferred} {A : Nat → Prop} {ρ : Nat → Nat} {w : World} : ∀ (ps : List Nat) (xs : List AV) (vs : List Value) (st : St) (a : Act), RS dd A ρ st a w → xs.length = vs.length →
    (∀ i x, xs[i]? = some x → Rep A (memL st.mem) ρ w x (vs.getD i undef)) → RS dd A ρ (setPs ps xs st) { a with tmps := (ps.zip vs).foldl (fun t pv => t.setIfInBounds pv.1 pv.2) a.tmps } w
  | [], xs, vs, st, a, h, _, _ => by cases xs <;> exact h
  | p :: ps, [], vs, st, a, h, hl, _ => by
    have : vs = [] := List.length_eq_zero_iff.1 hl.symm
    subst this; exact h
  | p :: ps, x :: xs, [], st, a, h, hl, _ => by simp at hl
  | p :: ps, x :: xs, v :: vs, st, a, h, hl, hr => by
    have h1 := h.put (some p) (hr 0 x rfl)
    exact rs_setPs ps xs vs _ _ h1 (by simpa using hl) (fun i y hy => hr (i + 1) y (by simpa using hy))

/-! ### The rule -/

def memFrom (j : Nat) (M : List Blk) : Mem := fun id => if j ≤ id then M[id]? else none
def CutR (j : Nat) (s : St) (M : List Blk) : Prop := (∀ dd A ρ a w, RS dd A ρ s a w → Fits A (memL M) ρ w) ∧ NameK j s.mem M
def roundQ (I : Nat → List Blk → Prop) (Ix : EvX → List Blk → Prop) (j k : Nat) : EvX → St → Prop
  | .normal, s => ∃ M, I (k + 1) M ∧ CutR j s M
  | .exit i, s => ∃ M, Ix (.exit i) M ∧ CutR j s M
  | .ret, s => ∃ M, Ix .ret M ∧ CutR j s M
theorem cut_of {s s' : St} {j : Nat} {ob : List Prop} (h : preG s [] j = some (s', ob)) (hob : AllP ob) : CutR j s s'.mem := by
  obtain ⟨o, h1, h2⟩ := Option.map_eq_some_iff.1 h
  cases h2
  obtain ⟨q1, q2⟩ := closedR_of _ _ h1 hob
  exact ⟨fun dd A ρ a w hR => (renew_rs (forget_rs hR [] j q1) (rows_take q2)).1.fits, name_renew (Nat.le_refl _)⟩
theorem round_n {I : Nat → List Blk → Prop} {Ix : EvX → List Blk → Prop} {j k : Nat} {s : St} (s' : St) {ob : List Prop} (h : preG s [] j = some (s', ob)) (hob : AllP ob) (hI : I (k + 1) s'.mem) : roundQ I Ix j k .normal s := ⟨_, hI, cut_of h hob⟩
theorem round_e {I : Nat → List Blk → Prop} {Ix : EvX → List Blk → Prop} {j k i : Nat} {s : St} (s' : St) {ob : List Prop} (h : preG s [] j = some (s', ob)) (hob : AllP ob) (hI : Ix (.exit i) s'.mem) : roundQ I Ix j k (.exit i) s := ⟨_, hI, cut_of h hob⟩
theorem round_r {I : Nat → List Blk → Prop} {Ix : EvX → List Blk → Prop} {j k : Nat} {s : St} (s' : St) {ob : List Prop} (h : preG s [] j = some (s', ob)) (hob : AllP ob) (hI : Ix .ret s'.mem) : roundQ I Ix j k .ret s := ⟨_, hI, cut_of h hob⟩

def EvX.code : EvX → Code
  | .exit i => .exit i
  | _ => .ret
/-- Where a loop over a function begins: its record, and at most one mark. -/
theorem enter_loop {P : Program} (ro : Option Nat) {w : World} (hro : RoOk ro w) (fn : FuncId) (tmps : Array Value) (ps : Array Tmp) (assign body : Code) :
    ∃ (r : Loop) (Ds : List Nat) (l : Nat) (w1 : World), (Instr.enterLoop fn tmps ps assign body ro).run P w = .ok (l, Ds.map mkD) w1 ∧ w1.heap[l]? = some (.loop r) ∧ r.state = .ready ∧ r.pending = none ∧ r.fn = fn ∧ r.tmps = tmps ∧ r.params = ps ∧ r.assign = assign ∧ r.body = body ∧
      w.heap.size ≤ l ∧ CalmW w w1 ∧ (∀ b, b < w.heap.size → w1.heap[b]? = w.heap[b]?) ∧ Ds.Nodup ∧ ∀ D ∈ Ds, w.heap.size ≤ D ∧ D ≠ l ∧ w1.heap[D]? = some (.deferred (some [])) := by
  cases ro with
  | none =>
    refine ⟨{ state := .ready, pending := none, fn, tmps, params := ps, assign, body, defers := w.heap.size }, [w.heap.size], _, _, run_enterLoop_outer fn tmps ps assign body, ?_, rfl, rfl, rfl, rfl, rfl, rfl, rfl, by omega, (calmw_alloc w _).trans (calmw_alloc _ _), fun b hb => ?_, by simp, fun D hD => ?_⟩
    · have := World.alloc_heap_new (w.alloc (.deferred (some []))) (.loop { state := .ready, pending := none, fn, tmps, params := ps, assign, body, defers := w.heap.size })
      rwa [World.size_alloc] at this
    · rw [heap_push _ _ _ (by simp; omega), heap_push _ _ _ hb]
    · have hD : D = w.heap.size := by simpa using hD
      subst hD
      refine ⟨Nat.le_refl _, by omega, ?_⟩
      rw [heap_push _ _ _ (by simp)]
      exact World.alloc_heap_new w _
  | some l₀ =>
    obtain ⟨r₀, hr₀⟩ := hro l₀ rfl
    refine ⟨{ state := .ready, pending := none, fn, tmps, params := ps, assign, body, defers := r₀.defers }, [], _, _, run_enterLoop_inner hr₀ fn tmps ps assign body, World.alloc_heap_new w _, rfl, rfl, rfl, rfl, rfl, rfl, rfl, Nat.le_refl _, calmw_alloc w _, fun b hb => heap_push _ _ _ hb, by simp, fun D hD => by simp at hD⟩

def AS (A : Nat → Prop) (n l : Nat) (S : Nat → Prop) (W : World) (b : Nat) : Prop := A b ∧ b ≠ l ∧ (b < n ∨ S b ∨ W.heap.size ≤ b)
/-- What is known between two rounds: of the start m0, ρ0 (its heap ends at z), of the iterator's call (the heap ends at n). -/
structure Mid (A : Nat → Prop) (m0 : Mem) (ρ0 : Nat → Nat) (z n j l : Nat) (Ds : List Nat) (τ : List AV) (dd : List Deferred) (a : Act) (r : Loop) (M : List Blk) (ρ : Nat → Nat) (S : Nat → Prop) (W : World) : Prop where
  rs : RS dd (AS A n l S W) ρ ⟨τ, M⟩ a W
  pre : PreC j m0 ρ0 (memL M) ρ
  ids : ∀ id, memL M id ≠ none → (m0 id ≠ none ∧ ρ id = ρ0 id) ∨ z ≤ ρ id
  own : ∀ id, memL M id ≠ none → S (ρ id)
  sl : S l
  sD : ∀ D ∈ Ds, S D
  lt : ∀ b, S b → b < W.heap.size
  rec_ : W.heap[l]? = some (.loop r)
  mrk : ∀ D ∈ Ds, W.heap[D]? = some (.deferred (some []))
  nle : n ≤ W.heap.size

section
variable {P : Program} {A : Nat → Prop} {m0 : Mem} {ρ0 : Nat → Nat} {z n j l : Nat} {Ds : List Nat} {τ : List AV} {dd : List Deferred} {a : Act} {r : Loop} {M : List Blk} {ρ : Nat → Nat} {S : Nat → Prop} {W : World}

theorem Mid.later (h : Mid A m0 ρ0 z n j l Ds τ dd a r M ρ S W) {W' : World} (hs : W.heap.size ≤ W'.heap.size) (hb : ∀ b, b < W.heap.size → (b < n ∨ S b) → W'.heap[b]? = W.heap[b]?) : Mid A m0 ρ0 z n j l Ds τ dd a r M ρ S W' where
  rs := h.rs.same (fun b hA => by
    obtain ⟨⟨h1, h2, h3⟩, h4, h5⟩ := hA
    have h6 : b < n ∨ S b := by
      rcases h3 with h3 | h3 | h3
      · exact .inl h3
      · exact .inr h3
      · omega
    exact ⟨⟨⟨h1, h2, by rcases h6 with h6 | h6; exact .inl h6; exact .inr (.inl h6)⟩, by omega, h5⟩, hb b h4 h6⟩) (fun id hid => hb _ (h.lt _ (h.own id hid)) (.inr (h.own id hid)))
  pre := h.pre
  ids := h.ids
  own := h.own
  sl := h.sl
  sD := h.sD
  lt b hS := Nat.lt_of_lt_of_le (h.lt b hS) hs
  rec_ := (hb l (h.lt l h.sl) (.inr h.sl)).trans h.rec_
  mrk D hD := (hb D (h.lt D (h.sD D hD)) (.inr (h.sD D hD))).trans (h.mrk D hD)
  nle := Nat.le_trans h.nle hs

theorem Mid.own_ne (h : Mid A m0 ρ0 z n j l Ds τ dd a r M ρ S W) {id : Nat} (hid : memL M id ≠ none) : ρ id ≠ l := fun he => by
  obtain ⟨vs, t, h5⟩ := h.rs.fits.cellsAt hid
  rw [he, h.rec_] at h5; cases h5

/-- One round. -/
theorem mid_round (h : Mid A m0 ρ0 z n j l Ds τ dd a r M ρ S W) (hup : ∀ b, z ≤ b → A b) (hz : z ≤ n) (hl : z ≤ l) (hlD : ∀ D ∈ Ds, D ≠ l) (hst : r.state = .ready) (hpend : r.pending = none) (htm : r.tmps = a.tmps) (hpo : ptrOnlyL j τ = true) {I : Nat → List Blk → Prop} {Ix : EvX → List Blk → Prop} {k : Nat} {x : List AV} {ys : Array Value}
    (hx : x.length = r.params.size) (hys : ys.size = x.length) (hr : ∀ i c, x[i]? = some c → RI W (fun _ => False) c (ys.getD i undef))
    (hround : Ok j P r.assign (setPs r.params.toList x ⟨τ, M⟩) (fun e s => e = .normal ∧ Ok j P r.body s (roundQ I Ix j k))) :
    YieldAt Fence.wide 0 P l ys W fun e W' => ∃ S2, (∀ b, S2 b → b < W'.heap.size ∧ (S b ∨ W.heap.size ≤ b)) ∧ GrowS S W W' ∧
      ((e = .returned (.bool true) ∧ ∃ M' ρ', I (k + 1) M' ∧ Mid A m0 ρ0 z n j l Ds τ dd a r M' ρ' S2 W') ∨
       (e = .returned (.bool false) ∧ ∃ e' M' ρ', e' ≠ .normal ∧ Ix e' M' ∧ Mid A m0 ρ0 z n j l Ds τ dd a { r with state := .done, pending := some e'.code } M' ρ' S2 W')) := by
  have hy := run_yield (P := P) (args := ys) h.rec_ (by omega)
  refine ⟨_, _, _, _, hy, roundIn_of_wpIn trivial ?_⟩
  have hR0 : RS [] (AS A n l S W) ρ ⟨τ, M⟩ { tmps := r.tmps, defers := [] } W := ⟨h.rs.fits, by rw [htm]; exact h.rs.size, rfl, fun t v hv => by rw [htm]; exact h.rs.rep t v hv⟩
  have hR := rs_setPs r.params.toList x ys.toList _ _ hR0 (by simp [hys]) (fun i c hc => by
    have h1 : ys.toList.getD i undef = ys.getD i undef := by simp [List.getD_eq_getElem?_getD, Array.getD_eq_getD_getElem?]
    rw [h1]
    exact .base ((hr i c hc).mono (fun _ h => h.elim) (fun _ h => h.elim)))
  have htmp : (r.params.zip ys).foldl (fun tmps (x : Tmp × Value) => tmps.setIfInBounds x.1 x.2) r.tmps = (r.params.toList.zip ys.toList).foldl (fun t pv => t.setIfInBounds pv.1 pv.2) r.tmps := by
    rw [← Array.foldl_toList, Array.toList_zip]
  have hupW : ∀ b, W.heap.size ≤ b → AS A n l S W b := fun b hb => ⟨hup b (by have := h.nle; omega), by have := h.lt l h.sl; omega, .inr (.inr hb)⟩
  have hgo := hround (some l) [] (AS A n l S W) ρ _ W (fun l' hl' => by cases hl'; exact ⟨r, h.rec_⟩) hR hupW
  rw [← htmp] at hgo
  refine wpIn_mono hgo ?_
  rintro e aa Wa ⟨x1, s1, ρ1, ds1, rfl, ⟨rfl, hbody⟩, hR1, hG1⟩
  rw [setPs_mem] at hG1
  have hnl : ∀ id, memL M id ≠ none → ρ id ≠ l := fun id hid => h.own_ne hid
  have hlW := h.lt l h.sl
  have hl1 : Wa.heap[l]? = some (.loop r) := (hG1.ext.frame l hlW hnl).trans h.rec_
  refine ⟨_, run_beginRound hl1 hst, ?_⟩
  have hlWa := (Array.getElem?_eq_some_iff.1 hl1).1
  have hcp : CalmW Wa (Wa.putObj l (.loop { r with state := .busy })) := calmw_put hl1 rfl rfl
  have hl2 : (Wa.putObj l (.loop { r with state := .busy })).heap[l]? = some (.loop { r with state := .busy }) := World.putObj_heap_same hlWa
  have hgo2 := hbody (some l) _ (AS A n l S W) ρ1 aa _ (fun l' hl' => by cases hl'; exact ⟨_, hl2⟩) (hR1.calm hcp) (fun b hb => hupW b (Nat.le_trans hG1.ext.size (by simpa using hb)))
  refine wpIn_mono hgo2 ?_
  -- what holds behind the body
  have key : ∀ (e : EvX) (s2 : St) (ρ2 : Nat → Nat) (ds2 : List Deferred) (a3 : Act) (W3 : World) (r' : Loop) (M' : List Blk), RS (ds2 ++ (ds1 ++ [])) (AS A n l S W) ρ2 s2 a3 W3 → Gone j (memL s1.mem) ρ1 (Wa.putObj l (.loop { r with state := .busy })) (memL s2.mem) ρ2 W3 ds2 → CutR j s2 M' →
      W3.heap[l]? = some (.loop { r with state := .busy }) ∧ GrowS S W (W3.putObj l (.loop r')) ∧ Mid A m0 ρ0 z n j l Ds τ dd a r' M' ρ2 (fun b => S b ∨ (W.heap.size ≤ b ∧ b < W3.heap.size)) (W3.putObj l (.loop r')) := by
    intro e s2 ρ2 ds2 a3 W3 r' M' hR3 hG2 hcut
    have hn1 : ∀ id, memL s1.mem id ≠ none → ρ1 id ≠ l := fun id hid he => by
      obtain ⟨vs, t, h5⟩ := hR1.fits.cellsAt hid
      rw [he, hl1] at h5; cases h5
    have hl3 : W3.heap[l]? = some (.loop { r with state := .busy }) := (hG2.ext.frame l (by simpa using hlWa) hn1).trans hl2
    have hlW3 := (Array.getElem?_eq_some_iff.1 hl3).1
    have hsz : W.heap.size ≤ W3.heap.size := Nat.le_trans hG1.ext.size (by have := hG2.ext.size; simpa using this)
    have hsz1 := hG1.ext.size
    have hids : ∀ id, memL s2.mem id ≠ none → (memL M id ≠ none ∧ ρ2 id = ρ id) ∨ W.heap.size ≤ ρ2 id := fun id hid => by
      rcases hG2.ext.ids id hid with ⟨h1, h2⟩ | h1
      · rcases hG1.ext.ids id h1 with ⟨h3, h4⟩ | h3
        · exact .inl ⟨h3, h2.trans h4⟩
        · exact .inr (by omega)
      · exact .inr (by simp at h1; omega)
    have hfr : ∀ b, b < W.heap.size → b ≠ l → (∀ id, memL M id ≠ none → ρ id ≠ b) → W3.heap[b]? = W.heap[b]? := fun b hb hbl hno => by
      rw [hG2.ext.frame b (by simp; omega) (fun id hid he => ?_), World.putObj_heap_other hbl, hG1.ext.frame b hb hno]
      rcases hG1.ext.ids id hid with ⟨h1, h2⟩ | h1
      · exact hno id h1 (h2 ▸ he)
      · omega
    have hF := hcut.1 _ _ _ _ _ hR3
    have hsub : ∀ id, memL M' id ≠ none → memL s2.mem id ≠ none := hcut.2.sub
    have hpreM : PreC j (memL M) ρ (memL M') ρ2 := fun id hi cs hc => by
      obtain ⟨⟨cs', h1⟩, h2⟩ := (hG1.pre.trans hG2.pre) id hi cs hc
      exact ⟨hcut.2.low id hi cs' h1, h2⟩
    have hcp3 : CalmW W3 (W3.putObj l (.loop r')) := calmw_put hl3 rfl rfl
    have hSn : ∀ D ∈ Ds, ∀ id, memL M id ≠ none → ρ id ≠ D := fun D hD id hid he => by
      obtain ⟨vs, t, h5⟩ := h.rs.fits.cellsAt hid
      rw [he, h.mrk D hD] at h5; cases h5
    refine ⟨hl3, ⟨?_, ?_, ?_, by simpa using hsz, fun b hb hS => ?_⟩, ?_⟩
    · exact hG2.ext.os.trans hG1.ext.os
    · exact hG2.ext.tape.trans hG1.ext.tape
    · exact hG2.ext.output.trans hG1.ext.output
    · have hbl : b ≠ l := fun e => hS (e ▸ h.sl)
      rw [World.putObj_heap_other hbl]
      exact hfr b hb hbl fun id hid he => hS (he ▸ h.own id hid)
    · have hA3 : ∀ b, AS A n l S W b → b < W3.heap.size → AS A n l (fun b => S b ∨ (W.heap.size ≤ b ∧ b < W3.heap.size)) (W3.putObj l (.loop r')) b := fun b hb hlt => by
        obtain ⟨h1, h2, h3⟩ := hb
        refine ⟨h1, h2, ?_⟩
        rcases h3 with h3 | h3 | h3
        · exact .inl h3
        · exact .inr (.inl (.inl h3))
        · exact .inr (.inl (.inr ⟨h3, hlt⟩))
      have hFM : Fits (AS A n l (fun b => S b ∨ (W.heap.size ≤ b ∧ b < W3.heap.size)) (W3.putObj l (.loop r'))) (memL M') ρ2 W3 := hF.same (fun b hb => ⟨⟨hA3 b hb.1 hb.2.1, hb.2.1, hb.2.2⟩, rfl⟩) (fun _ _ => rfl)
      have hAl : ∀ b, Alien (AS A n l S W) (memL M) ρ W b → Alien (AS A n l (fun b => S b ∨ (W.heap.size ≤ b ∧ b < W3.heap.size)) (W3.putObj l (.loop r'))) (memL M') ρ2 W3 b := fun b hb => ⟨hA3 b hb.1 (by have := hb.2.1; omega), by have := hb.2.1; omega, fun id hid he => by
        rcases hids id (hsub id hid) with ⟨h1, h2⟩ | h1
        · exact hb.2.2 id h1 (h2 ▸ he)
        · have := hb.2.1; omega⟩
      have hcell : ∀ b, Alien (AS A n l S W) (memL M) ρ W b → ∀ o, W3.cell? ⟨b, o, none⟩ = W.cell? ⟨b, o, none⟩ := fun b hb o => by
        simp only [World.cell?]
        rw [hfr b hb.2.1 hb.1.2.1 hb.2.2]
      have hRS : RS dd (AS A n l (fun b => S b ∨ (W.heap.size ≤ b ∧ b < W3.heap.size)) (W3.putObj l (.loop r'))) ρ2 ⟨τ, M'⟩ a W3 := ⟨hFM, h.rs.size, h.rs.df, fun t v hv => (h.rs.rep t v hv).carry hAl hcell hpreM (ptrOnlyL_get hpo hv)⟩
      exact {
        rs := hRS.calm hcp3
        pre := h.pre.trans hpreM
        ids := fun id hid => by
          rcases hids id (hsub id hid) with ⟨h1, h2⟩ | h1
          · rcases h.ids id h1 with ⟨h3, h4⟩ | h3
            · exact .inl ⟨h3, h2.trans h4⟩
            · exact .inr (by omega)
          · exact .inr (by have := h.nle; omega)
        own := fun id hid => by
          have hlt := hF.lt hid
          rcases hids id (hsub id hid) with ⟨h1, h2⟩ | h1
          · exact .inl (h2 ▸ h.own id h1)
          · exact .inr ⟨h1, hlt⟩
        sl := .inl h.sl
        sD := fun D hD => .inl (h.sD D hD)
        lt := fun b hb => by
          rcases hb with hb | hb
          · have := h.lt b hb; simp; omega
          · simpa using hb.2
        rec_ := World.putObj_heap_same hlW3
        mrk := fun D hD => by
          rw [World.putObj_heap_other (hlD D hD), hfr D (h.lt D (h.sD D hD)) (hlD D hD) (hSn D hD)]
          exact h.mrk D hD
        nle := by have := h.nle; simp; omega }
  have hS2 : ∀ (W3 : World) (r' : Loop), W.heap.size ≤ (W3.putObj l (.loop r')).heap.size → ∀ b, (S b ∨ (W.heap.size ≤ b ∧ b < W3.heap.size)) → b < (W3.putObj l (.loop r')).heap.size ∧ (S b ∨ W.heap.size ≤ b) := fun W3 r' hle b hb => by
    rcases hb with hb | hb
    · exact ⟨by have := h.lt b hb; omega, .inl hb⟩
    · exact ⟨by simpa using hb.2, .inr hb.1⟩
  have hrr : ({ r with state := .ready, pending := none } : Loop) = r := by cases r; simp_all
  rintro e a3 W3 ⟨x2, s2, ρ2, ds2, rfl, hq, hR3, hG2⟩
  cases x2 with
  | normal =>
    obtain ⟨M', hI, hcut⟩ := hq
    obtain ⟨g1, g2, g3⟩ := key .normal s2 ρ2 ds2 a3 W3 r M' hR3 hG2 hcut
    have he := run_endRound (P := P) none g1
    simp only [Option.isNone_none, if_true] at he
    rw [hrr] at he
    exact ⟨_, _, he, _, hS2 W3 _ g2.size, g2, .inl ⟨rfl, M', ρ2, hI, g3⟩⟩
  | exit i =>
    obtain ⟨M', hI, hcut⟩ := hq
    obtain ⟨g1, g2, g3⟩ := key (.exit i) s2 ρ2 ds2 a3 W3 { r with state := .done, pending := some (.exit i) } M' hR3 hG2 hcut
    exact ⟨_, _, run_endRound (P := P) (some (.exit i)) g1, _, hS2 W3 _ g2.size, g2, .inr ⟨rfl, .exit i, M', ρ2, by simp, hI, g3⟩⟩
  | ret =>
    obtain ⟨M', hI, hcut⟩ := hq
    obtain ⟨g1, g2, g3⟩ := key .ret s2 ρ2 ds2 a3 W3 { r with state := .done, pending := some .ret } M' hR3 hG2 hcut
    exact ⟨_, _, run_endRound (P := P) (some .ret) g1, _, hS2 W3 _ g2.size, g2, .inr ⟨rfl, .ret, M', ρ2, by simp, hI, g3⟩⟩


theorem loop_done {r : Loop} {l : Nat} {W : World} (h : W.heap[l]? = some (.loop r)) (hs : r.state ≠ .busy) : (Instr.endLoop l).run P W = .ok r.pending (W.putObj l (.loop { r with state := .exhausted })) := run_endLoop h hs

/-- A loop over a function. -/
theorem Ok.range {L j : Nat} {g : Operand} {ps : Array Tmp} {assign body : Code} {st : St} {Q : EvX → St → Prop} {gf : FuncId} {cap args : List AV} {ob : List Prop} {bl : Bool} {xs : List (List AV)} (keep : List Nat)
    (hg : opd st.τ g = .func (.func gf) [] cap) (hin : inlArgs (memFrom j st.mem) cap = some (args, ob, bl)) (hob : AllP ob) (hit : Iter P gf args xs) (hps : ∀ x ∈ xs, x.length = ps.size) (hL : L ≤ j) (hcl : ClosedM st.mem j)
    (hpo : ptrOnlyL j (st.forget keep j).tmps = true) (I : Nat → List Blk → Prop) (Ix : EvX → List Blk → Prop) (h0 : I 0 (st.mem.take j))
    (hround : ∀ k x M, xs[k]? = some x → I k M → Ok j P assign (setPs ps.toList x ⟨(st.forget keep j).tmps, M⟩) (fun e s => e = .normal ∧ Ok j P body s (roundQ I Ix j k)))
    (hdone : ∀ M, I xs.length M → Q .normal ⟨(st.forget keep j).tmps, M⟩) (hstop : ∀ e M, e ≠ .normal → Ix e M → Q e ⟨(st.forget keep j).tmps, M⟩) : Ok L P (.rangeFunc g ps assign body) st Q := fun ro dd A ρ a w hro hR hup => by
  refine wpIn_rangeFunc ?_
  intro fn _
  obtain ⟨r, Ds, l, w1, e1, e2, e3, e3', e4, e5, e6, e7, e8, e9, hc, hbelow, hnd, hDs⟩ := enter_loop (P := P) ro hro fn a.tmps ps assign body
  have hfv := hR.opd g
  rw [hg] at hfv
  obtain ⟨pv, cv, hfe, hp0, hcs, _, hcr⟩ := rep_func hfv
  have hpv : pv = #[] := Array.eq_empty_of_size_eq_zero (by simpa using hp0)
  subst hpv
  have hsub : ∀ id b, memFrom j st.mem id = some b → memL st.mem id = some b := fun id b h => by
    unfold memFrom at h
    split at h
    · exact h
    · cases h
  obtain ⟨f1, f2⟩ := inlArgs_ok (look := memFrom j st.mem) hR.fits hsub cap args ob bl hin hob
  have f3 := f2 (fun i => cv.getD i undef) hcr
  have hRf := forget_rs hR keep j hcl
  have htake : ∀ id, memL (st.mem.take j) id ≠ none → id < j ∧ memL st.mem id ≠ none := fun id hid => by
    simp only [memL, List.getElem?_take] at hid ⊢
    split at hid
    · exact ⟨by assumption, hid⟩
    · exact absurd rfl hid
  have hw1 : w.heap.size ≤ w1.heap.size := hc.size
  have hl1 : l < w1.heap.size := (Array.getElem?_eq_some_iff.1 e2).1
  obtain ⟨S, hS⟩ : ∃ S : Nat → Prop, S = fun b => (∃ id, memL (st.mem.take j) id ≠ none ∧ ρ id = b) ∨ b = l ∨ b ∈ Ds := ⟨_, rfl⟩
  have hlt : ∀ id, memL st.mem id ≠ none → ρ id < w.heap.size := fun id hid => hR.fits.lt hid
  have hSlt : ∀ b, S b → b < w1.heap.size := fun b hb => by
    rw [hS] at hb
    rcases hb with ⟨id, h1, rfl⟩ | rfl | hb
    · have := hlt id (htake id h1).2; omega
    · exact hl1
    · exact (Array.getElem?_eq_some_iff.1 (hDs b hb).2.2).1
  refine ⟨l, Ds.map mkD, w1, { target := .fn (.func gf) cv, args := #[.func (.yield l) #[] #[]] }, w1, gf, #[.func (.yield l) #[] #[]] ++ cv, w1, e1, ?_, fun _ _ => trivial, ?_, fun h => (by cases h), ?_⟩
  · simp only [resolve, hfe]
    simp [go_sem]
  · simp [invoke, go_sem, callable_ok hit.1]
  · refine calls_fr ro _ ((hit.2 (fun q => LentP (memFrom j st.mem) ρ bl q ∨ Alien A (memL st.mem) ρ w q) w1 cv (by rw [hcs, ← f1]) ?_ l
      (fun k S W => ∃ M ρ2, I k M ∧ Mid A (memL (st.mem.take j)) ρ w.heap.size w1.heap.size j l Ds (st.forget keep j).tmps dd a r M ρ2 S W)
      (fun k S W => ∃ e M ρ2, e ≠ .normal ∧ Ix e M ∧ Mid A (memL (st.mem.take j)) ρ w.heap.size w1.heap.size j l Ds (st.forget keep j).tmps dd a { r with state := .done, pending := some e.code } M ρ2 S W) S ?_ ?_ ?_ ?_ ?_).mono ?_)
    · intro i x hx
      have hq1 : ∀ q, LentP (memFrom j st.mem) ρ bl q ∨ Alien A (memL st.mem) ρ w q → q < w.heap.size := fun q hq => by
        rcases hq with hq | hq
        · exact hq.lt hR.fits hsub
        · exact hq.2.1
      refine (f3 i x hx).mono (fun q hq => ⟨hq, Nat.lt_of_lt_of_le (hq1 q hq) hw1⟩) (fun q hq o => ?_)
      have h3 := hbelow q (hq1 q hq)
      show World.cell? w1 ⟨q, o, none⟩ = World.cell? w ⟨q, o, none⟩
      simp only [World.cell?]
      rw [h3]
    · rintro k S W W' ⟨M, ρ2, hI, hM⟩ _ _ _ hs hb
      exact ⟨M, ρ2, hI, hM.later hs hb⟩
    · rintro k S W W' ⟨e, M, ρ2, hne, hI, hM⟩ _ _ _ hs hb
      exact ⟨e, M, ρ2, hne, hI, hM.later hs hb⟩
    · intro b hb
      refine ⟨hSlt b hb, ?_⟩
      rw [hS] at hb
      rcases hb with ⟨id, h1, rfl⟩ | rfl | hb
      · obtain ⟨h2, h3⟩ := htake id h1
        rintro (⟨_, id', blk, h4, h5⟩ | h4)
        · have h6 := hsub _ _ h4
          have := hR.fits.inj id' id (by rw [h6]; simp) h3 h5
          subst this
          unfold memFrom at h4
          rw [if_neg (by omega)] at h4; cases h4
        · exact h4.2.2 id h3 rfl
      · rintro (h4 | h4)
        · have := h4.lt hR.fits hsub; omega
        · have := h4.2.1; omega
      · have := (hDs b hb).1
        rintro (h4 | h4)
        · have := h4.lt hR.fits hsub; omega
        · have := h4.2.1; omega
    · rintro k x S1 W1 ys hx ⟨M, ρ2, hI, hM⟩ _ hys hri
      have hlen := hps x (List.mem_iff_getElem?.2 ⟨k, hx⟩)
      have hro2 := hround k x M hx hI
      rw [← e6] at hro2 hlen
      rw [← e7, ← e8] at hro2
      exact mid_round hM (fun b hb => hup b hb) hw1 e9 (fun D hD => (hDs D hD).2.1) e3 e3' e5 hpo hlen hys hri hro2
    · refine ⟨st.mem.take j, ρ, h0, ?_⟩
      exact {
        rs := hRf.same (fun b hb => ⟨⟨⟨hb.1, by have := hb.2.1; omega, .inl (by have := hb.2.1; omega)⟩, by have := hb.2.1; omega, hb.2.2⟩, hbelow b hb.2.1⟩) (fun id hid => hbelow _ (hlt id (htake id hid).2))
        pre := .refl _ _ _
        ids := fun id hid => .inl ⟨hid, rfl⟩
        own := fun id hid => by rw [hS]; exact .inl ⟨id, hid, rfl⟩
        sl := by rw [hS]; exact .inr (.inl rfl)
        sD := fun D hD => by rw [hS]; exact .inr (.inr hD)
        lt := hSlt
        rec_ := e2
        mrk := fun D hD => (hDs D hD).2.2
        nle := Nat.le_refl _ }
    · rintro e W2 ⟨⟨v, rfl⟩, S2, hgr, hJ⟩
      have fin : ∀ (r' r'' : Loop) (M : List Blk) (ρ2 : Nat → Nat), Mid A (memL (st.mem.take j)) ρ w.heap.size w1.heap.size j l Ds (st.forget keep j).tmps dd a r' M ρ2 S2 W2 →
          RS (Ds.map mkD ++ dd) A ρ2 ⟨(st.forget keep j).tmps, M⟩ { a with defers := Ds.map mkD ++ a.defers } (W2.putObj l (.loop r'')) ∧ Gone L (memL st.mem) ρ w (memL M) ρ2 (W2.putObj l (.loop r'')) (Ds.map mkD) := fun r' r'' M ρ2 hM => by
        have hcp : CalmW W2 (W2.putObj l (.loop r'')) := calmw_put hM.rec_ rfl rfl
        have hRS : RS dd A ρ2 ⟨(st.forget keep j).tmps, M⟩ a W2 := hM.rs.same (fun b hb => ⟨⟨hb.1.1, hb.2.1, hb.2.2⟩, rfl⟩) (fun _ _ => rfl)
        have hRS2 := hRS.calm hcp
        refine ⟨⟨hRS2.fits, hRS2.size, by rw [show a.defers = dd from hR.df], hRS2.rep⟩, ⟨⟨?_, ?_, ?_, ?_, fun b hb hno => ?_, fun id hid => ?_⟩, fun id hi cs hcs' => ?_, ⟨Ds, rfl, hnd, fun D hD => ⟨(hDs D hD).1, ?_⟩⟩⟩⟩
        · exact hgr.os.trans hc.os
        · exact hgr.tape.trans hc.tape
        · exact hgr.output.trans hc.output
        · have := hgr.size; simp; omega
        · have hbl : b ≠ l := by omega
          rw [World.putObj_heap_other hbl, hgr.same b (by omega) (fun hb2 => ?_), hbelow b hb]
          rw [hS] at hb2
          rcases hb2 with ⟨id, h1, h2⟩ | h1 | h1
          · exact hno id (htake id h1).2 h2
          · exact hbl h1
          · have := (hDs b h1).1; omega
        · rcases hM.ids id hid with ⟨h1, h2⟩ | h1
          · exact .inl ⟨(htake id h1).2, h2⟩
          · exact .inr h1
        · refine hM.pre id (by omega) cs ?_
          simp only [memL, List.getElem?_take] at hcs' ⊢
          rw [if_pos (by omega)]; exact hcs'
        · rw [World.putObj_heap_other (hDs D hD).2.1]
          exact hM.mrk D hD
      rcases hJ with ⟨M, ρ2, hI, hM⟩ | ⟨k, e, M, ρ2, hne, hI, hM⟩
      · refine ⟨none, W2.putObj l (.loop { r with state := .exhausted }), ?_, ?_⟩
        · have := loop_done (P := P) hM.rec_ (by rw [e3]; simp)
          exact this.trans (by rw [e3'])
        · obtain ⟨q1, q2⟩ := fin r { r with state := .exhausted } M ρ2 hM
          have hQ := hdone M hI
          exact ⟨.normal, _, ρ2, Ds.map mkD, rfl, hQ, q1, q2⟩
      · refine ⟨some e.code, W2.putObj l (.loop { { r with state := .done, pending := some e.code } with state := .exhausted }), loop_done (P := P) hM.rec_ (by simp), ?_⟩
        obtain ⟨q1, q2⟩ := fin _ { { r with state := .done, pending := some e.code } with state := .exhausted } M ρ2 hM
        have hQ := hstop e M hne hI
        cases e with
        | normal => exact absurd rfl hne
        | exit i => exact wpIn_exit ⟨.exit i, _, ρ2, Ds.map mkD, rfl, hQ, q1, q2⟩
        | ret => exact wpIn_ret ⟨.ret, _, ρ2, Ds.map mkD, rfl, hQ, q1, q2⟩

end
end Go.Proofs.Ytkijlggnnbdeiaa
