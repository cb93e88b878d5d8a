/- Walks through loops: steps at a place of a function's code. For every program. Versions of rows begin anew: rows are of version 0 again, slices of them too, elder ones are forgotten. For every program. Functions whose result bears no names: own rows are handed out as lists. For every program. A contract for more general arguments serves more special ones. For every program. -/
import Derived.Test.YtglfbdicclepcaaEvR
set_option linter.unusedVariables false
set_option linter.unusedSimpArgs false
namespace Go.Proofs.Ytglfbdicclepcaa
set_option maxRecDepth 100000
section
open Go.RowKit

def codeE (fn : Func) : Code := match fn.body with | some c => c | none => .skip
def cE : Code → List Bool → Code
  | c, [] => c
  | .seq x _, false :: l => cE x l
  | .seq _ y, true :: l => cE y l
  | .block _ x, false :: l => cE x l
  | .loop x, false :: l => cE x l
  | .scope x, false :: l => cE x l
  | .cond _ x _, false :: l => cE x l
  | .cond _ _ y, true :: l => cE y l
  | .rangeFunc _ _ x _, false :: l => cE x l
  | .rangeFunc _ _ _ y, true :: l => cE y l
  | c, _ => c

def seqQ (L : Nat) (P : Program) (y : Code) (Q : EvX → St → Prop) : EvX → St → Prop
  | .normal, s => Ok L P y s Q
  | .exit j, s => Q (.exit j) s
  | .ret, s => Q .ret s
def blkQ (id : Nat) (Q : EvX → St → Prop) : EvX → St → Prop
  | .normal, s => Q .normal s
  | .exit j, s => if j = id then Q .normal s else Q (.exit j) s
  | .ret, s => Q .ret s
def loopQ (I : Nat → St → Prop) (n : Nat) (Q : EvX → St → Prop) : EvX → St → Prop
  | .normal, s => ∃ k, k < n ∧ I k s
  | .exit j, s => Q (.exit j) s
  | .ret, s => Q .ret s

theorem blkQ_here {id : Nat} {Q : EvX → St → Prop} {s : St} (h : Q .normal s) : blkQ id Q (.exit id) s := by simp [blkQ, h]
theorem blkQ_on {id j : Nat} {Q : EvX → St → Prop} {s : St} (hj : Nat.beq j id = false) (h : Q (.exit j) s) : blkQ id Q (.exit j) s := by
  have : j ≠ id := fun e => by subst e; simp at hj
  simp [blkQ, this, h]

section
variable {P : Program} {L : Nat}

theorem Ok.seqP {c : Code} {st : St} {Q : EvX → St → Prop} (p : List Bool) (e : cE c p = .seq (cE c (p ++ [false])) (cE c (p ++ [true]))) (h : Ok L P (cE c (p ++ [false])) st (seqQ L P (cE c (p ++ [true])) Q)) : Ok L P (cE c p) st Q := by
  rw [e]
  refine Ok.seq (h.mono fun x s hx => ?_)
  cases x with
  | normal => exact .inl ⟨rfl, hx⟩
  | exit j => exact .inr ⟨by simp, hx⟩
  | ret => exact .inr ⟨by simp, hx⟩

theorem Ok.blockP {c : Code} {st : St} {Q : EvX → St → Prop} (p : List Bool) (id : Nat) (e : cE c p = .block id (cE c (p ++ [false]))) (h : Ok L P (cE c (p ++ [false])) st (blkQ id Q)) : Ok L P (cE c p) st Q := by
  rw [e]
  refine Ok.block (h.mono fun x s hx => ?_)
  cases x <;> exact hx

theorem Ok.scopeP {c : Code} {st : St} {Q : EvX → St → Prop} (p : List Bool) (e : cE c p = .scope (cE c (p ++ [false]))) (h : Ok L P (cE c (p ++ [false])) st Q) : Ok L P (cE c p) st Q := by
  rw [e]
  exact fun ro dd A ρ a w hro hR hup => wpIn_scopeE (Code.wpIn_mono (fun e a' w' ⟨x, st', ρ', ds, h1, h2, h3⟩ => ⟨by subst h1; cases x with
    | normal => exact .inl rfl
    | exit i => exact .inr (.inl ⟨i, rfl⟩)
    | ret => exact .inr (.inr rfl), x, st', ρ', ds, h1, h2, h3⟩) (h ro dd A ρ a w hro hR hup))

theorem Ok.loopP {c : Code} {st : St} {Q : EvX → St → Prop} (p : List Bool) (e : cE c p = .loop (cE c (p ++ [false]))) (I : Nat → St → Prop) (n : Nat) (h0 : I n st) (h : ∀ n s, I n s → Ok L P (cE c (p ++ [false])) s (loopQ I n Q)) : Ok L P (cE c p) st Q := by
  rw [e]
  refine Ok.loop I n h0 fun n s hI => (h n s hI).mono fun x s hx => ?_
  cases x <;> exact hx

theorem Ok.condP {c : Code} {st : St} {Q : EvX → St → Prop} (p : List Bool) (t : Nat) (b : Bool) (e : cE c p = .cond (.tmp t) (cE c (p ++ [false])) (cE c (p ++ [true]))) (hb : st.τ t = .bool b) (h : b = true → Ok L P (cE c (p ++ [false])) st Q) (k : b = false → Ok L P (cE c (p ++ [true])) st Q) : Ok L P (cE c p) st Q := by
  rw [e]; exact Ok.cond hb h k

theorem Ok.exitP {c : Code} {st : St} {Q : EvX → St → Prop} (p : List Bool) (j : Nat) (e : cE c p = .exit j) (h : Q (.exit j) st) : Ok L P (cE c p) st Q := by
  rw [e]
  exact fun ro dd A ρ a w hro hR hup => wpIn_exit ⟨.exit j, st, ρ, [], rfl, h, hR, .refl⟩
theorem Ok.retP {c : Code} {st : St} {Q : EvX → St → Prop} (p : List Bool) (e : cE c p = .ret) (h : Q .ret st) : Ok L P (cE c p) st Q := by
  rw [e]
  exact fun ro dd A ρ a w hro hR hup => wpIn_ret ⟨.ret, st, ρ, [], rfl, h, hR, .refl⟩
theorem Ok.skipP {c : Code} {st : St} {Q : EvX → St → Prop} (p : List Bool) (e : cE c p = .skip) (h : Q .normal st) : Ok L P (cE c p) st Q := by
  rw [e]
  exact fun ro dd A ρ a w hro hR hup => wpIn_skip ⟨.normal, st, ρ, [], rfl, h, hR, .refl⟩

/-! ### A piece without loops, and what is kept behind it -/

def closedOb (j : Nat) : List Blk → Option (List Prop)
  | [] => some []
  | .cells cs :: l => if cs.all (belowV j) then closedOb j l else none
  | .row _ es _ :: l => (closedOb j l).map fun r => (∀ e ∈ es, belowV j e = true) :: r
  | .mp es :: l => (closedOb j l).map fun r => (∀ e ∈ es, belowV j e = true) :: r

def evf (P : Program) (n : Nat) (c : Code) (ss : List Sup) (st : St) (keep : List Nat) (j : Nat) : Option (EvX × St × List Prop) :=
  match evC P n c ss st with
  | some (e, s, _, ob) => match closedOb j (s.mem.take j) with
    | some ob2 => some (e, s.forget keep j, ob2 ++ ob)
    | none => none
  | none => none

theorem below_ids {j : Nat} {es : List AV} (h : ∀ e ∈ es, idsOf e = []) : ∀ e ∈ es, belowV j e = true := fun e he => by simp [belowV, h e he]
theorem closed_of {j : Nat} : ∀ (M : List Blk) (ob : List Prop), closedOb j M = some ob → AllP ob → ∀ b ∈ M, ∀ x ∈ cellsB b, belowV j x = true
  | [], ob, _, _, b, hb, _, _ => by simp at hb
  | .cells cs :: l, ob, h, hob, b, hb, x, hx => by
    simp only [closedOb] at h
    split at h
    · rename_i hc
      rcases List.mem_cons.1 hb with rfl | hb
      · exact List.all_eq_true.1 hc x hx
      · exact closed_of l ob h hob b hb x hx
    · cases h
  | .row k es ver :: l, ob, h, hob, b, hb, x, hx => by
    simp only [closedOb] at h
    obtain ⟨r, h1, rfl⟩ := Option.map_eq_some_iff.1 h
    rcases List.mem_cons.1 hb with rfl | hb
    · exact hob.1 x hx
    · exact closed_of l r h1 hob.2 b hb x hx
  | .mp es :: l, ob, h, hob, b, hb, x, hx => by
    simp only [closedOb] at h
    obtain ⟨r, h1, rfl⟩ := Option.map_eq_some_iff.1 h
    rcases List.mem_cons.1 hb with rfl | hb
    · exact hob.1 x hx
    · exact closed_of l r h1 hob.2 b hb x hx

theorem Ok.evf (hm : P.follows .mixedOrders = true) (n : Nat) (ss : List Sup) (keep : List Nat) (j : Nat) {c : Code} {st st' : St} {e : EvX} {ob : List Prop} {Q : EvX → St → Prop} (h : evf P n c ss st keep j = some (e, st', ob)) (hob : AllP ob) (hQ : Q e st') (hL : Nat.ble L j = true := by kernel_rfl) : Ok L P c st Q := by
  unfold Go.Proofs.Ytglfbdicclepcaa.evf at h
  split at h
  · rename_i e1 s ss' ob1 h1
    split at h
    · rename_i ob2 h2
      cases h
      obtain ⟨hob2, hob1⟩ := AllP.append hob
      refine Ok.forget (Q := fun e' s' => e' = e ∧ s' = s) keep j (Nat.le_of_ble_eq_true hL) (Ok.ev hm n ss h1 hob1 ⟨rfl, rfl⟩) ?_
      rintro e' s' ⟨rfl, rfl⟩
      exact ⟨closed_of _ _ h2 hob2, hQ⟩
    · cases h
  · cases h

/-- The end of a function that is given nothing of the caller's own memory. -/
theorem fn_walk {f : FuncId} {fn : Func} (hf : P.funcs[f]? = some fn) (hb : fn.body.isSome = true) (hcal : callable P f = true) {args : List AV} {r : AV} {R : List Blk} (hn : Nat.ble args.length fn.ntmps = true) {st : St} (hst : St.init fn args [] = st)
    (h : Ok 0 P (cE (codeE fn) []) st (fun e s => (e = .normal ∨ e = .ret) ∧ Fin P fn r R s)) : FnM P f [] args r R := by
  subst hst
  obtain ⟨c, hc⟩ := Option.isSome_iff_exists.1 hb
  refine fn_pure hf hc hcal hn ?_
  have : cE (codeE fn) [] = c := by
    have h1 : codeE fn = c := by unfold codeE; rw [hc]
    rw [h1]; cases c <;> rfl
  rw [this] at h
  exact h

def finB (P : Program) (fn : Func) (is : List Nat) (s : St) : Option (AV × List Blk × List Prop) :=
  match resultsAV P fn s, expB (memL s.mem) is with
  | some x, some (R, ob) => if nodupN is then match expV (memL s.mem) is x with
    | some r => some (r, R, ob)
    | none => none else none
  | _, _ => none
theorem fin_of {fn : Func} {r : AV} {R : List Blk} {s : St} (is : List Nat) {ob : List Prop} (h : finB P fn is s = some (r, R, ob)) (hob : AllP ob) : Fin P fn r R s := by
  unfold finB at h
  split at h
  · rename_i x R' ob' h1 h2
    split at h
    · rename_i hn
      split at h
      · rename_i r' h3
        cases h
        exact ⟨x, ob, is, h1, h2, hob, hn, h3⟩
      · cases h
    · cases h
  · cases h

end
end
section
open Go.RowKit

mutual
def renV (look : Mem) : AV → AV
  | .slice id lo len ver => match look id with
    | some (.row _ _ ver') => if Nat.beq ver ver' then .slice id lo len 0 else .any
    | _ => .any
  | .ptrR _ _ _ _ => .any
  | .agg cs => .agg (renL look cs)
  | .tuple cs => .tuple (renL look cs)
  | .func f p c => .func f (renL look p) (renL look c)
  | .iface t v => .iface t (renV look v)
  | v => v
def renL (look : Mem) : List AV → List AV
  | [] => []
  | v :: l => renV look v :: renL look l
end
def renB (look : Mem) : Blk → Blk
  | .cells cs => .cells (renL look cs)
  | .row k es _ => .row k es 0
  | .mp es => .mp es
def St.renew (s : St) : St := ⟨renL (memL s.mem) s.tmps, s.mem.map (renB (memL s.mem))⟩

theorem renL_get (look : Mem) : ∀ (l : List AV) (i : Nat), (renL look l)[i]? = (l[i]?).map (renV look)
  | [], i => by simp [renL]
  | v :: l, 0 => by simp [renL]
  | v :: l, i + 1 => by simpa [renL] using renL_get look l i
theorem renL_len (look : Mem) : ∀ (l : List AV), (renL look l).length = l.length
  | [] => rfl
  | v :: l => by simp [renL, renL_len look l]

theorem renV_ri (look : Mem) {w : World} {B : Nat → Prop} {x : AV} {v : Value} (h : RI w B x v) : RI w B (renV look x) v := by
  induction h with
  | agg cs vs hs h ih =>
    simp only [renV]
    refine .agg _ vs (by rw [renL_len]; exact hs) fun i c hc => ?_
    rw [renL_get] at hc
    obtain ⟨c', h1, rfl⟩ := Option.map_eq_some_iff.1 hc
    exact ih i c' h1
  | tuple cs vs hs h ih =>
    simp only [renV]
    refine .tuple _ vs (by rw [renL_len]; exact hs) fun i c hc => ?_
    rw [renL_get] at hc
    obtain ⟨c', h1, rfl⟩ := Option.map_eq_some_iff.1 hc
    exact ih i c' h1
  | func f p c ps cs hp hc h k ih ik =>
    simp only [renV]
    refine .func f _ _ ps cs (by rw [renL_len]; exact hp) (by rw [renL_len]; exact hc) (fun i x hx => ?_) (fun i x hx => ?_)
    · rw [renL_get] at hx
      obtain ⟨x', h1, rfl⟩ := Option.map_eq_some_iff.1 hx
      exact ih i x' h1
    · rw [renL_get] at hx
      obtain ⟨x', h1, rfl⟩ := Option.map_eq_some_iff.1 hx
      exact ik i x' h1
  | iface t x v h ih => simp only [renV]; exact .iface t _ v ih
  | ptrIn e off b o x hB hx hr ih => simp only [renV]; exact .ptrIn e off b o x hB hx hr
  | list l b o cap k x hc hB hk hx hr ih => simp only [renV]; exact .list l b o cap k x hc hB hk hx hr
  | lnil a cap h => simp only [renV]; exact .lnil a cap h
  | pin x v h ih => simp only [renV]; exact .pin x v h
  | _ => simp only [renV]; constructor

theorem renV_rep {A : Nat → Prop} {m m' : Mem} {ρ : Nat → Nat} {w : World} (hm : ∀ id, m' id = (m id).map (renB m)) {x : AV} {v : Value} (h : Rep A m ρ w x v) : Rep A m' ρ w (renV m x) v := by
  have hal : ∀ b, Alien A m ρ w b → Alien A m' ρ w b := fun b hb => ⟨hb.1, hb.2.1, fun id hid => hb.2.2 id fun hn => hid (by rw [hm, hn]; rfl)⟩
  induction h with
  | base h => exact .base (renV_ri m (h.mono hal (fun _ _ _ => rfl)))
  | ptr id off cs h => simp only [renV]; exact .ptr id off (renL m cs) (by rw [hm, h]; rfl)
  | map id es h => simp only [renV]; exact .map id es (by rw [hm, h]; rfl)
  | ptrR id ver i off k es ver' a h hle hv => simp only [renV]; exact .base (.any _)
  | slice id lo len ver k es ver' a n c h hle hv =>
    simp only [renV, h]
    split
    · rename_i hc
      obtain rfl := Nat.eq_of_beq_eq_true hc
      exact .slice id lo len 0 k es 0 a n c (by rw [hm, h]; rfl) (Nat.le_refl _) (fun _ => hv rfl)
    · exact .base (.any _)
  | agg cs vs hs h ih =>
    simp only [renV]
    refine .agg _ vs (by rw [renL_len]; exact hs) fun i c hc => ?_
    rw [renL_get] at hc
    obtain ⟨c', h1, rfl⟩ := Option.map_eq_some_iff.1 hc
    exact ih i c' h1
  | tuple cs vs hs h ih =>
    simp only [renV]
    refine .tuple _ vs (by rw [renL_len]; exact hs) fun i c hc => ?_
    rw [renL_get] at hc
    obtain ⟨c', h1, rfl⟩ := Option.map_eq_some_iff.1 hc
    exact ih i c' h1
  | func f p c ps cs hp hc h k ih ik =>
    simp only [renV]
    refine .func f _ _ ps cs (by rw [renL_len]; exact hp) (by rw [renL_len]; exact hc) (fun i x hx => ?_) (fun i x hx => ?_)
    · rw [renL_get] at hx
      obtain ⟨x', h1, rfl⟩ := Option.map_eq_some_iff.1 hx
      exact ih i x' h1
    · rw [renL_get] at hx
      obtain ⟨x', h1, rfl⟩ := Option.map_eq_some_iff.1 hx
      exact ik i x' h1
  | iface t x v h ih => simp only [renV]; exact .iface t _ v ih

/-- Rows bear no names within. -/
def RowsFree (M : List Blk) : Prop := ∀ id b, memL M id = some b → (∀ cs, b ≠ .cells cs) → ∀ e ∈ cellsB b, idsOf e = []

theorem renew_rs {dd : List Deferred} {A : Nat → Prop} {ρ : Nat → Nat} {s : St} {a : Act} {w : World} (h : RS dd A ρ s a w) (hr : RowsFree s.mem) : RS dd A ρ s.renew a w ∧ ∀ id, memL s.renew.mem id ≠ none → memL s.mem id ≠ none := by
  have hm : ∀ id, memL s.renew.mem id = (memL s.mem id).map (renB (memL s.mem)) := fun id => by simp [memL, St.renew]
  have hal : ∀ id, memL s.renew.mem id ≠ none → memL s.mem id ≠ none := fun id hid hn => hid (by rw [hm, hn]; rfl)
  refine ⟨⟨⟨fun i j hi hj he => h.fits.inj i j (hal i hi) (hal j hj) he, fun id b hb => ?_⟩, by rw [h.size]; simp [St.renew, renL_len], h.df, fun t v hv => ?_⟩, hal⟩
  · rw [hm] at hb
    obtain ⟨b', h1, rfl⟩ := Option.map_eq_some_iff.1 hb
    have hf := h.fits.at_ id b' h1
    cases b' with
    | cells cs =>
      obtain ⟨vs, t, h2, h3, h4⟩ := hf
      refine ⟨vs, t, h2, by rw [renL_len]; exact h3, fun i c hc => ?_⟩
      rw [renL_get] at hc
      obtain ⟨c', h5, rfl⟩ := Option.map_eq_some_iff.1 hc
      exact renV_rep hm (h4 i c' h5)
    | row k es ver =>
      obtain ⟨h0, h5, vs, t, h2, h3, h4⟩ := hf
      refine ⟨h0, h5, vs, t, h2, h3, fun i e q c he hc => ?_⟩
      have hid := ids_cell (hr id _ h1 (fun cs h => by cases h) e (List.mem_iff_getElem?.2 ⟨i, he⟩)) hc
      refine .base (((h4 i e q c he hc).ri hid).mono (fun b hb => ⟨hb.1, hb.2.1, fun id' hid' => hb.2.2 id' (hal id' hid')⟩) (fun _ _ _ => rfl))
    | mp es =>
      obtain ⟨ents, h2, h3, h4⟩ := hf
      refine ⟨ents, h2, h3, fun i x e hx he => ?_⟩
      obtain ⟨k, v, rfl, g2, g3, g4⟩ := h4 i x e hx he
      have hid := ids_cell (j := 1) (hr id _ h1 (fun cs h => by cases h) _ (List.mem_iff_getElem?.2 ⟨i, hx⟩)) rfl
      exact ⟨k, v, rfl, g2, g3, .base ((g4.ri hid).mono (fun b hb => ⟨hb.1, hb.2.1, fun id' hid' => hb.2.2 id' (hal id' hid')⟩) (fun _ _ _ => rfl))⟩
  · simp only [St.renew] at hv
    rw [renL_get] at hv
    obtain ⟨x, h1, rfl⟩ := Option.map_eq_some_iff.1 hv
    exact renV_rep hm (h.rep t x h1)

/-- Cells below j; rows without names. -/
def closedR (j : Nat) : List Blk → Option (List Prop)
  | [] => some []
  | .cells cs :: l => if cs.all (belowV j) then closedR j l else none
  | .row _ es _ :: l => (closedR j l).map fun r => (∀ e ∈ es, idsOf e = []) :: r
  | .mp es :: l => (closedR j l).map fun r => (∀ e ∈ es, idsOf e = []) :: r
theorem closedR_of {j : Nat} : ∀ (M : List Blk) (ob : List Prop), closedR j M = some ob → AllP ob → (∀ b ∈ M, ∀ x ∈ cellsB b, belowV j x = true) ∧ RowsFree M
  | [], ob, _, _ => ⟨fun b hb => by simp at hb, fun id b h => by simp [memL] at h⟩
  | .cells cs :: l, ob, h, hob => by
    simp only [closedR] at h
    split at h
    · rename_i hc
      obtain ⟨e1, e2⟩ := closedR_of l ob h hob
      refine ⟨fun b hb x hx => ?_, fun id b h hn => ?_⟩
      · rcases List.mem_cons.1 hb with rfl | hb
        · exact List.all_eq_true.1 hc x hx
        · exact e1 b hb x hx
      · cases id with
        | zero => simp [memL] at h; exact absurd h.symm (hn _)
        | succ id => exact e2 id b (by simpa [memL] using h) hn
    · cases h
  | .row k es ver :: l, ob, h, hob => by
    simp only [closedR] at h
    obtain ⟨r, h1, rfl⟩ := Option.map_eq_some_iff.1 h
    obtain ⟨e1, e2⟩ := closedR_of l r h1 hob.2
    refine ⟨fun b hb x hx => ?_, fun id b h hn => ?_⟩
    · rcases List.mem_cons.1 hb with rfl | hb
      · have : idsOf x = [] := hob.1 x hx
        simp [belowV, this]
      · exact e1 b hb x hx
    · cases id with
      | zero => simp [memL] at h; subst h; exact fun e he => hob.1 e he
      | succ id => exact e2 id b (by simpa [memL] using h) hn
  | .mp es :: l, ob, h, hob => by
    simp only [closedR] at h
    obtain ⟨r, h1, rfl⟩ := Option.map_eq_some_iff.1 h
    obtain ⟨e1, e2⟩ := closedR_of l r h1 hob.2
    refine ⟨fun b hb x hx => ?_, fun id b h hn => ?_⟩
    · rcases List.mem_cons.1 hb with rfl | hb
      · have : idsOf x = [] := hob.1 x hx
        simp [belowV, this]
      · exact e1 b hb x hx
    · cases id with
      | zero => simp [memL] at h; subst h; exact fun e he => hob.1 e he
      | succ id => exact e2 id b (by simpa [memL] using h) hn
theorem rows_take {j : Nat} {keep : List Nat} {s : St} (h : RowsFree (s.mem.take j)) : RowsFree (s.forget keep j).mem := h
end
section
open Go.RowKit

/-- A value of a row that may go out. -/
def plainE (e : AV) : Prop := idsOf e = [] ∧ plainV e = true

/-- Handing out x as r: what is owed. -/
def ex1 (look : Mem) (fr : Bool) (x r : AV) : Option (List Prop) :=
  match x, r with
  | .slice id lo len ver, .list l => match look id with
    | some (.row _ es ver') => if Nat.beq ver ver' then some [(es.drop lo).take len = l, ∀ e ∈ es, if fr then plainE e else idsOf e = []] else none
    | _ => none
  | .nilslice, .list l => some [[] = l]
  | .int k a, .int k' b => if k = k' then some [a = b] else none
  | .bool a, .bool b => some [a = b]
  | .list l, .list l' => some (if fr then [l = l', l = []] else [l = l'])
  | x, r => if (idsOf x).isEmpty && (plainV x || !fr) then some [x = r] else none
def exL (look : Mem) (fr : Bool) : List AV → List AV → Option (List Prop)
  | [], [] => some []
  | x :: xs, r :: rs => match ex1 look fr x r, exL look fr xs rs with
    | some a, some b => some (a ++ b)
    | _, _ => none
  | _, _ => none
def ex2 (look : Mem) (fr : Bool) (x r : AV) : Option (List Prop) :=
  match x with
  | .agg xs => match r with
    | .agg rs => exL look fr xs rs
    | _ => none
  | x => ex1 look fr x r
def exL2 (look : Mem) (fr : Bool) : List AV → List AV → Option (List Prop)
  | [], [] => some []
  | x :: xs, r :: rs => match ex2 look fr x r, exL2 look fr xs rs with
    | some a, some b => some (a ++ b)
    | _, _ => none
  | _, _ => none
def exV (look : Mem) (fr : Bool) (x r : AV) : Option (List Prop) :=
  match x with
  | .tuple xs => match r with
    | .tuple rs => exL2 look fr xs rs
    | _ => none
  | x => ex2 look fr x r

section
variable {P : Program} {A : Nat → Prop} {m : Mem} {ρ : Nat → Nat} {w : World}

/-- The blocks of what goes out. -/
def Out (A : Nat → Prop) (m : Mem) (ρ : Nat → Nat) (w : World) (fr : Bool) (b : Nat) : Prop := (∃ id, m id ≠ none ∧ b = ρ id) ∨ (fr = false ∧ Alien A m ρ w b)

theorem ex1_ok {x r : AV} {ob : List Prop} {fr : Bool} {v : Value} (hF : Fits A m ρ w) (h : ex1 m fr x r = some ob) (hob : AllP ob) (hx : Rep A m ρ w x v) : RI w (Out A m ρ w fr) r v := by
  have pl : ∀ {x : AV} {v : Value}, idsOf x = [] → (plainV x || !fr) = true → Rep A m ρ w x v → RI w (Out A m ρ w fr) x v := fun h1 h2 h3 => by
    cases fr with
    | true => exact (h3.ri h1).plain (by simpa using h2)
    | false => exact (h3.ri h1).mono (fun b hb => .inr ⟨rfl, hb⟩) (fun _ _ _ => rfl)
  unfold ex1 at h
  split at h
  · rename_i id lo len ver l
    split at h
    · rename_i k es ver' hm
      split at h
      · rename_i hc
        obtain rfl := Nat.eq_of_beq_eq_true hc
        cases h
        obtain ⟨he, hpl, _⟩ := hob
        subst he
        obtain ⟨h3, o', c, vs, t', rfl, h4, h5, h6, h7⟩ := rep_slice hx hm
        obtain ⟨h8, vs2, t2, h9, hR⟩ := row_of_fits hF hm
        rw [h6] at h9
        cases h9
        have hlen : ((es.drop lo).take len).length = len := by simp; omega
        have hel : ∀ i e, ((es.drop lo).take len)[i]? = some e → es[lo + i]? = some e ∧ i < len := fun i e he => by
          rw [List.getElem?_take] at he
          split at he
          · rw [List.getElem?_drop] at he; exact ⟨he, by assumption⟩
          · cases he
        have := RI.list (w := w) (B := Out A m ρ w fr) ((es.drop lo).take len) (ρ id) o' c k (fun i j => vs.getD ((lo + i) * k + j) undef) (by omega) (fun _ => .inl ⟨id, by rw [hm]; simp, rfl⟩)
          (fun e he => hR.len e (List.mem_of_mem_drop (List.mem_of_mem_take he))) (fun i e j c' he hc' => by
            obtain ⟨e1, e2⟩ := hel i e he
            have hlt2 := (hR.lt e1 hc').1
            rw [cell_of_cells h6, h4 (by omega), ← getD_of hlt2, Nat.add_mul]) (fun i e j c' he hc' => by
            obtain ⟨e1, e2⟩ := hel i e he
            have hp := hpl e (List.mem_iff_getElem?.2 ⟨_, e1⟩)
            have hid0 : idsOf e = [] := by
              cases fr with
              | true => exact (by simpa using hp : plainE e).1
              | false => simpa using hp
            have hid : idsOf c' = [] := by
              rw [List.eq_nil_iff_forall_not_mem]
              intro n hn
              have : n ∈ idsOf e := by
                cases e with
                | agg cs => simp only [idsOf]; exact idsL_get hc' hn
                | _ =>
                  simp only [cellsOf] at hc'
                  obtain ⟨q1, q2⟩ := List.getElem?_eq_some_iff.1 hc'
                  have : j = 0 := by simp at q1; omega
                  subst this
                  simp at q2
                  rw [← q2] at hn; exact hn
              rw [hid0] at this; cases this
            refine pl hid ?_ (hR.at_ _ e j c' e1 hc')
            cases fr with
            | true => simpa using plain_cells (by simpa using hp : plainE e).2 hc'
            | false => simp)
        rw [hlen] at this
        exact this
      · cases h
    · cases h
  · cases h
    obtain ⟨rfl, _⟩ := hob
    rw [rep_nilslice hx]
    exact .lnil none 0 (fun _ => rfl)
  · split at h
    · rename_i hk
      cases h
      subst hk
      obtain ⟨rfl, _⟩ := hob
      rw [rep_int hx]; exact .int _ _
    · cases h
  · cases h
    obtain ⟨rfl, _⟩ := hob
    rw [rep_bool hx]; exact .bool _
  · rename_i l l'
    cases fr with
    | false =>
      cases h
      obtain ⟨rfl, _⟩ := hob
      exact (hx.ri (by simp [idsOf])).mono (fun b hb => .inr ⟨rfl, hb⟩) (fun _ _ _ => rfl)
    | true =>
      cases h
      obtain ⟨rfl, h2, _⟩ := hob
      subst h2
      have := hx.ri (by simp [idsOf])
      cases this with
      | lnil a cap h => exact .lnil a cap h
      | list l b o cap k x hc hB hk hx' hr => exact .list [] b o cap k x hc (fun h => absurd rfl h) hk hx' (fun i e j c h1 h2 => by simp at h1)
  · split at h
    · rename_i hi
      cases h
      obtain ⟨rfl, _⟩ := hob
      simp only [Bool.and_eq_true, List.isEmpty_iff] at hi
      exact pl hi.1 hi.2 hx
    · cases h

theorem exL_ok (hF : Fits A m ρ w) {fr : Bool} : ∀ (l l' : List AV) (ob : List Prop), exL m fr l l' = some ob → AllP ob → l'.length = l.length ∧ ∀ (u : Nat → Value), (∀ i x, l[i]? = some x → Rep A m ρ w x (u i)) → ∀ i y, l'[i]? = some y → RI w (Out A m ρ w fr) y (u i) := by
  intro l
  induction l with
  | nil =>
    intro l' ob h _
    cases l' with
    | nil => exact ⟨rfl, fun u _ i y hy => by simp at hy⟩
    | cons y ys => simp [exL] at h
  | cons x l ih =>
    intro l' ob h hob
    cases l' with
    | nil => simp [exL] at h
    | cons y ys =>
      simp only [exL] at h
      split at h
      · rename_i a b h1 h2
        cases h
        obtain ⟨hob1, hob2⟩ := AllP.append hob
        obtain ⟨e1, e2⟩ := ih ys _ h2 hob2
        refine ⟨by simp [e1], fun u hu i z hz => ?_⟩
        cases i with
        | zero => simp at hz; subst hz; exact ex1_ok hF h1 hob1 (hu 0 x rfl)
        | succ i => exact e2 (fun i => u (i + 1)) (fun i x hx => hu (i + 1) x (by simpa using hx)) i z (by simpa using hz)
      · cases h

theorem ex2_ok (hF : Fits A m ρ w) {x r : AV} {ob : List Prop} {fr : Bool} {v : Value} (h : ex2 m fr x r = some ob) (hob : AllP ob) (hx : Rep A m ρ w x v) : RI w (Out A m ρ w fr) r v := by
  unfold ex2 at h
  split at h
  · split at h
    · obtain ⟨vs, rfl, hs, hr⟩ := rep_agg hx
      obtain ⟨e1, e2⟩ := exL_ok hF _ _ _ h hob
      exact .agg _ _ (by omega) (e2 (fun i => vs.getD i undef) hr)
    · cases h
  · exact ex1_ok hF h hob hx

theorem exL2_ok (hF : Fits A m ρ w) {fr : Bool} : ∀ (l l' : List AV) (ob : List Prop), exL2 m fr l l' = some ob → AllP ob → l'.length = l.length ∧ ∀ (u : Nat → Value), (∀ i x, l[i]? = some x → Rep A m ρ w x (u i)) → ∀ i y, l'[i]? = some y → RI w (Out A m ρ w fr) y (u i) := by
  intro l
  induction l with
  | nil =>
    intro l' ob h _
    cases l' with
    | nil => exact ⟨rfl, fun u _ i y hy => by simp at hy⟩
    | cons y ys => simp [exL2] at h
  | cons x l ih =>
    intro l' ob h hob
    cases l' with
    | nil => simp [exL2] at h
    | cons y ys =>
      simp only [exL2] at h
      split at h
      · rename_i a b h1 h2
        cases h
        obtain ⟨hob1, hob2⟩ := AllP.append hob
        obtain ⟨e1, e2⟩ := ih ys _ h2 hob2
        refine ⟨by simp [e1], fun u hu i z hz => ?_⟩
        cases i with
        | zero => simp at hz; subst hz; exact ex2_ok hF h1 hob1 (hu 0 x rfl)
        | succ i => exact e2 (fun i => u (i + 1)) (fun i x hx => hu (i + 1) x (by simpa using hx)) i z (by simpa using hz)
      · cases h

theorem exV_ok (hF : Fits A m ρ w) {x r : AV} {ob : List Prop} {fr : Bool} {v : Value} (h : exV m fr x r = some ob) (hob : AllP ob) (hx : Rep A m ρ w x v) : RI w (Out A m ρ w fr) r v := by
  unfold exV at h
  split at h
  · split at h
    · obtain ⟨vs, rfl, hs, hr⟩ := rep_tuple hx
      obtain ⟨e1, e2⟩ := exL2_ok hF _ _ _ h hob
      exact .tuple _ _ (by omega) (e2 (fun i => vs.getD i undef) hr)
    · cases h
  · exact ex2_ok hF h hob hx

/-- The end of a function. -/
def FinF (P : Program) (fn : Func) (fr : Bool) (r : AV) (s : St) : Prop := ∃ x ob, resultsAV P fn s = some x ∧ exV (memL s.mem) fr x r = some ob ∧ AllP ob

theorem fn_pureF {f : FuncId} {fn : Func} {c : Code} {fr : Bool} {args : List AV} {r : AV} (hf : P.funcs[f]? = some fn) (hb : fn.body = some c) (hcal : callable P f = true) (hn : Nat.ble args.length fn.ntmps = true)
    (h : Ok 0 P c (St.init fn args []) (fun e s => (e = .normal ∨ e = .ret) ∧ FinF P fn fr r s)) : FnF P f fr args r := by
  refine ⟨hcal, fun B w vs hs hr => fr_calls (callsIn_of_wp_marks (F := FR none) (n := 0) hf hb trivial ?_)⟩
  have hn := Nat.le_of_ble_eq_true hn
  have nm : ∀ {i : Nat}, ¬ (memL [] i ≠ none) := fun h => h (by simp [memL])
  refine Code.wpIn_mono ?_ (h none [] (Allow B w.heap.size) (fun _ => 0) { tmps := vs ++ Array.replicate (fn.ntmps - vs.size) undef, defers := [] } w (.none w) ⟨⟨fun i j hi => absurd hi nm, fun id b hb => by simp [St.init, memL] at hb⟩, ?_, rfl, fun t v hv => ?_⟩ (Up.nil fun b hb => .inr hb))
  · rintro e a' w1 ⟨x, st', ρ', ds, rfl, ⟨hx, y, ob, q1, q2, q3⟩, hR1, hG⟩
    have hdf : a'.defers = ds := by rw [hR1.df, List.append_nil]
    obtain ⟨Ds, g1, g2, g3⟩ := hG.mks
    have key : LeavesInM (FR none) 0 P fn a'.tmps (fun e w' => ∃ v, e = .returned v ∧ Below w.heap.size w w' ∧ RI w' (fun b => (w.heap.size ≤ b ∨ fr = false ∧ B b) ∧ b < w'.heap.size) r v) a'.defers .returning w1 := by
      rw [hdf, g1]
      refine leave_marks Ds w1 g2 g3 fun w' hc hb2 => ?_
      have hR := hR1.calm hc
      have hE := hG.ext.calm hc hb2
      obtain ⟨v, h1, h2⟩ := results_ok hR q1
      have h3 := exV_ok hR.fits q2 q3 h2
      have hfin : Below w.heap.size w w' := ⟨hE.os, hE.tape, hE.output, hE.size, fun k hk => hE.frame k hk fun id hid => absurd hid nm⟩
      have hri : RI w' (fun b => (w.heap.size ≤ b ∨ fr = false ∧ B b) ∧ b < w'.heap.size) r v := h3.mono (fun b hb => by
        rcases hb with ⟨id, hid, rfl⟩ | ⟨h4, h5⟩
        · refine ⟨.inl ?_, hR.fits.lt hid⟩
          rcases hE.ids id hid with ⟨h6, _⟩ | h6
          · exact absurd h6 nm
          · exact h6
        · refine ⟨?_, h5.2.1⟩
          rcases h5.1 with h6 | h6
          · exact .inr ⟨h4, h6⟩
          · exact .inl h6) (fun _ _ _ => rfl)
      exact ⟨v, h1, v, rfl, hfin, hri⟩
    rcases hx with rfl | rfl
    · exact key
    · exact key
  · simp [St.init, hs]
  · simp only [St.init] at hv
    rw [Array.getD_eq_getD_getElem?]
    by_cases h1 : t < args.length
    · rw [List.getElem?_append_left h1] at hv
      rw [Array.getElem?_append_left (by omega), ← Array.getD_eq_getD_getElem?]
      exact .base ((hr t v hv).mono (fun b hb => ⟨.inl hb.1, hb.2, fun id hid => absurd hid nm⟩) (fun _ _ _ => rfl))
    · rw [List.getElem?_append_right (by omega), List.getElem?_replicate] at hv
      split at hv
      · rename_i h2
        obtain rfl := Option.some.inj hv
        rw [Array.getElem?_append_right (by omega), Array.getElem?_replicate, if_pos (by omega)]
        exact .base (.tuple [] #[] rfl (fun i c hc => by simp at hc))
      · cases hv

theorem fn_walkF {f : FuncId} {fn : Func} {fr : Bool} (hf : P.funcs[f]? = some fn) (hb : fn.body.isSome = true) (hcal : callable P f = true) {args : List AV} {r : AV} (hn : Nat.ble args.length fn.ntmps = true) {st : St} (hst : St.init fn args [] = st)
    (h : Ok 0 P (cE (codeE fn) []) st (fun e s => (e = .normal ∨ e = .ret) ∧ FinF P fn fr r s)) : FnF P f fr args r := by
  subst hst
  obtain ⟨c, hc⟩ := Option.isSome_iff_exists.1 hb
  refine fn_pureF hf hc hcal hn ?_
  have : cE (codeE fn) [] = c := by
    have h1 : codeE fn = c := by unfold codeE; rw [hc]
    rw [h1]; cases c <;> rfl
  rw [this] at h
  exact h

def evFnF (P : Program) (n : Nat) (fn : Func) (fr : Bool) (ss : List Sup) (args : List AV) (r : AV) : Option (List Prop) :=
  match fn.body with
  | some c => match evC P n c ss (St.init fn args []) with
    | some (e, st, _, ob) => match e with
      | .exit _ => none
      | _ => match resultsAV P fn st with
        | some x => match exV (memL st.mem) fr x r with
          | some ob2 => some (ob ++ ob2)
          | none => none
        | none => none
    | none => none
  | none => none

/-- A whole function, one way through it. -/
theorem fn_evF {f : FuncId} {fn : Func} {fr : Bool} (hm : P.follows .mixedOrders = true) (hf : P.funcs[f]? = some fn) (hcal : callable P f = true) (n : Nat) (ss : List Sup) {args : List AV} {r : AV} {ob : List Prop} (hn : Nat.ble args.length fn.ntmps = true)
    (h : evFnF P n fn fr ss args r = some ob) (hob : AllP ob) : FnF P f fr args r := by
  unfold evFnF at h
  split at h
  · rename_i c hc
    split at h
    · rename_i e st ss' o1 h1
      split at h
      · cases h
      · rename_i hne
        split at h
        · rename_i x h2
          split at h
          · rename_i o2 h3
            cases h
            obtain ⟨hob1, hob2⟩ := AllP.append hob
            refine fn_pureF hf hc hcal hn (Ok.ev hm n ss h1 hob1 ⟨?_, x, o2, h2, h3, hob2⟩)
            cases e with
            | normal => exact .inl rfl
            | ret => exact .inr rfl
            | exit j => exact absurd rfl (hne j)
          · cases h
        · cases h
    · cases h
  · cases h

def finF (P : Program) (fn : Func) (fr : Bool) (s : St) (r : AV) : Option (List Prop) := match resultsAV P fn s with
  | some x => exV (memL s.mem) fr x r
  | none => none
theorem finF_of {fn : Func} {fr : Bool} {r : AV} {s : St} {ob : List Prop} (h : finF P fn fr s r = some ob) (hob : AllP ob) : FinF P fn fr r s := by
  unfold finF at h
  split at h
  · rename_i x h1; exact ⟨x, ob, h1, h, hob⟩
  · cases h

theorem FnF.weak {f : FuncId} {args : List AV} {r : AV} (h : FnF P f true args r) : FnF P f false args r :=
  ⟨h.1, fun B w vs hs hr => (h.2 B w vs hs hr).mono fun e w' ⟨v, h1, h2, h3⟩ => ⟨v, h1, h2, h3.mono (fun b hb => ⟨.inl (hb.1.elim id fun h => by cases h.1), hb.2⟩) (fun _ _ _ => rfl)⟩⟩

/-- A law that answers true. -/
theorem FnF.law {f : FuncId} {fr : Bool} {args : List AV} (h : FnF P f fr args (.bool true)) {w : World} {vs : Array Value} (hs : vs.size = args.length) (hr : ∀ i x, args[i]? = some x → RI w (fun b => b < w.heap.size) x (vs.getD i undef)) :
    Calls P f vs w fun e w' => e = .returned (.bool true) ∧ Below w.heap.size w w' :=
  (h.2 (fun _ => True) w vs hs fun i x hx => (hr i x hx).mono (fun b hb => ⟨trivial, hb⟩) (fun _ _ _ => rfl)).mono fun e w' ⟨v, he, hb, hv⟩ => by cases hv; exact ⟨he, hb⟩

/-- A contract of the elder kind, for values without pointers. -/
theorem fnF_of {f : FuncId} {args : List AV} {r : AV} (hc : callable P f = true) (xs : List Value) (rv : Value) (ha : ∀ (w : World) (B : Nat → Prop) (vs : Array Value), vs.size = args.length → (∀ i x, args[i]? = some x → RI w B x (vs.getD i undef)) → vs = xs.toArray)
    (hr : ∀ (w : World) (B : Nat → Prop), RI w B r rv) (h : ∀ w, Calls P f xs.toArray w fun e w' => e = .returned rv ∧ Below w.heap.size w w') : FnF P f true args r := by
  refine ⟨hc, fun B w vs hs hv => ?_⟩
  rw [ha w _ vs hs hv]
  exact (h w).mono fun e w' ⟨he, hb⟩ => ⟨rv, he, hb, hr _ _⟩

end

/-! ### Passing on through what surrounds a piece -/

section
variable {P : Program} {L : Nat} {Q : EvX → St → Prop} {s : St}
theorem seq_n {y : Code} (h : Ok L P y s Q) : seqQ L P y Q .normal s := h
theorem seq_e {y : Code} {j : Nat} (h : Q (.exit j) s) : seqQ L P y Q (.exit j) s := h
theorem seq_r {y : Code} (h : Q .ret s) : seqQ L P y Q .ret s := h
def cutQ (s1 : St) (Q : EvX → St → Prop) : EvX → St → Prop
  | .normal, s => s = s1
  | .exit j, s => Q (.exit j) s
  | .ret, s => Q .ret s
theorem cut_e {s1 : St} {j : Nat} (h : Q (.exit j) s) : cutQ s1 Q (.exit j) s := h
theorem cut_r {s1 : St} (h : Q .ret s) : cutQ s1 Q .ret s := h
theorem Ok.cutP {c : Code} {st s1 : St} (p : List Bool) (e : cE c p = .seq (cE c (p ++ [false])) (cE c (p ++ [true]))) (h : Ok L P (cE c (p ++ [false])) st (cutQ s1 Q)) (k : Ok L P (cE c (p ++ [true])) s1 Q) : Ok L P (cE c p) st Q := by
  refine Ok.seqP p e (h.mono fun x s hx => ?_)
  cases x with
  | normal => cases hx; exact k
  | exit j => exact hx
  | ret => exact hx
theorem blk_n {id : Nat} (h : Q .normal s) : blkQ id Q .normal s := h
theorem blk_r {id : Nat} (h : Q .ret s) : blkQ id Q .ret s := h
theorem loop_e {I : Nat → St → Prop} {n j : Nat} (h : Q (.exit j) s) : loopQ I n Q (.exit j) s := h
theorem loop_r {I : Nat → St → Prop} {n : Nat} (h : Q .ret s) : loopQ I n Q .ret s := h
theorem loop_n {I : Nat → St → Prop} {n : Nat} (k : Nat) (hk : k < n) (h : I k s) : loopQ I n Q .normal s := ⟨k, hk, h⟩
/-- Names that are left out; variables of the first L stay. -/
structure NameK (L : Nat) (M M' : List Blk) : Prop where
  sub : ∀ id, memL M' id ≠ none → memL M id ≠ none
  low : ∀ id, id < L → ∀ b, kindB b < 2 → memL M id = some b → ∃ b', memL M' id = some b' ∧ kindB b' = kindB b
theorem NameK.gone {m : Mem} {ρ : Nat → Nat} {w : World} {M M' : List Blk} {ρ' : Nat → Nat} {w' : World} {ds : List Deferred} (h : NameK L M M') (k : Gone L m ρ w (memL M) ρ' w' ds) : Gone L m ρ w (memL M') ρ' w' ds :=
  ⟨⟨k.ext.os, k.ext.tape, k.ext.output, k.ext.size, k.ext.frame, fun id hid => k.ext.ids id (h.sub id hid)⟩, fun id hi b hk hc => by
    obtain ⟨⟨b', h1, h1'⟩, h2⟩ := k.pre id hi b hk hc
    obtain ⟨b2, h3, h3'⟩ := h.low id hi b' (h1' ▸ hk) h1
    exact ⟨⟨b2, h3, h3'.trans h1'⟩, h2⟩, k.mks⟩
theorem name_ren {L j : Nat} {keep : List Nat} {s : St} (hL : L ≤ j ∨ s.mem.length ≤ j) : NameK L s.mem ((s.forget keep j).renew).mem := by
  have hm : ∀ id, memL ((s.forget keep j).renew).mem id = (memL (s.mem.take j) id).map (renB (memL (s.mem.take j))) := fun id => by simp only [memL, St.renew, St.forget, List.getElem?_map]
  refine ⟨fun id hid hn => hid ?_, fun id hi b hk hc => ?_⟩
  · rw [hm]
    have : memL (s.mem.take j) id = none := by
      simp only [memL, List.getElem?_take] at hn ⊢
      split
      · exact hn
      · rfl
    rw [this]; rfl
  · rw [hm]
    have hlt := (List.getElem?_eq_some_iff.1 hc).1
    have : memL (s.mem.take j) id = some b := by
      simp only [memL, List.getElem?_take] at hc ⊢
      rw [if_pos (by omega)]; exact hc
    rw [this]
    exact ⟨_, rfl, by cases b <;> rfl⟩
theorem name_renew {j : Nat} {keep : List Nat} {s : St} (hL : L ≤ j) : NameK L s.mem ((s.forget keep j).renew).mem := name_ren (.inl hL)
theorem name_pre (keep : List Nat) (s : St) : ∀ id, id < L → ∀ b, kindB b < 2 → memL s.mem id = some b → ∃ b', memL ((s.forget keep s.mem.length).renew).mem id = some b' ∧ kindB b' = kindB b := (name_ren (.inr (Nat.le_refl _))).low
/-- The end of one passage: what was laid in it may be forgotten. -/
def loopG (I : Nat → St → Prop) (n M L : Nat) (Q : EvX → St → Prop) : EvX → St → Prop
  | .normal, s => ∃ k s', k < n ∧ I k s' ∧ (∀ dd A ρ a w, RS dd A ρ s a w → RS dd A ρ s' a w) ∧ NameK L s.mem s'.mem
  | .exit j, s => Q (.exit j) s
  | .ret, s => Q .ret s
theorem Ok.body {c : Code} {st : St} {I : Nat → St → Prop} {n M : Nat} (h : Ok L P c st (loopG I n M L Q)) : Ok L P c st (loopQ I n Q) := fun ro dd A ρ a w hro hR hup =>
  Code.wpIn_mono (fun e a' w' ⟨x, st', ρ', ds, h1, h2, h3, h4⟩ => by
    cases x with
    | normal =>
      obtain ⟨k, s', hk, hI, e1, e2⟩ := h2
      exact ⟨.normal, s', ρ', ds, h1, ⟨k, hk, hI⟩, e1 _ _ _ _ _ h3, e2.gone h4⟩
    | exit i => exact ⟨_, st', ρ', ds, h1, h2, h3, h4⟩
    | ret => exact ⟨_, st', ρ', ds, h1, h2, h3, h4⟩) (h ro dd A ρ a w hro hR hup)
theorem Ok.loopB {c : Code} {st : St} (p : List Bool) (e : cE c p = .loop (cE c (p ++ [false]))) (I : Nat → St → Prop) (n : Nat) (h0 : I n st) (h : ∀ n s, I n s → Ok L P (cE c (p ++ [false])) s (loopG I n s.mem.length L Q)) : Ok L P (cE c p) st Q :=
  Ok.loopP p e I n h0 fun n s hI => (h n s hI).body
def preG (st : St) (keep : List Nat) (j : Nat) : Option (St × List Prop) := (closedR j (st.mem.take j)).map fun ob => ((st.forget keep j).renew, ob)
theorem take_none {M : List Blk} {j id : Nat} (h : memL (M.take j) id ≠ none) : memL M id ≠ none := by
  simp only [memL, List.getElem?_take] at h ⊢
  split at h
  · exact h
  · exact absurd rfl h
theorem loop_g {I : Nat → St → Prop} {n M : Nat} {s' : St} {ob : List Prop} (keep : List Nat) (j k : Nat) (hk : k < n) (hj : Nat.ble M j = true) (h : preG s keep j = some (s', ob)) (hob : AllP ob) (hI : I k s') (hL : Nat.ble L j = true := by kernel_rfl) : loopG I n M L Q .normal s := by
  obtain ⟨o, h1, h2⟩ := Option.map_eq_some_iff.1 h
  cases h2
  obtain ⟨q1, q2⟩ := closedR_of _ _ h1 hob
  exact ⟨k, _, hk, hI, fun dd A ρ a w hR => (renew_rs (forget_rs hR keep j q1) (rows_take q2)).1, name_renew (Nat.le_of_ble_eq_true hL)⟩
theorem loopg_e {I : Nat → St → Prop} {n M j : Nat} (h : Q (.exit j) s) : loopG I n M L Q (.exit j) s := h
theorem loopg_r {I : Nat → St → Prop} {n M : Nat} (h : Q .ret s) : loopG I n M L Q .ret s := h
def preF (st : St) (keep : List Nat) : Option (St × List Prop) := (closedR st.mem.length st.mem).map fun ob => ((st.forget keep st.mem.length).renew, ob)
theorem Ok.preE {c : Code} {st st' : St} {ob : List Prop} (keep : List Nat) (h : preF st keep = some (st', ob)) (hob : AllP ob) (k : Ok L P c st' Q) : Ok L P c st Q := fun ro dd A ρ a w hro hR hup => by
  obtain ⟨o, h1, h2⟩ := Option.map_eq_some_iff.1 h
  cases h2
  obtain ⟨q1, q2⟩ := closedR_of _ _ h1 hob
  obtain ⟨e1, e2⟩ := renew_rs (forget_rs hR keep st.mem.length (by unfold ClosedM; rw [List.take_length]; exact q1)) (rows_take (by rw [List.take_length]; exact q2))
  have e3 := name_pre (L := L) keep st
  refine Code.wpIn_mono (fun e a' w' ⟨x, st1, ρ', ds, h3, h4, h5, h6⟩ => ⟨x, st1, ρ', ds, h3, h4, h5, ⟨⟨h6.ext.os, h6.ext.tape, h6.ext.output, h6.ext.size, fun b hb hn => h6.ext.frame b hb fun id hid => hn id (take_none (e2 id hid)), fun id hid => ?_⟩, fun id hi b hk hc => ?_, h6.mks⟩⟩) (k ro dd A ρ a w hro e1 (hup.sub fun id hid => take_none (e2 id hid)))
  · rcases h6.ext.ids id hid with ⟨h7, h8⟩ | h7
    · exact .inl ⟨take_none (e2 id h7), h8⟩
    · exact .inr h7
  · obtain ⟨b', hc', he'⟩ := e3 id hi b hk hc
    obtain ⟨⟨b2, g1, g2⟩, g3⟩ := h6.pre id hi b' (he' ▸ hk) hc'
    exact ⟨⟨b2, g1, g2.trans he'⟩, g3⟩
theorem Ok.condT {c : Code} {st : St} (p : List Bool) (t : Nat) (b : Bool) (e : cE c p = .cond (.tmp t) (cE c (p ++ [false])) (cE c (p ++ [true]))) (hb : st.τ t = .bool b) (h : AV.bool b = AV.bool true) (k : Ok L P (cE c (p ++ [false])) st Q) : Ok L P (cE c p) st Q := by
  cases h; exact Ok.condP p t true e hb (fun _ => k) (fun h => by cases h)
theorem Ok.condF {c : Code} {st : St} (p : List Bool) (t : Nat) (b : Bool) (e : cE c p = .cond (.tmp t) (cE c (p ++ [false])) (cE c (p ++ [true]))) (hb : st.τ t = .bool b) (h : AV.bool b = AV.bool false) (k : Ok L P (cE c (p ++ [true])) st Q) : Ok L P (cE c p) st Q := by
  cases h; exact Ok.condP p t false e hb (fun h => by cases h) (fun _ => k)
end

/-! ### Small laws for what is owed -/
theorem bAnd {a b : Bool} (h : AV.bool a = AV.bool true) (k : AV.bool b = AV.bool true) : AV.bool (a && b) = AV.bool true := by cases h; cases k; rfl
theorem bAndL {a b : Bool} (h : AV.bool a = AV.bool false) : AV.bool (a && b) = AV.bool false := by cases h; rfl
theorem bAndR {a b : Bool} (h : AV.bool b = AV.bool false) : AV.bool (a && b) = AV.bool false := by cases h; cases a <;> rfl
theorem bNotT {a : Bool} (h : AV.bool a = AV.bool false) : AV.bool (!a) = AV.bool true := by cases h; rfl
theorem bNotF {a : Bool} (h : AV.bool a = AV.bool true) : AV.bool (!a) = AV.bool false := by cases h; rfl
theorem beqB {a b c d : Bool} (h : AV.bool a = AV.bool c) (k : AV.bool b = AV.bool d) : AV.bool (a == b) = AV.bool (c == d) := by cases h; cases k; rfl
theorem bneB {a b c d : Bool} (h : AV.bool a = AV.bool c) (k : AV.bool b = AV.bool d) : AV.bool (!(a == b)) = AV.bool (!(c == d)) := by cases h; cases k; rfl
theorem bBT {a : Bool} (h : a = true) : AV.bool a = AV.bool true := by rw [h]
theorem bBF {a : Bool} (h : ¬ a = true) : AV.bool a = AV.bool false := by cases a; rfl; exact absurd rfl h
theorem ids_map {α : Type} {f : α → AV} (h : ∀ x, idsOf (f x) = []) (l : List α) : ∀ e ∈ l.map f, idsOf e = [] := fun e he => by
  obtain ⟨x, _, rfl⟩ := List.mem_map.1 he; exact h x
theorem pl_map {α : Type} {f : α → AV} (h : ∀ x, idsOf (f x) = []) (k : ∀ x, plainV (f x) = true) (l : List α) : ∀ e ∈ l.map f, plainE e := fun e he => by
  obtain ⟨x, _, rfl⟩ := List.mem_map.1 he; exact ⟨h x, k x⟩
theorem ediv_w64 {p q : Int} (h0 : 0 ≤ p) (h1 : p ≤ 9223372036854775807) (hq : 0 ≤ q) : AV.int .i64 (IntKind.i64.wrap (p.tdiv q)) = AV.int .i64 (p / q) := by
  rw [Int.tdiv_eq_ediv_of_nonneg h0]
  have a := Int.ediv_nonneg h0 hq
  have b := Int.ediv_le_self q h0
  rw [w64 (by omega) (by omega)]
theorem ediv_wu64 {p q : Int} (h0 : 0 ≤ p) (h1 : p ≤ 18446744073709551615) (hq : 0 ≤ q) : AV.int .u64 (IntKind.u64.wrap (p.tdiv q)) = AV.int .u64 (p / q) := by
  rw [Int.tdiv_eq_ediv_of_nonneg h0]
  have a := Int.ediv_nonneg h0 hq
  have b := Int.ediv_le_self q h0
  rw [wu64 (by omega) (by omega)]
theorem upto_step {p : Nat → Prop} {i : Nat} (h : ∀ n, n < i → p n) (k : p i) : ∀ n, n < i + 1 → p n := fun n hn => by
  rcases Nat.lt_or_ge n i with h1 | h1
  · exact h n h1
  · have : n = i := by omega
    subst this; exact k
theorem cells_map {α : Type} {f : α → AV} {k : Nat} (h : ∀ x, (cellsOf (f x)).length = k) (l : List α) : ∀ y ∈ l.map f, (cellsOf y).length = k := fun y hy => by
  obtain ⟨x, _, rfl⟩ := List.mem_map.1 hy; exact h x
theorem slice_map {α : Type} {f : α → AV} {l : List α} {a b : Nat} : AV.list (((l.map f).take b).drop a) = AV.list (((l.take b).drop a).map f) := by simp [List.map_take, List.map_drop]
theorem slice_map0 {α : Type} {f : α → AV} {l : List α} {a : Nat} : AV.list (((l.map f).take ((l.map f).length : Int).toNat).drop a) = AV.list ((l.drop a).map f) := by simp [List.map_drop, List.take_of_length_le]
theorem slice_mapL {α : Type} {f : α → AV} {l : List α} {b : Nat} : AV.list (((l.map f).take b).drop 0) = AV.list ((l.take b).map f) := by simp [List.map_take]
theorem slice_mapL0 {α : Type} {f : α → AV} {l : List α} : AV.list (((l.map f).take ((l.map f).length : Int).toNat).drop 0) = AV.list (l.map f) := by simp [List.take_of_length_le]
theorem elemN {α : Type} {f : α → AV} {l : List α} {d : α} {k n : Nat} (h : k = n) (hn : n < l.length) : (l.map f)[k]? = some (f (l.getD n d)) := by
  subst h; simp [List.getD_eq_getElem?_getD, List.getElem?_eq_getElem hn]
theorem rowApp {α : Type} {f : α → AV} {l : List α} {x : α} {n : Nat} (h : n = l.length) : (l.map f).take n ++ [f x] = (l ++ [x]).map f := by subst h; rw [List.take_of_length_le (by simp)]; simp
theorem rowOut {α : Type} {f : α → AV} {l : List α} {n : Nat} (h : n = l.length) : ((l.map f).drop 0).take n = l.map f := by subst h; simp [List.take_of_length_le]
theorem len_map {α : Type} {f : α → AV} {l : List α} {k : IntKind} : AV.int k (((l.map f).length : Nat) : Int) = AV.int k (l.length : Int) := by simp
theorem get_map {α : Type} {f : α → AV} {l : List α} {i : Nat} {x : α} (h : l[i]? = some x) : (l.map f)[i]? = some (f x) := by simp [h]
end
section
open Go.RowKit

/-- A state in which most variables are d. -/
def fillT (d : AV) : Nat → Nat → List (Nat × AV) → List AV
  | 0, _, _ => []
  | n + 1, i, [] => d :: fillT d n (i + 1) []
  | n + 1, i, (k, v) :: r => match Nat.beq k i with
    | true => v :: fillT d n (i + 1) r
    | false => d :: fillT d n (i + 1) ((k, v) :: r)
abbrev stX (d : AV) (n : Nat) (l : List (Nat × AV)) (M : List Blk) : St := ⟨fillT d n 0 l, M⟩
/-- x says no more than y. -/
def SubV (x y : AV) : Prop := ∀ w B v, RI w B y v → RI w B x v
theorem SubV.refl (x : AV) : SubV x x := fun _ _ _ h => h
theorem SubV.nil : SubV (.list []) .nilslice := fun _ _ _ h => by cases h; exact .lnil none 0 (fun _ => rfl)
def SubVL : List AV → List AV → Prop
  | [], [] => True
  | x :: xs, y :: ys => SubV x y ∧ SubVL xs ys
  | _, _ => False
theorem SubVL.len : ∀ {xs ys : List AV}, SubVL xs ys → xs.length = ys.length
  | [], [], _ => rfl
  | _ :: _, _ :: _, h => by simp [SubVL.len h.2]
  | [], _ :: _, h => h.elim
  | _ :: _, [], h => h.elim
theorem SubVL.get : ∀ {xs ys : List AV}, SubVL xs ys → ∀ (i : Nat) (x : AV), xs[i]? = some x → ∃ y, ys[i]? = some y ∧ SubV x y
  | [], [], _, i, x, h => by simp at h
  | x :: xs, y :: ys, h, i, z, hz => by
    cases i with
    | zero => simp at hz; subst hz; exact ⟨y, rfl, h.1⟩
    | succ i => simpa using SubVL.get h.2 i z (by simpa using hz)
  | [], _ :: _, h, _, _, _ => h.elim
  | _ :: _, [], h, _, _, _ => h.elim
theorem SubV.agg {xs ys : List AV} (h : SubVL xs ys) : SubV (.agg xs) (.agg ys) := fun w B v k => by
  cases k with
  | agg cs vs hs hr =>
    refine .agg _ vs (hs.trans h.len.symm) fun i c hc => ?_
    obtain ⟨y, h1, h2⟩ := h.get i c hc
    exact h2 _ _ _ (hr i y h1)
theorem FnF.sub {P : Program} {f : FuncId} {fr : Bool} {xs ys : List AV} {r : AV} (h : FnF P f fr xs r) (hs : SubVL xs ys) : FnF P f fr ys r :=
  ⟨h.1, fun B w vs hsz hr => h.2 B w vs (hsz.trans hs.len.symm) fun i x hx => by
    obtain ⟨y, h1, h2⟩ := hs.get i x hx
    exact h2 _ _ _ (hr i y h1)⟩
theorem unB {a b : Bool} (h : AV.bool a = AV.bool b) : a = b := by cases h; rfl
theorem st_to {Q : EvX → St → Prop} {e : EvX} {s s' : St} (h : s = s') (k : Q e s') : Q e s := h ▸ k
theorem shr_is {p m : Int} {k : IntKind} {e : Nat} (h : (2 : Int) ^ e = m) (h0 : 0 ≤ m) : AV.int k (Int.fdiv p (2 ^ e)) = AV.int k (p / m) := by
  rw [h, Int.fdiv_eq_ediv_of_nonneg p h0]
theorem getD_all0 {l : List Int} {a b : Int} (h : ∀ x ∈ l, a ≤ x ∧ x ≤ b) (n : Nat) (h0 : a ≤ 0 ∧ 0 ≤ b := by decide) : a ≤ l.getD n 0 ∧ l.getD n 0 ≤ b := by
  by_cases hn : n < l.length
  · rw [List.getD_eq_getElem?_getD, List.getElem?_eq_getElem hn]; exact h _ (List.getElem_mem hn)
  · rw [List.getD_eq_getElem?_getD, List.getElem?_eq_none (by omega)]; exact h0

/-! ### A function that is lent all of the caller's memory, or hands out all of its own -/

def evFnM (P : Program) (n : Nat) (fn : Func) (ss : List Sup) (args : List AV) (M : List Blk) : Option (AV × List Blk × List Prop) :=
  match fn.body with
  | some c => match evC P n c ss (St.init fn args M) with
    | some (e, st, _, ob) => match e with
      | .exit _ => none
      | _ => match resultsAV P fn st with
        | some x => some (x, st.mem, ob)
        | none => none
    | none => none
  | none => none
theorem fn_evM {P : Program} {f : FuncId} {fn : Func} (hm : P.follows .mixedOrders = true) (hf : P.funcs[f]? = some fn) (hcal : callable P f = true) (n : Nat) (ss : List Sup) {args : List AV} {M M' : List Blk} {r : AV} {ob : List Prop} (hn : Nat.ble args.length fn.ntmps = true)
    (h : evFnM P n fn ss args M = some (r, M', ob)) (hob : AllP ob) : FnM P f M args r M' := by
  unfold evFnM at h
  split at h
  · rename_i c hc
    split at h
    · rename_i e st ss' o1 h1
      split at h
      · cases h
      · rename_i hne
        split at h
        · rename_i x h2
          cases h
          refine ⟨hcal, fun B ρ w vs hF hs hr => fr_calls (callsIn_of_wp (F := FR none) (n := 0) hf hc trivial ?_)⟩
          have hn := Nat.le_of_ble_eq_true hn
          refine Code.wpIn_mono ?_ (evC_ok (ro := none) (A := Allow B w.heap.size) hm n c ss _ _ _ _ _ h1 hob ρ { tmps := vs ++ Array.replicate (fn.ntmps - vs.size) undef, defers := [] } w ⟨hF, ?_, rfl, fun t v hv => ?_⟩ (fun b hb => .inr hb)
            (fun e' a' w' => e' = e.to ∧ ∃ ρ', RS [] (Allow B w.heap.size) ρ' st a' w' ∧ Ext (memL M) ρ w (memL st.mem) ρ' w') fun a' ρ' w' hR hE => ⟨rfl, ρ', hR, hE⟩)
          · rintro e' a' w' ⟨rfl, ρ', hR, hE⟩
            obtain ⟨v, q1, q2⟩ := results_ok hR h2
            cases e with
            | normal => exact ⟨hR.df, v, q1, v, ρ', rfl, hE, hR.fits, q2⟩
            | ret => exact ⟨hR.df, v, q1, v, ρ', rfl, hE, hR.fits, q2⟩
            | exit j => exact absurd rfl (hne j)
          · simp [St.init, hs]
          · simp only [St.init] at hv
            rw [Array.getD_eq_getD_getElem?]
            by_cases h1 : t < args.length
            · rw [List.getElem?_append_left h1] at hv
              rw [Array.getElem?_append_left (by omega), ← Array.getD_eq_getD_getElem?]
              exact hr t v hv
            · rw [List.getElem?_append_right (by omega), List.getElem?_replicate] at hv
              split at hv
              · rename_i h2
                obtain rfl := Option.some.inj hv
                rw [Array.getElem?_append_right (by omega), Array.getElem?_replicate, if_pos (by omega)]
                exact .base (.tuple [] #[] rfl (fun i c hc => by simp at hc))
              · cases hv
        · cases h
    · cases h
  · cases h
/-! ### Functions that are lent blocks of the caller's -/
section
variable {P : Program}
def FinL (P : Program) (fn : Func) (n : Nat) (r : AV) (R : List Blk) (s : St) : Prop :=
  ∃ j x ob, n ≤ j ∧ resultsAV P fn s = some x ∧ belowV j x = true ∧ closedR j (s.mem.take j) = some ob ∧ AllP ob ∧ r = renV (memL (s.mem.take j)) x ∧ R = ((s.forget [] j).renew).mem
def finL (P : Program) (fn : Func) (n j : Nat) (s : St) : Option (AV × List Blk × List Prop) := match resultsAV P fn s, closedR j (s.mem.take j) with
  | some x, some ob => if belowV j x && Nat.ble n j then some (renV (memL (s.mem.take j)) x, ((s.forget [] j).renew).mem, ob) else none
  | _, _ => none
theorem finL_of {fn : Func} {n : Nat} {r r0 : AV} {R R0 : List Blk} {s : St} {ob : List Prop} (j : Nat) (hob : AllP ob) (e1 : r0 = r) (e2 : R0 = R) (h : finL P fn n j s = some (r0, R0, ob) := by kernel_rfl) : FinL P fn n r R s := by
  subst e1; subst e2
  unfold finL at h
  split at h
  · rename_i x o h1 h2
    split at h
    · rename_i h3
      cases h
      simp only [Bool.and_eq_true] at h3
      exact ⟨j, x, _, Nat.le_of_ble_eq_true h3.2, h1, h3.1, h2, hob, rfl, rfl⟩
    · cases h
  · cases h
theorem fin_to {fn : Func} {r r0 : AV} {R R0 : List Blk} {s : St} (is : List Nat) {ob : List Prop} (hob : AllP ob) (e1 : r0 = r) (e2 : R0 = R) (h : finB P fn is s = some (r0, R0, ob) := by kernel_rfl) : Fin P fn r R s := by
  subst e1; subst e2; exact fin_of is h hob
theorem FnL.m {f : FuncId} {args : List AV} {r : AV} {R : List Blk} (h : FnL P f [] args r R) : FnM P f [] args r R :=
  ⟨h.1, fun B ρ w vs hF hs hr => (h.2 B ρ w vs hF hs hr).mono fun e w' ⟨v, ρ', h1, h2, h3, h4⟩ => ⟨v, ρ', h1, ⟨h2.os, h2.tape, h2.output, h2.size, h2.frame, h2.ids, fun id b hb => by simp [memL] at hb⟩, h4⟩⟩
theorem fn_walkL {f : FuncId} {fn : Func} {args : List AV} {M : List Blk} {r : AV} {R : List Blk} {st : St} (hf : P.funcs[f]? = some fn) (hst : St.init fn args M = st)
    (h : Ok M.length P (cE (codeE fn) []) st (fun e s => (e = .normal ∨ e = .ret) ∧ FinL P fn M.length r R s)) (hb : fn.body.isSome = true := by kernel_rfl) (hcal : callable P f = true := by kernel_rfl) (hn : Nat.ble args.length fn.ntmps = true := by kernel_rfl) : FnL P f M args r R := by
  subst hst
  obtain ⟨c, hc⟩ := Option.isSome_iff_exists.1 hb
  have hcc : cE (codeE fn) [] = c := by
    have h1 : codeE fn = c := by unfold codeE; rw [hc]
    rw [h1]; cases c <;> rfl
  rw [hcc] at h
  refine ⟨hcal, fun B ρ w vs hF hs hr => fr_calls (callsIn_of_wp_marks (F := FR none) (n := 0) hf hc trivial ?_)⟩
  have hn := Nat.le_of_ble_eq_true hn
  refine Code.wpIn_mono ?_ (h none [] (Allow B w.heap.size) ρ { tmps := vs ++ Array.replicate (fn.ntmps - vs.size) undef, defers := [] } w (.none w) ⟨hF, ?_, rfl, fun t v hv => ?_⟩ ⟨fun b hb => .inr hb, fun id hid hm => ?_⟩)
  · rintro e a' w' ⟨x, st', ρ', ds, rfl, ⟨hx, j, y, ob, hnj, h1, h2, h3, h4, rfl, rfl⟩, hR, hE⟩
    have hdf : a'.defers = ds := by rw [hR.df, List.append_nil]
    obtain ⟨Ds, g1, g2, g3⟩ := hE.mks
    obtain ⟨q1, q2⟩ := closedR_of _ _ h3 h4
    have key : LeavesInM (FR none) 0 P fn a'.tmps (fun e w' => ∃ v ρ', e = .returned v ∧ ExtW (memL M) ρ w (memL ((st'.forget [] j).renew).mem) ρ' w' ∧ PreC M.length (memL M) ρ (memL ((st'.forget [] j).renew).mem) ρ' ∧ Fits (Allow B w.heap.size) (memL ((st'.forget [] j).renew).mem) ρ' w' ∧ Rep (Allow B w.heap.size) (memL ((st'.forget [] j).renew).mem) ρ' w' (renV (memL (st'.mem.take j)) y) v) a'.defers .returning w' := by
      rw [hdf, g1]
      refine leave_marks Ds w' g2 g3 fun w2 hc2 hb2 => ?_
      have hR2 := hR.calm hc2
      obtain ⟨v, r1, r2⟩ := results_ok hR2 h1
      have hRn := (renew_rs (forget_rs hR2 [] j q1) (rows_take q2)).1
      have hG := (name_ren (L := M.length) (keep := []) (s := st') (.inl hnj)).gone hE
      have hrep : Rep (Allow B w.heap.size) (memL (st'.mem.take j)) ρ' w2 y v := Rep.drop (fun id hid => by
          simp only [memL, List.getElem?_take] at hid ⊢
          split
          · rfl
          · rename_i hn; rw [if_neg hn] at hid; exact absurd rfl hid) r2 (fun id hid => by
          have := List.all_eq_true.1 h2 id hid
          simp only [memL, List.getElem?_take]
          rw [if_pos]
          have := Nat.le_of_ble_eq_true this
          omega)
      refine ⟨v, r1, v, ρ', rfl, hG.ext.calm hc2 hb2, hG.pre, hRn.fits, ?_⟩
      exact renV_rep (fun id => by simp only [memL, St.renew, St.forget, List.getElem?_map]) hrep
    rcases hx with rfl | rfl
    · exact key
    · exact key
  · simp [St.init, hs]
  · simp only [St.init] at hv
    rw [Array.getD_eq_getD_getElem?]
    by_cases h1 : t < args.length
    · rw [List.getElem?_append_left h1] at hv
      rw [Array.getElem?_append_left (by omega), ← Array.getD_eq_getD_getElem?]
      exact hr t v hv
    · rw [List.getElem?_append_right (by omega), List.getElem?_replicate] at hv
      split at hv
      · rename_i h2
        obtain rfl := Option.some.inj hv
        rw [Array.getElem?_append_right (by omega), Array.getElem?_replicate, if_pos (by omega)]
        exact .base (.tuple [] #[] rfl (fun i c hc => by simp at hc))
      · cases hv
  · refine absurd ?_ hm
    show M[id]? = none
    exact List.getElem?_eq_none hid
end
/-! ### The same, shorter to say -/
section
variable {P : Program} {L : Nat} {Q : EvX → St → Prop}
theorem Ok.sq {c : Code} {st : St} (p : List Bool) (h : Ok L P (cE c (p ++ [false])) st (seqQ L P (cE c (p ++ [true])) Q)) (e : cE c p = .seq (cE c (p ++ [false])) (cE c (p ++ [true])) := by kernel_rfl) : Ok L P (cE c p) st Q := Ok.seqP p e h
theorem Ok.bk {c : Code} {st : St} (p : List Bool) (id : Nat) (h : Ok L P (cE c (p ++ [false])) st (blkQ id Q)) (e : cE c p = .block id (cE c (p ++ [false])) := by kernel_rfl) : Ok L P (cE c p) st Q := Ok.blockP p id e h
/-! ### New blocks get the names of elder ones that are forgotten -/
def inSl (look : Mem) (is keep : List Nat) : Nat → List AV → Option (List AV)
  | _, [] => some []
  | t, x :: l => match (if keep.any (Nat.beq t) then inN look is x else some .any), inSl look is keep (t + 1) l with
    | some y, some r => some (y :: r)
    | _, _ => none
def okIs (n0 : Nat) : Nat → List Nat → Bool
  | _, [] => true
  | j, i :: r => (Nat.beq i j || Nat.ble n0 i) && okIs n0 (j + 1) r
def lowIs : Nat → Nat → List Nat → Bool
  | 0, _, _ => true
  | L + 1, j, i :: r => Nat.beq i j && lowIs L (j + 1) r
  | _ + 1, _, [] => false
/-- The blocks of some names, under new ones. -/
def renR (look : Mem) (all : List Nat) : List Nat → Option (List Blk × List Prop)
  | [] => some ([], [])
  | id :: is => match look id, renR look all is with
    | some (.cells cs), some (bs, ob) => (inNL look all cs).map fun cs' => (.cells cs' :: bs, ob)
    | some (.row k es _), some (bs, ob) => some (.row k es 0 :: bs, (∀ e ∈ es, idsOf e = []) :: ob)
    | some (.mp es), some (bs, ob) => some (.mp es :: bs, (∀ e ∈ es, idsOf e = []) :: ob)
    | _, _ => none
theorem renR_get {look : Mem} {all : List Nat} : ∀ (is : List Nat) (M : List Blk) (ob : List Prop), renR look all is = some (M, ob) → AllP ob → M.length = is.length ∧ ∀ (j id : Nat), is[j]? = some id →
    (∃ cs cs', look id = some (.cells cs) ∧ M[j]? = some (.cells cs') ∧ inNL look all cs = some cs') ∨ (∃ k es ver, look id = some (.row k es ver) ∧ M[j]? = some (.row k es 0) ∧ ∀ e ∈ es, idsOf e = []) ∨ (∃ es, look id = some (.mp es) ∧ M[j]? = some (.mp es) ∧ ∀ e ∈ es, idsOf e = [])
  | [], M, ob, h, _ => by
    cases h; exact ⟨rfl, fun j id h => by simp at h⟩
  | i :: is, M, ob, h, hob => by
    unfold renR at h
    split at h
    · rename_i cs bs o1 h1 h2
      obtain ⟨cs', h3, h6⟩ := Option.map_eq_some_iff.1 h
      cases h6
      obtain ⟨h4, h5⟩ := renR_get is bs _ h2 hob
      refine ⟨by simp [h4], fun j id hj => ?_⟩
      cases j with
      | zero => simp at hj; subst hj; exact .inl ⟨cs, cs', h1, rfl, h3⟩
      | succ j => simpa using h5 j id (by simpa using hj)
    · rename_i k es v bs o1 h1 h2
      cases h
      obtain ⟨h4, h5⟩ := renR_get is bs o1 h2 hob.2
      refine ⟨by simp [h4], fun j id hj => ?_⟩
      cases j with
      | zero => simp at hj; subst hj; exact .inr (.inl ⟨k, es, v, h1, rfl, hob.1⟩)
      | succ j => simpa using h5 j id (by simpa using hj)
    · rename_i es bs o1 h1 h2
      cases h
      obtain ⟨h4, h5⟩ := renR_get is bs o1 h2 hob.2
      refine ⟨by simp [h4], fun j id hj => ?_⟩
      cases j with
      | zero => simp at hj; subst hj; exact .inr (.inr ⟨es, h1, rfl, hob.1⟩)
      | succ j => simpa using h5 j id (by simpa using hj)
    · cases h
def evr (P : Program) (n : Nat) (c : Code) (ss : List Sup) (st : St) (keep is : List Nat) (L : Nat) : Option (EvX × St × List Prop) := match evC P n c ss st with
  | some (e, s, _, ob) => match renR (memL s.mem) is is, inSl (memL s.mem) is keep 0 s.tmps with
    | some (M, ob2), some tm => if nodupL is && okIs st.mem.length 0 is && lowIs L 0 is then some (e, ⟨tm, M⟩, ob2 ++ ob) else none
    | _, _ => none
  | none => none
theorem inSl_get {look : Mem} {is keep : List Nat} : ∀ {l l' : List AV} {t : Nat}, inSl look is keep t l = some l' → l'.length = l.length ∧ ∀ (i : Nat) (y : AV), l'[i]? = some y → y = .any ∨ ∃ x, l[i]? = some x ∧ inN look is x = some y
  | [], l', t, h => by unfold inSl at h; cases h; exact ⟨rfl, fun i y h => by simp at h⟩
  | x :: l, l', t, h => by
    unfold inSl at h
    split at h
    · rename_i y r h1 h2
      cases h
      obtain ⟨h3, h4⟩ := inSl_get h2
      refine ⟨by simp [h3], fun i z hz => ?_⟩
      cases i with
      | zero =>
        simp at hz; subst hz
        split at h1
        · exact .inr ⟨x, rfl, h1⟩
        · cases h1; exact .inl rfl
      | succ i => simpa using h4 i z (by simpa using hz)
    · cases h
theorem okIs_get {n0 : Nat} : ∀ {is : List Nat} {k : Nat}, okIs n0 k is = true → ∀ (j i : Nat), is[j]? = some i → i = k + j ∨ n0 ≤ i
  | [], k, _, j, i, h => by simp at h
  | x :: r, k, h, j, i, hj => by
    simp only [okIs, Bool.and_eq_true, Bool.or_eq_true] at h
    cases j with
    | zero =>
      simp at hj; subst hj
      rcases h.1 with h1 | h1
      · exact .inl (Nat.eq_of_beq_eq_true h1)
      · exact .inr (Nat.le_of_ble_eq_true h1)
    | succ j =>
      have := okIs_get h.2 j i (by simpa using hj)
      omega
theorem lowIs_get : ∀ {L k : Nat} {is : List Nat}, lowIs L k is = true → ∀ j, j < L → is[j]? = some (k + j)
  | 0, _, _, _, j, hj => by omega
  | L + 1, k, [], h, j, hj => by simp [lowIs] at h
  | L + 1, k, i :: r, h, j, hj => by
    simp only [lowIs, Bool.and_eq_true] at h
    cases j with
    | zero => simp; exact Nat.eq_of_beq_eq_true h.1
    | succ j =>
      have := lowIs_get h.2 j (by omega)
      simp [this]; omega
theorem ren_rs {dd : List Deferred} {A : Nat → Prop} {ρ : Nat → Nat} {s : St} {a : Act} {w : World} (h : RS dd A ρ s a w) {is keep : List Nat} {M : List Blk} {ob : List Prop} {tm : List AV} (hl : renR (memL s.mem) is is = some (M, ob)) (hob : AllP ob) (ht : inSl (memL s.mem) is keep 0 s.tmps = some tm) (hn : nodupL is = true) :
    RS dd A (fun j => ρ (is.getD j 0)) ⟨tm, M⟩ a w ∧ ∀ j, memL M j ≠ none → ∃ id, is[j]? = some id ∧ memL s.mem id ≠ none := by
  have hnd := nodupL_ok hn
  obtain ⟨hM1, hM2⟩ := renR_get is M ob hl hob
  have hne : ∀ j id, is[j]? = some id → memL s.mem id ≠ none := fun j id hj => by
    rcases hM2 j id hj with ⟨cs, cs', h1, _⟩ | ⟨k, es, ver, h1, _⟩ | ⟨es, h1, _⟩ <;> rw [h1] <;> simp
  have hisl : ∀ j, memL M j ≠ none → j < is.length := fun j hj => by
    rcases Nat.lt_or_ge j M.length with h1 | h1
    · omega
    · exact absurd (by simp [memL, List.getElem?_eq_none h1]) hj
  have hisg : ∀ j, j < is.length → is[j]? = some (is.getD j 0) := fun j hj => by rw [List.getD_eq_getElem?_getD, List.getElem?_eq_getElem hj]; rfl
  have hget : ∀ j id, is[j]? = some id → is.getD j 0 = id := fun j id hj => by rw [List.getD_eq_getElem?_getD, hj]; rfl
  have hal : ∀ q, Alien A (memL s.mem) ρ w q → Alien A (memL M) (fun j => ρ (is.getD j 0)) w q := fun q hq => ⟨hq.1, hq.2.1, fun j hj he => hq.2.2 _ (hne j _ (hisg j (hisl j hj))) he⟩
  have hfree1 : ∀ {x : AV} {v : Value}, idsOf x = [] → Rep A (memL s.mem) ρ w x v → Rep A (memL M) (fun j => ρ (is.getD j 0)) w x v := fun hi hx => .base ((hx.ri hi).mono (fun q hq => hal q hq) (fun _ _ _ => rfl))
  have hidc : ∀ {l : List AV} {i : Nat} {x : AV}, idsL l = [] → l[i]? = some x → idsOf x = [] := fun {l i x} hl hx => by
    rw [List.eq_nil_iff_forall_not_mem]
    intro n hn
    have := idsL_get hx hn
    rw [hl] at this; cases this
  have hmap : ∀ j id, is[j]? = some id → (fun j => ρ (is.getD j 0)) j = ρ id ∧ ((∃ cs cs', memL s.mem id = some (.cells cs) ∧ memL M j = some (.cells cs')) ∨ (∃ k es ver, memL s.mem id = some (.row k es ver) ∧ memL M j = some (.row k es 0)) ∨ ∃ es es', memL s.mem id = some (.mp es) ∧ memL M j = some (.mp es')) := fun j id hj => by
    refine ⟨by simp only [hget j id hj], ?_⟩
    rcases hM2 j id hj with ⟨cs, cs', h1, h2, _⟩ | ⟨k, es, ver, h1, h2, _⟩ | ⟨es, h1, h2, _⟩
    · exact .inl ⟨cs, cs', h1, h2⟩
    · exact .inr (.inl ⟨k, es, ver, h1, h2⟩)
    · exact .inr (.inr ⟨es, es, h1, h2⟩)
  obtain ⟨hxl, hxg⟩ := inSl_get ht
  refine ⟨⟨⟨fun i j hi hj he => ?_, fun j b hb => ?_⟩, by rw [h.size]; exact hxl.symm, h.df, fun t y hy => ?_⟩, fun j hj => ⟨_, hisg j (hisl j hj), hne j _ (hisg j (hisl j hj))⟩⟩
  · have hi' := hisl i hi
    have hj' := hisl j hj
    have := h.fits.inj _ _ (hne i _ (hisg i hi')) (hne j _ (hisg j hj')) he
    exact nodup_at hnd (hisg i hi') (by rw [this]; exact hisg j hj')
  · have hj' := hisl j (by rw [hb]; simp)
    rcases hM2 j _ (hisg j hj') with ⟨cs, cs', h1, h2, h3⟩ | ⟨k, es, ver, h1, h2, h3⟩ | ⟨es, h1, h2, h3⟩
    · rw [show memL M j = M[j]? from rfl, h2] at hb
      obtain rfl := Option.some.inj hb
      obtain ⟨us, t, e1, e2, e3⟩ := h.fits.at_ _ _ h1
      obtain ⟨g1, g2⟩ := inNL_get h3
      refine ⟨us, t, e1, by omega, fun i y hy => ?_⟩
      obtain ⟨x, hx, hxy⟩ := g2 i y hy
      exact inN_rep hal hmap (e3 i x hx) hxy
    · rw [show memL M j = M[j]? from rfl, h2] at hb
      obtain rfl := Option.some.inj hb
      obtain ⟨e0, e4, us, t, e1, e2, e3⟩ := h.fits.at_ _ _ h1
      refine ⟨e0, e4, us, t, e1, e2, fun i e j' x hx hx' => hfree1 ?_ (e3 i e j' x hx hx')⟩
      exact ids_cell (h3 e (List.mem_of_getElem? hx)) hx'
    · rw [show memL M j = M[j]? from rfl, h2] at hb
      obtain rfl := Option.some.inj hb
      obtain ⟨ents, e1, e2, e3⟩ := h.fits.at_ _ _ h1
      refine ⟨ents, e1, e2, fun i x e hx he => ?_⟩
      obtain ⟨k, v, rfl, g2, g3, g4⟩ := e3 i x e hx he
      exact ⟨k, v, rfl, g2, g3, hfree1 (ids_cell (j := 1) (h3 _ (List.mem_of_getElem? hx)) rfl) g4⟩
  · rcases hxg t y hy with rfl | ⟨x, hx, hxy⟩
    · exact .base (.any _)
    · exact inN_rep hal hmap (h.rep t x hx) hxy
theorem Ok.evr (n : Nat) (ss : List Sup) (keep is : List Nat) {c : Code} {st st' : St} {e : EvX} {ob : List Prop} {Q : EvX → St → Prop} (hob : AllP ob) (hQ : Q e st') (hm : P.follows .mixedOrders = true := by kernel_rfl) (h : Go.Proofs.Ytglfbdicclepcaa.evr P n c ss st keep is L = some (e, st', ob) := by kernel_rfl) : Ok L P c st Q := by
  unfold Go.Proofs.Ytglfbdicclepcaa.evr at h
  split at h
  · rename_i e1 s ss' ob1 h1
    split at h
    · rename_i M ob2 tm h2 h3
      split at h
      · rename_i h4
        cases h
        simp only [Bool.and_eq_true] at h4
        obtain ⟨hob2, hob1⟩ := AllP.append hob
        intro ro dd A ρ a w hro hR hup
        refine Code.wpIn_mono ?_ (Ok.ev (Q := fun e' s' => e' = e ∧ s' = s) hm n ss h1 hob1 ⟨rfl, rfl⟩ ro dd A ρ a w hro hR hup)
        rintro z a' w' ⟨x, st2, ρ', ds, g1, ⟨rfl, rfl⟩, g3, g4⟩
        obtain ⟨r1, r2⟩ := ren_rs g3 h2 hob2 h3 h4.1.1
        refine ⟨_, ⟨tm, M⟩, _, ds, g1, hQ, r1, ⟨⟨g4.ext.os, g4.ext.tape, g4.ext.output, g4.ext.size, g4.ext.frame, fun j hj => ?_⟩, fun id hi b hk hc => ?_, g4.mks⟩⟩
        · obtain ⟨id, q1, q2⟩ := r2 j hj
          have e0 : is.getD j 0 = id := by rw [List.getD_eq_getElem?_getD, q1]; rfl
          simp only [e0]
          rcases okIs_get h4.1.2 j id q1 with q3 | q3
          · rw [Nat.zero_add] at q3; subst q3; exact g4.ext.ids _ q2
          · rcases g4.ext.ids id q2 with ⟨q4, _⟩ | q4
            · exact absurd (by simp [memL, List.getElem?_eq_none q3]) q4
            · exact .inr q4
        · have q1 := lowIs_get h4.2 id hi
          rw [Nat.zero_add] at q1
          obtain ⟨⟨b', q2, q2'⟩, q3⟩ := g4.pre id hi b hk hc
          have e0 : is.getD id 0 = id := by rw [List.getD_eq_getElem?_getD, q1]; rfl
          refine ⟨?_, by simp only [e0]; exact q3⟩
          rcases (renR_get is M ob2 h2 hob2).2 id id q1 with ⟨cs3, cs2, q4, q5, _⟩ | ⟨k, es, ver, q4, _⟩ | ⟨es, q4, q5, _⟩
          · rw [q2] at q4; cases q4
            exact ⟨_, q5, q2'⟩
          · rw [q2] at q4; cases q4
            rw [← q2'] at hk; exact absurd hk (by simp [kindB])
          · rw [q2] at q4; cases q4
            exact ⟨_, q5, q2'⟩
      · cases h
    · cases h
  · cases h
theorem Ok.ev2 (n : Nat) (ss : List Sup) (keep : List Nat) (j : Nat) {c : Code} {st st' : St} {e : EvX} {ob : List Prop} (hob : AllP ob) (hQ : Q e st') (hm : P.follows .mixedOrders = true := by kernel_rfl) (h : Go.Proofs.Ytglfbdicclepcaa.evf P n c ss st keep j = some (e, st', ob) := by kernel_rfl) (hL : Nat.ble L j = true := by kernel_rfl) : Ok L P c st Q := Ok.evf hm n ss keep j h hob hQ hL
theorem fn_e2 {f : FuncId} {fn : Func} {fr : Bool} (hf : P.funcs[f]? = some fn) (n : Nat) (ss : List Sup) {args : List AV} {r : AV} {ob : List Prop} (hob : AllP ob) (hm : P.follows .mixedOrders = true := by kernel_rfl) (hcal : callable P f = true := by kernel_rfl) (hn : Nat.ble args.length fn.ntmps = true := by kernel_rfl) (h : evFnF P n fn fr ss args r = some ob := by kernel_rfl) : FnF P f fr args r := fn_evF hm hf hcal n ss hn h hob
end
abbrev iV (x : Int) : AV := .int .i64 x
end
end Go.Proofs.Ytglfbdicclepcaa
