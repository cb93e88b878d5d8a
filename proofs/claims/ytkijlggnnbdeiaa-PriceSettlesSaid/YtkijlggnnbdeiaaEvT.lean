/- Walks through loops: steps at a place of a function's code. For every program. -/
import Derived.Test.YtkijlggnnbdeiaaEvR
set_option linter.unusedVariables false
set_option linter.unusedSimpArgs false
namespace Go.Proofs.Ytkijlggnnbdeiaa
open Go.RowKit

def codeE (fn : Func) : Code := match fn.body with | some c => c | none => .skip
def cE : Code → List Bool → Code
  | c, [] => c
  | .seq x _, false :: l => cE x l
  | .seq _ y, true :: l => cE y l
  | .block _ x, false :: l => cE x l
  | .loop x, false :: l => cE x l
  | .scope x, false :: l => cE x l
  | .cond _ x _, false :: l => cE x l
  | .cond _ _ y, true :: l => cE y l
  | .rangeFunc _ _ x _, false :: l => cE x l
  | .rangeFunc _ _ _ y, true :: l => cE y l
  | c, _ => c

def seqQ (L : Nat) (P : Program) (y : Code) (Q : EvX → St → Prop) : EvX → St → Prop
  | .normal, s => Ok L P y s Q
  | .exit j, s => Q (.exit j) s
  | .ret, s => Q .ret s
def blkQ (id : Nat) (Q : EvX → St → Prop) : EvX → St → Prop
  | .normal, s => Q .normal s
  | .exit j, s => if j = id then Q .normal s else Q (.exit j) s
  | .ret, s => Q .ret s
def loopQ (I : Nat → St → Prop) (n : Nat) (Q : EvX → St → Prop) : EvX → St → Prop
  | .normal, s => ∃ k, k < n ∧ I k s
  | .exit j, s => Q (.exit j) s
  | .ret, s => Q .ret s

theorem blkQ_here {id : Nat} {Q : EvX → St → Prop} {s : St} (h : Q .normal s) : blkQ id Q (.exit id) s := by simp [blkQ, h]
theorem blkQ_on {id j : Nat} {Q : EvX → St → Prop} {s : St} (hj : Nat.beq j id = false) (h : Q (.exit j) s) : blkQ id Q (.exit j) s := by
  have : j ≠ id := fun e => by subst e; simp at hj
  simp [blkQ, this, h]

section
variable {P : Program} {L : Nat}

theorem Ok.seqP {c : Code} {st : St} {Q : EvX → St → Prop} (p : List Bool) (e : cE c p = .seq (cE c (p ++ [false])) (cE c (p ++ [true]))) (h : Ok L P (cE c (p ++ [false])) st (seqQ L P (cE c (p ++ [true])) Q)) : Ok L P (cE c p) st Q := by
  rw [e]
  refine Ok.seq (h.mono fun x s hx => ?_)
  cases x with
  | normal => exact .inl ⟨rfl, hx⟩
  | exit j => exact .inr ⟨by simp, hx⟩
  | ret => exact .inr ⟨by simp, hx⟩

theorem Ok.blockP {c : Code} {st : St} {Q : EvX → St → Prop} (p : List Bool) (id : Nat) (e : cE c p = .block id (cE c (p ++ [false]))) (h : Ok L P (cE c (p ++ [false])) st (blkQ id Q)) : Ok L P (cE c p) st Q := by
  rw [e]
  refine Ok.block (h.mono fun x s hx => ?_)
  cases x <;> exact hx

theorem Ok.scopeP {c : Code} {st : St} {Q : EvX → St → Prop} (p : List Bool) (e : cE c p = .scope (cE c (p ++ [false]))) (h : Ok L P (cE c (p ++ [false])) st Q) : Ok L P (cE c p) st Q := by
  rw [e]
  exact fun ro dd A ρ a w hro hR hup => wpIn_scopeE (Code.wpIn_mono (fun e a' w' ⟨x, st', ρ', ds, h1, h2, h3⟩ => ⟨by subst h1; cases x with
    | normal => exact .inl rfl
    | exit i => exact .inr (.inl ⟨i, rfl⟩)
    | ret => exact .inr (.inr rfl), x, st', ρ', ds, h1, h2, h3⟩) (h ro dd A ρ a w hro hR hup))

theorem Ok.loopP {c : Code} {st : St} {Q : EvX → St → Prop} (p : List Bool) (e : cE c p = .loop (cE c (p ++ [false]))) (I : Nat → St → Prop) (n : Nat) (h0 : I n st) (h : ∀ n s, I n s → Ok L P (cE c (p ++ [false])) s (loopQ I n Q)) : Ok L P (cE c p) st Q := by
  rw [e]
  refine Ok.loop I n h0 fun n s hI => (h n s hI).mono fun x s hx => ?_
  cases x <;> exact hx

theorem Ok.condP {c : Code} {st : St} {Q : EvX → St → Prop} (p : List Bool) (t : Nat) (b : Bool) (e : cE c p = .cond (.tmp t) (cE c (p ++ [false])) (cE c (p ++ [true]))) (hb : st.τ t = .bool b) (h : b = true → Ok L P (cE c (p ++ [false])) st Q) (k : b = false → Ok L P (cE c (p ++ [true])) st Q) : Ok L P (cE c p) st Q := by
  rw [e]; exact Ok.cond hb h k

theorem Ok.exitP {c : Code} {st : St} {Q : EvX → St → Prop} (p : List Bool) (j : Nat) (e : cE c p = .exit j) (h : Q (.exit j) st) : Ok L P (cE c p) st Q := by
  rw [e]
  exact fun ro dd A ρ a w hro hR hup => wpIn_exit ⟨.exit j, st, ρ, [], rfl, h, hR, .refl⟩
theorem Ok.retP {c : Code} {st : St} {Q : EvX → St → Prop} (p : List Bool) (e : cE c p = .ret) (h : Q .ret st) : Ok L P (cE c p) st Q := by
  rw [e]
  exact fun ro dd A ρ a w hro hR hup => wpIn_ret ⟨.ret, st, ρ, [], rfl, h, hR, .refl⟩
theorem Ok.skipP {c : Code} {st : St} {Q : EvX → St → Prop} (p : List Bool) (e : cE c p = .skip) (h : Q .normal st) : Ok L P (cE c p) st Q := by
  rw [e]
  exact fun ro dd A ρ a w hro hR hup => wpIn_skip ⟨.normal, st, ρ, [], rfl, h, hR, .refl⟩

/-! ### A piece without loops, and what is kept behind it -/

def closedOb (j : Nat) : List Blk → Option (List Prop)
  | [] => some []
  | .cells cs :: l => if cs.all (belowV j) then closedOb j l else none
  | .row _ es _ :: l => (closedOb j l).map fun r => (∀ e ∈ es, belowV j e = true) :: r

def evf (P : Program) (n : Nat) (c : Code) (ss : List Sup) (st : St) (keep : List Nat) (j : Nat) : Option (EvX × St × List Prop) :=
  match evC P n c ss st with
  | some (e, s, _, ob) => match closedOb j (s.mem.take j) with
    | some ob2 => some (e, s.forget keep j, ob2 ++ ob)
    | none => none
  | none => none

theorem below_ids {j : Nat} {es : List AV} (h : ∀ e ∈ es, idsOf e = []) : ∀ e ∈ es, belowV j e = true := fun e he => by simp [belowV, h e he]
theorem closed_of {j : Nat} : ∀ (M : List Blk) (ob : List Prop), closedOb j M = some ob → AllP ob → ∀ b ∈ M, ∀ x ∈ cellsB b, belowV j x = true
  | [], ob, _, _, b, hb, _, _ => by simp at hb
  | .cells cs :: l, ob, h, hob, b, hb, x, hx => by
    simp only [closedOb] at h
    split at h
    · rename_i hc
      rcases List.mem_cons.1 hb with rfl | hb
      · exact List.all_eq_true.1 hc x hx
      · exact closed_of l ob h hob b hb x hx
    · cases h
  | .row k es ver :: l, ob, h, hob, b, hb, x, hx => by
    simp only [closedOb] at h
    obtain ⟨r, h1, rfl⟩ := Option.map_eq_some_iff.1 h
    rcases List.mem_cons.1 hb with rfl | hb
    · exact hob.1 x hx
    · exact closed_of l r h1 hob.2 b hb x hx

theorem Ok.evf (hm : P.follows .mixedOrders = true) (n : Nat) (ss : List Sup) (keep : List Nat) (j : Nat) {c : Code} {st st' : St} {e : EvX} {ob : List Prop} {Q : EvX → St → Prop} (h : evf P n c ss st keep j = some (e, st', ob)) (hob : AllP ob) (hQ : Q e st') (hL : Nat.ble L j = true := by kernel_rfl) : Ok L P c st Q := by
  unfold Go.Proofs.Ytkijlggnnbdeiaa.evf at h
  split at h
  · rename_i e1 s ss' ob1 h1
    split at h
    · rename_i ob2 h2
      cases h
      obtain ⟨hob2, hob1⟩ := AllP.append hob
      refine Ok.forget (Q := fun e' s' => e' = e ∧ s' = s) keep j (Nat.le_of_ble_eq_true hL) (Ok.ev hm n ss h1 hob1 ⟨rfl, rfl⟩) ?_
      rintro e' s' ⟨rfl, rfl⟩
      exact ⟨closed_of _ _ h2 hob2, hQ⟩
    · cases h
  · cases h

/-- The end of a function that is given nothing of the caller's own memory. -/
theorem fn_walk {f : FuncId} {fn : Func} (hf : P.funcs[f]? = some fn) (hb : fn.body.isSome = true) (hcal : callable P f = true) {args : List AV} {r : AV} {R : List Blk} (hn : Nat.ble args.length fn.ntmps = true) {st : St} (hst : St.init fn args [] = st)
    (h : Ok 0 P (cE (codeE fn) []) st (fun e s => (e = .normal ∨ e = .ret) ∧ Fin P fn r R s)) : FnM P f [] args r R := by
  subst hst
  obtain ⟨c, hc⟩ := Option.isSome_iff_exists.1 hb
  refine fn_pure hf hc hcal hn ?_
  have : cE (codeE fn) [] = c := by
    have h1 : codeE fn = c := by unfold codeE; rw [hc]
    rw [h1]; cases c <;> rfl
  rw [this] at h
  exact h

def finB (P : Program) (fn : Func) (is : List Nat) (s : St) : Option (AV × List Blk × List Prop) :=
  match resultsAV P fn s, expB (memL s.mem) is with
  | some x, some (R, ob) => if nodupN is then match expV (memL s.mem) is x with
    | some r => some (r, R, ob)
    | none => none else none
  | _, _ => none
theorem fin_of {fn : Func} {r : AV} {R : List Blk} {s : St} (is : List Nat) {ob : List Prop} (h : finB P fn is s = some (r, R, ob)) (hob : AllP ob) : Fin P fn r R s := by
  unfold finB at h
  split at h
  · rename_i x R' ob' h1 h2
    split at h
    · rename_i hn
      split at h
      · rename_i r' h3
        cases h
        exact ⟨x, ob, is, h1, h2, hob, hn, h3⟩
      · cases h
    · cases h
  · cases h

end
end Go.Proofs.Ytkijlggnnbdeiaa
