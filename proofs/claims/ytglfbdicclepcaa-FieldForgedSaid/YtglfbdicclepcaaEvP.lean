/- Walks piece by piece: a place in a function's code, with what surrounds it. For every program. -/
import Derived.Test.YtglfbdicclepcaaEvU
import Derived.LoopNIn
set_option linter.unusedVariables false
set_option linter.unusedSimpArgs false
namespace Go.Proofs.Ytglfbdicclepcaa
open Go.RowKit
set_option maxRecDepth 100000

/-- Where a walk began. -/
structure Bs where
  ro : Option Nat
  dd : List Deferred
  A : Nat → Prop
  m : Mem
  ρ : Nat → Nat
  w : World
structure At (B : Bs) (L : Nat) (s : St) (ρ : Nat → Nat) (a : Act) (w : World) : Prop where
  ro : RoOk B.ro w
  up : Up L B.A (memL s.mem) ρ w
  ds : ∃ ds, RS (ds ++ B.dd) B.A ρ s a w ∧ Gone L B.m B.ρ B.w (memL s.mem) ρ w ds
def Rch (B : Bs) (L : Nat) (S : St → Prop) (a : Act) (w : World) : Prop := ∃ s ρ, S s ∧ At B L s ρ a w
/-- What surrounds a place. -/
inductive Fr where
  | seq (y : Code)
  | blk (id : Nat)
  | lp (x : Code) (m : Nat)
  | inv (I : Nat → St → Prop) (n : Nat)
  | hand (R : Act → World → Prop)
def postW (B : Bs) (L : Nat) (P : Program) (Q : EvX → St → Prop) : List Fr → Exit → Act → World → Prop
  | [], e, a, w => ∃ x, e = EvX.to x ∧ Rch B L (Q x) a w
  | .seq y :: K, e, a, w => Exit.then (y.wpIn (FR B.ro) 0 P (postW B L P Q K)) (postW B L P Q K) e a w
  | .blk id :: K, e, a, w => Exit.inBlock id (postW B L P Q K) e a w
  | .lp x m :: K, e, a, w => Exit.then (Code.roundsIn (FR B.ro) 0 P x (postW B L P Q K) m) (postW B L P Q K) e a w
  | .inv I n :: K, e, a, w => Exit.then (fun a w => ∃ k, k < n ∧ Rch B L (I k) a w) (postW B L P Q K) e a w
  | .hand R :: K, e, a, w => Exit.then R (postW B L P Q K) e a w
inductive Cur where
  | code (c : Code)
  | ex (e : EvX)
def okC (B : Bs) (L : Nat) (P : Program) (Q : EvX → St → Prop) : Cur → List Fr → St → Prop
  | .code c, K, s => ∀ ρ a w, At B L s ρ a w → c.wpIn (FR B.ro) 0 P (postW B L P Q K) a w
  | .ex e, K, s => ∀ ρ a w, At B L s ρ a w → postW B L P Q K e.to a w
def runF (P : Program) : Nat → Cur → List Fr → List Sup → St → Option (Cur × List Fr × St × List Prop)
  | 0, _, _, _, _ => none
  | n + 1, .ex e, K, ss, st =>
    match K with
    | [] => match ss with
      | [] => some (.ex e, [], st, [])
      | _ => none
    | .seq y :: K' => match e with
      | .normal => runF P n (.code y) K' ss st
      | .exit j => runF P n (.ex (.exit j)) K' ss st
      | .ret => runF P n (.ex .ret) K' ss st
    | .blk id :: K' => match e with
      | .exit j => if Nat.beq j id then runF P n (.ex .normal) K' ss st else runF P n (.ex (.exit j)) K' ss st
      | .normal => runF P n (.ex .normal) K' ss st
      | .ret => runF P n (.ex .ret) K' ss st
    | .lp x m :: K' => match e with
      | .normal => match m with
        | 0 => none
        | m + 1 => runF P n (.code x) (.lp x m :: K') ss st
      | .exit j => runF P n (.ex (.exit j)) K' ss st
      | .ret => runF P n (.ex .ret) K' ss st
    | .inv I k :: K' => match e with
      | .normal => match ss with
        | [] => some (.ex .normal, .inv I k :: K', st, [])
        | _ => none
      | .exit j => runF P n (.ex (.exit j)) K' ss st
      | .ret => runF P n (.ex .ret) K' ss st
    | .hand R :: K' => match e with
      | .normal => match ss with
        | [] => some (.ex .normal, .hand R :: K', st, [])
        | _ => none
      | .exit j => runF P n (.ex (.exit j)) K' ss st
      | .ret => runF P n (.ex .ret) K' ss st
  | n + 1, .code c, K, ss, st =>
    match c with
    | .skip => runF P n (.ex .normal) K ss st
    | .label _ => runF P n (.ex .normal) K ss st
    | .exit j => runF P n (.ex (.exit j)) K ss st
    | .ret => runF P n (.ex .ret) K ss st
    | .scope x => runF P n (.code x) K ss st
    | .seq x y => runF P n (.code x) (.seq y :: K) ss st
    | .block id x => runF P n (.code x) (.blk id :: K) ss st
    | .loop x => match ss with
      | [] => some (.code (.loop x), K, st, [])
      | s :: ss0 => runF P n (.code x) (.lp x 1000 :: K) (s :: ss0) st
    | .cond (.tmp t) x y => match ss with
      | [] => some (.code (.cond (.tmp t) x y), K, st, [])
      | .v (.bool b1) :: ss1 => match st.τ t with
        | .bool b => match b1 with
          | true => (runF P n (.code x) K ss1 st).map fun r => (r.1, r.2.1, r.2.2.1, (b = true) :: r.2.2.2)
          | false => (runF P n (.code y) K ss1 st).map fun r => (r.1, r.2.1, r.2.2.1, (b = false) :: r.2.2.2)
        | _ => none
      | .d :: ss1 => match st.τ t with
        | .bool true => runF P n (.code x) K ss1 st
        | .bool false => runF P n (.code y) K ss1 st
        | _ => none
      | _ => none
    | .region id ops b => match ss with
      | [] => some (.code (.region id ops b), K, st, [])
      | s :: ss0 => match evC P 1 (.region id ops b) (s :: ss0) st with
        | some (.normal, st1, ss1, o1) => (runF P n (.ex .normal) K ss1 st1).map fun r => (r.1, r.2.1, r.2.2.1, o1 ++ r.2.2.2)
        | _ => none
    | c => match ss with
      | [] => some (.code c, K, st, [])
      | _ => none

section
variable {B : Bs} {L : Nat} {P : Program} {Q : EvX → St → Prop}
theorem At.step {s s' : St} {ρ ρ' : Nat → Nat} {a a' : Act} {w w' : World} {ds : List Deferred} (hro : RoOk B.ro w) (hup : Up L B.A (memL s.mem) ρ w) (hR : RS (ds ++ B.dd) B.A ρ s a w) (hG : Gone L B.m B.ρ B.w (memL s.mem) ρ w ds) (hR' : RS (ds ++ B.dd) B.A ρ' s' a' w') (hE : Ext (memL s.mem) ρ w (memL s'.mem) ρ' w') : At B L s' ρ' a' w' :=
  ⟨hro.later hR.fits hE.weak, hup.ext hE.weak, ds, hR', by have := hG.trans hR.fits hE.gone; exact this⟩
theorem postW_calm : ∀ (K : List Fr) (e : Exit) (a : Act) (w : World), postW B L P Q K e a w → e = .normal ∨ (∃ i, e = .exit i) ∨ e = .ret
  | [], e, a, w, ⟨x, h, _⟩ => by subst h; cases x <;> simp [EvX.to]
  | .seq y :: K, e, a, w, h => by
    cases e with
    | normal => exact .inl rfl
    | _ => exact postW_calm K _ a w h
  | .blk id :: K, e, a, w, h => by
    cases e with
    | exit i => exact .inr (.inl ⟨i, rfl⟩)
    | _ => exact postW_calm K _ a w h
  | .lp x m :: K, e, a, w, h => by
    cases e with
    | normal => exact .inl rfl
    | _ => exact postW_calm K _ a w h
  | .inv I n :: K, e, a, w, h => by
    cases e with
    | normal => exact .inl rfl
    | _ => exact postW_calm K _ a w h
  | .hand R :: K, e, a, w, h => by
    cases e with
    | normal => exact .inl rfl
    | _ => exact postW_calm K _ a w h
theorem runF_ok (hm : P.follows .mixedOrders = true) : ∀ (n : Nat) (x : Cur) (K : List Fr) (ss : List Sup) (st : St) (x' : Cur) (K' : List Fr) (st' : St) (ob : List Prop), runF P n x K ss st = some (x', K', st', ob) → AllP ob → okC B L P Q x' K' st' → okC B L P Q x K st := by
  intro n
  induction n with
  | zero => intro x K ss st x' K' st' ob h; simp [runF] at h
  | succ n ih =>
    intro x K ss st x' K' st' ob h hob hk
    cases x with
    | ex e =>
      simp only [runF] at h
      split at h
      · split at h
        · cases h; exact hk
        · cases h
      · rename_i y K1
        split at h
        · have := ih _ _ _ _ _ _ _ _ h hob hk
          intro ρ a w hA
          exact this ρ a w hA
        · have := ih _ _ _ _ _ _ _ _ h hob hk
          intro ρ a w hA
          exact this ρ a w hA
        · have := ih _ _ _ _ _ _ _ _ h hob hk
          intro ρ a w hA
          exact this ρ a w hA
      · rename_i id K1
        split at h
        · rename_i j
          split at h
          · rename_i hj
            have := ih _ _ _ _ _ _ _ _ h hob hk
            have hj := Nat.eq_of_beq_eq_true hj
            subst hj
            intro ρ a w hA
            simp only [postW, EvX.to, Exit.inBlock, if_true]
            exact this ρ a w hA
          · rename_i hj
            have := ih _ _ _ _ _ _ _ _ h hob hk
            have hne : j ≠ id := fun e => hj (by subst e; exact Nat.beq_refl j)
            intro ρ a w hA
            simp only [postW, EvX.to, Exit.inBlock, if_neg hne]
            exact this ρ a w hA
        · have := ih _ _ _ _ _ _ _ _ h hob hk
          intro ρ a w hA
          exact this ρ a w hA
        · have := ih _ _ _ _ _ _ _ _ h hob hk
          intro ρ a w hA
          exact this ρ a w hA
      · rename_i x1 m K1
        split at h
        · split at h
          · cases h
          · rename_i m1
            have := ih _ _ _ _ _ _ _ _ h hob hk
            intro ρ a w hA
            exact this ρ a w hA
        · have := ih _ _ _ _ _ _ _ _ h hob hk
          intro ρ a w hA
          exact this ρ a w hA
        · have := ih _ _ _ _ _ _ _ _ h hob hk
          intro ρ a w hA
          exact this ρ a w hA
      · rename_i I k K1
        split at h
        · split at h
          · cases h; exact hk
          · cases h
        · have := ih _ _ _ _ _ _ _ _ h hob hk
          intro ρ a w hA
          exact this ρ a w hA
        · have := ih _ _ _ _ _ _ _ _ h hob hk
          intro ρ a w hA
          exact this ρ a w hA
      · rename_i R K1
        split at h
        · split at h
          · cases h; exact hk
          · cases h
        · have := ih _ _ _ _ _ _ _ _ h hob hk
          intro ρ a w hA
          exact this ρ a w hA
        · have := ih _ _ _ _ _ _ _ _ h hob hk
          intro ρ a w hA
          exact this ρ a w hA
    | code c =>
      unfold runF at h
      simp only at h
      split at h
      · have := ih _ _ _ _ _ _ _ _ h hob hk
        intro ρ a w hA
        exact wpIn_skip (this ρ a w hA)
      · have := ih _ _ _ _ _ _ _ _ h hob hk
        intro ρ a w hA
        exact wpIn_label (this ρ a w hA)
      · have := ih _ _ _ _ _ _ _ _ h hob hk
        intro ρ a w hA
        exact wpIn_exit (this ρ a w hA)
      · have := ih _ _ _ _ _ _ _ _ h hob hk
        intro ρ a w hA
        exact wpIn_ret (this ρ a w hA)
      · have := ih _ _ _ _ _ _ _ _ h hob hk
        intro ρ a w hA
        exact wpIn_scopeE (Code.wpIn_mono (fun e a w hq => ⟨postW_calm _ e a w hq, hq⟩) (this ρ a w hA))
      · have := ih _ _ _ _ _ _ _ _ h hob hk
        intro ρ a w hA
        exact wpIn_seq (Code.wpIn_mono (fun e a w hq => hq) (this ρ a w hA))
      · have := ih _ _ _ _ _ _ _ _ h hob hk
        intro ρ a w hA
        exact wpIn_block (Code.wpIn_mono (fun e a w hq => hq) (this ρ a w hA))
      · rename_i y
        split at h
        · cases h; exact hk
        · have := ih _ _ _ _ _ _ _ _ h hob hk
          intro ρ a w hA
          refine wpIn_loop_rounds 1001 ?_
          rw [roundsIn_succ]
          exact Code.wpIn_mono (fun e a w hq => hq) (this ρ a w hA)
      · rename_i t y z
        split at h
        · cases h; exact hk
        · rename_i b1 ss1
          split at h
          · rename_i b hb
            split at h
            · obtain ⟨⟨r1, r2, r3, r4⟩, h1, h2⟩ := Option.map_eq_some_iff.1 h
              cases h2
              have hbt : b = true := hob.1
              have := ih _ _ _ _ _ _ _ _ h1 hob.2 hk
              intro ρ a w hA
              obtain ⟨ds, hR, hG⟩ := hA.ds
              have hv := hR.eval t
              rw [hb] at hv
              exact wpIn_cond_true (hbt ▸ rep_bool hv) (this ρ a w hA)
            · obtain ⟨⟨r1, r2, r3, r4⟩, h1, h2⟩ := Option.map_eq_some_iff.1 h
              cases h2
              have hbt : b = false := hob.1
              have := ih _ _ _ _ _ _ _ _ h1 hob.2 hk
              intro ρ a w hA
              obtain ⟨ds, hR, hG⟩ := hA.ds
              have hv := hR.eval t
              rw [hb] at hv
              exact wpIn_cond_false (hbt ▸ rep_bool hv) (this ρ a w hA)
          · cases h
        · rename_i ss1
          split at h
          · rename_i hb
            have := ih _ _ _ _ _ _ _ _ h hob hk
            intro ρ a w hA
            obtain ⟨ds, hR, hG⟩ := hA.ds
            have hv := hR.eval t
            rw [hb] at hv
            exact wpIn_cond_true (rep_bool hv) (this ρ a w hA)
          · rename_i hb
            have := ih _ _ _ _ _ _ _ _ h hob hk
            intro ρ a w hA
            obtain ⟨ds, hR, hG⟩ := hA.ds
            have hv := hR.eval t
            rw [hb] at hv
            exact wpIn_cond_false (rep_bool hv) (this ρ a w hA)
          · cases h
        · cases h
      · rename_i id ops b
        split at h
        · cases h; exact hk
        · rename_i s1 ss0
          split at h
          · rename_i st1 ss1 o1 h1
            obtain ⟨⟨r1, r2, r3, r4⟩, h2, h3⟩ := Option.map_eq_some_iff.1 h
            cases h3
            obtain ⟨hob1, hob2⟩ := AllP.append hob
            have := ih _ _ _ _ _ _ _ _ h2 hob2 hk
            intro ρ a w hA
            obtain ⟨ds, hR, hG⟩ := hA.ds
            exact evC_ok hm 1 _ _ _ _ _ _ _ h1 hob1 ρ a w hR hA.up.up _ fun a' ρ' w' hR' hE => this ρ' a' w' (At.step hA.ro hA.up hR hG hR' hE)
          · cases h
      · split at h
        · cases h; exact hk
        · cases h
def curW (B : Bs) (L : Nat) (P : Program) (Q : EvX → St → Prop) : Cur → List Fr → Act → World → Prop
  | .code c, K, a, w => c.wpIn (FR B.ro) 0 P (postW B L P Q K) a w
  | .ex e, K, a, w => postW B L P Q K e.to a w
theorem runF_okE (hm : P.follows .mixedOrders = true) : ∀ (n : Nat) (x : Cur) (K : List Fr) (ss : List Sup) (st : St) (x' : Cur) (K' : List Fr) (st' : St) (ob : List Prop), runF P n x K ss st = some (x', K', st', ob) → AllP ob → ∀ ρ a w, At B L st ρ a w → (∀ ρ' a' w', At B L st' ρ' a' w' → Ext (memL st.mem) ρ w (memL st'.mem) ρ' w' → curW B L P Q x' K' a' w') → curW B L P Q x K a w := by
  intro n
  induction n with
  | zero => intro x K ss st x' K' st' ob h; simp [runF] at h
  | succ n ih =>
    intro x K ss st x' K' st' ob h hob ρ a w hA hk
    cases x with
    | ex e =>
      simp only [runF] at h
      split at h
      · split at h
        · cases h; exact hk ρ a w hA (.refl _ _ _)
        · cases h
      · rename_i y K1
        split at h
        · have := ih _ _ _ _ _ _ _ _ h hob ρ a w hA hk
          exact this
        · have := ih _ _ _ _ _ _ _ _ h hob ρ a w hA hk
          exact this
        · have := ih _ _ _ _ _ _ _ _ h hob ρ a w hA hk
          exact this
      · rename_i id K1
        split at h
        · rename_i j
          split at h
          · rename_i hj
            have := ih _ _ _ _ _ _ _ _ h hob ρ a w hA hk
            have hj := Nat.eq_of_beq_eq_true hj
            subst hj
            simp only [curW, postW, EvX.to, Exit.inBlock, if_true]
            exact this
          · rename_i hj
            have := ih _ _ _ _ _ _ _ _ h hob ρ a w hA hk
            have hne : j ≠ id := fun e => hj (by subst e; exact Nat.beq_refl j)
            simp only [curW, postW, EvX.to, Exit.inBlock, if_neg hne]
            exact this
        · have := ih _ _ _ _ _ _ _ _ h hob ρ a w hA hk
          exact this
        · have := ih _ _ _ _ _ _ _ _ h hob ρ a w hA hk
          exact this
      · rename_i x1 m K1
        split at h
        · split at h
          · cases h
          · rename_i m1
            have := ih _ _ _ _ _ _ _ _ h hob ρ a w hA hk
            exact this
        · have := ih _ _ _ _ _ _ _ _ h hob ρ a w hA hk
          exact this
        · have := ih _ _ _ _ _ _ _ _ h hob ρ a w hA hk
          exact this
      · rename_i I k K1
        split at h
        · split at h
          · cases h; exact hk ρ a w hA (.refl _ _ _)
          · cases h
        · have := ih _ _ _ _ _ _ _ _ h hob ρ a w hA hk
          exact this
        · have := ih _ _ _ _ _ _ _ _ h hob ρ a w hA hk
          exact this
      · rename_i R K1
        split at h
        · split at h
          · cases h; exact hk ρ a w hA (.refl _ _ _)
          · cases h
        · have := ih _ _ _ _ _ _ _ _ h hob ρ a w hA hk
          exact this
        · have := ih _ _ _ _ _ _ _ _ h hob ρ a w hA hk
          exact this
    | code c =>
      unfold runF at h
      simp only at h
      split at h
      · have := ih _ _ _ _ _ _ _ _ h hob ρ a w hA hk
        exact wpIn_skip this
      · have := ih _ _ _ _ _ _ _ _ h hob ρ a w hA hk
        exact wpIn_label this
      · have := ih _ _ _ _ _ _ _ _ h hob ρ a w hA hk
        exact wpIn_exit this
      · have := ih _ _ _ _ _ _ _ _ h hob ρ a w hA hk
        exact wpIn_ret this
      · have := ih _ _ _ _ _ _ _ _ h hob ρ a w hA hk
        exact wpIn_scopeE (Code.wpIn_mono (fun e a w hq => ⟨postW_calm _ e a w hq, hq⟩) this)
      · have := ih _ _ _ _ _ _ _ _ h hob ρ a w hA hk
        exact wpIn_seq (Code.wpIn_mono (fun e a w hq => hq) this)
      · have := ih _ _ _ _ _ _ _ _ h hob ρ a w hA hk
        exact wpIn_block (Code.wpIn_mono (fun e a w hq => hq) this)
      · rename_i y
        split at h
        · cases h; exact hk ρ a w hA (.refl _ _ _)
        · have := ih _ _ _ _ _ _ _ _ h hob ρ a w hA hk
          refine wpIn_loop_rounds 1001 ?_
          rw [roundsIn_succ]
          exact Code.wpIn_mono (fun e a w hq => hq) this
      · rename_i t y z
        split at h
        · cases h; exact hk ρ a w hA (.refl _ _ _)
        · rename_i b1 ss1
          split at h
          · rename_i b hb
            split at h
            · obtain ⟨⟨r1, r2, r3, r4⟩, h1, h2⟩ := Option.map_eq_some_iff.1 h
              cases h2
              have hbt : b = true := hob.1
              have := ih _ _ _ _ _ _ _ _ h1 hob.2 ρ a w hA hk
              obtain ⟨ds, hR, hG⟩ := hA.ds
              have hv := hR.eval t
              rw [hb] at hv
              exact wpIn_cond_true (hbt ▸ rep_bool hv) this
            · obtain ⟨⟨r1, r2, r3, r4⟩, h1, h2⟩ := Option.map_eq_some_iff.1 h
              cases h2
              have hbt : b = false := hob.1
              have := ih _ _ _ _ _ _ _ _ h1 hob.2 ρ a w hA hk
              obtain ⟨ds, hR, hG⟩ := hA.ds
              have hv := hR.eval t
              rw [hb] at hv
              exact wpIn_cond_false (hbt ▸ rep_bool hv) this
          · cases h
        · rename_i ss1
          split at h
          · rename_i hb
            have := ih _ _ _ _ _ _ _ _ h hob ρ a w hA hk
            obtain ⟨ds, hR, hG⟩ := hA.ds
            have hv := hR.eval t
            rw [hb] at hv
            exact wpIn_cond_true (rep_bool hv) this
          · rename_i hb
            have := ih _ _ _ _ _ _ _ _ h hob ρ a w hA hk
            obtain ⟨ds, hR, hG⟩ := hA.ds
            have hv := hR.eval t
            rw [hb] at hv
            exact wpIn_cond_false (rep_bool hv) this
          · cases h
        · cases h
      · rename_i id ops b
        split at h
        · cases h; exact hk ρ a w hA (.refl _ _ _)
        · rename_i s1 ss0
          split at h
          · rename_i st1 ss1 o1 h1
            obtain ⟨⟨r1, r2, r3, r4⟩, h2, h3⟩ := Option.map_eq_some_iff.1 h
            cases h3
            obtain ⟨hob1, hob2⟩ := AllP.append hob
            obtain ⟨ds, hR, hG⟩ := hA.ds
            exact evC_ok hm 1 _ _ _ _ _ _ _ h1 hob1 ρ a w hR hA.up.up _ fun a' ρ' w' hR' hE => ih _ _ _ _ _ _ _ _ h2 hob2 ρ' a' w' (At.step hA.ro hA.up hR hG hR' hE) fun ρ2 a2 w2 hA2 hE2 => hk ρ2 a2 w2 hA2 (hE.trans hE2)
          · cases h
      · split at h
        · cases h; exact hk ρ a w hA (.refl _ _ _)
        · cases h
end

/-! ### Places -/
inductive Lm where
  | nil
  | inv (l : Lm) (I : Nat → St → Prop) (n : Nat)
  | unr (l : Lm) (m : Nat)
def Lm.lst : Lm → List (Option ((Nat → St → Prop) × Nat) × Nat) → List (Option ((Nat → St → Prop) × Nat) × Nat)
  | .nil, a => a
  | .inv l I n, a => l.lst ((some (I, n), 0) :: a)
  | .unr l m, a => l.lst ((none, m) :: a)
def Lm.up : Nat → Lm → Lm
  | 0, l => l
  | d + 1, .inv l _ _ => Lm.up d l
  | d + 1, .unr l _ => Lm.up d l
  | _ + 1, .nil => .nil
def Lm.dn : List Nat → Lm → Lm
  | [], l => l
  | m :: r, l => Lm.dn r (.unr l m)
def frm : Code → List Bool → List (Option ((Nat → St → Prop) × Nat) × Nat) → List Fr → List Fr
  | _, [], _, K => K
  | .seq x y, false :: p, l, K => frm x p l (.seq y :: K)
  | .seq x y, true :: p, l, K => frm y p l K
  | .block id x, _ :: p, l, K => frm x p l (.blk id :: K)
  | .loop x, _ :: p, l, K => match l with
    | (some (I, n), _) :: l' => frm x p l' (.inv I n :: K)
    | (none, m) :: l' => frm x p l' (.lp x m :: K)
    | [] => K
  | .scope x, _ :: p, l, K => frm x p l K
  | .cond _ x _, false :: p, l, K => frm x p l K
  | .cond _ _ y, true :: p, l, K => frm y p l K
  | _, _ :: _, _, K => K
/-- A path: numbers of turns to the right, with one to the left between two of them. -/
def rl : List Nat → List Bool
  | [] => []
  | n :: l => List.replicate n true ++ (match l with
    | [] => []
    | m :: l' => false :: rl (m :: l'))
theorem frm_nil (c : Code) (l : List (Option ((Nat → St → Prop) × Nat) × Nat)) (K : List Fr) : frm c [] l K = K := by cases c <;> rfl
def curE (c : Code) : Option EvX → List Nat → Cur
  | none, p => .code (cE c (rl p))
  | some e, _ => .ex e
/-- From a place on, all ends as Q says. -/
def OkP (L : Nat) (P : Program) (c : Code) (x : Option EvX) (p : List Nat) (Λ : Lm) (st : St) (Q : EvX → St → Prop) : Prop :=
  ∀ B : Bs, (∀ id, B.m id ≠ none → id < L) → okC B L P Q (curE c x p) (frm c (rl p) (Λ.lst []) []) st

/-- What is kept: these slots, and these blocks under new names. -/
def trimS (L : Nat) (keep is : List Nat) (s : St) : Option (St × List Prop) := match renR (memL s.mem) is is, inSl (memL s.mem) is keep 0 s.tmps with
  | some (M, ob), some tm => if nodupL is && lowIs L 0 is then some (⟨tm, M⟩, ob) else none
  | _, _ => none
def trimF (L : Nat) (keep : List Nat) (j : Nat) (s : St) : Option (St × List Prop) := match closedOb j (s.mem.take j) with
  | some ob => if Nat.ble L j then some (s.forget keep j, ob) else none
  | none => none
section
variable {B : Bs} {L : Nat} {P : Program} {Q : EvX → St → Prop} {c : Code} {x : Option EvX} {p : List Nat} {Λ : Lm} {st st' : St} {ob : List Prop}
theorem trimF_ok {keep : List Nat} {j : Nat} {s s' : St} (h : trimF L keep j s = some (s', ob)) (hob : AllP ob) {ρ : Nat → Nat} {a : Act} {w : World} (hA : At B L s ρ a w) : ∃ ρ', At B L s' ρ' a w := by
  unfold trimF at h
  split at h
  · rename_i o h1
    split at h
    · rename_i hL
      cases h
      obtain ⟨ds, hR, hG⟩ := hA.ds
      exact ⟨ρ, hA.ro, hA.up.sub fun id hid => by
        simp only [memL, St.forget, List.getElem?_take] at hid ⊢
        split at hid
        · exact hid
        · exact absurd rfl hid, ds, forget_rs hR keep j (closed_of _ _ h1 hob), forget_gone hG j (Nat.le_of_ble_eq_true hL)⟩
    · cases h
  · cases h
theorem trimS_ok (hB : ∀ id, B.m id ≠ none → id < L) {keep is : List Nat} {s s' : St} (h : trimS L keep is s = some (s', ob)) (hob : AllP ob) {ρ : Nat → Nat} {a : Act} {w : World} (hA : At B L s ρ a w) : ∃ ρ', At B L s' ρ' a w := by
  unfold trimS at h
  split at h
  · rename_i M o tm h1 h2
    split at h
    · rename_i h3
      cases h
      simp only [Bool.and_eq_true] at h3
      obtain ⟨ds, hR, hG⟩ := hA.ds
      obtain ⟨r1, r2⟩ := ren_rs hR h1 hob h2 h3.1
      have hnd := nodupL_ok h3.1
      have hlow := fun id (hi : id < L) => (by have := lowIs_get h3.2 id hi; rwa [Nat.zero_add] at this : is[id]? = some id)
      have hg : ∀ j id, is[j]? = some id → is.getD j 0 = id := fun j id q => by rw [List.getD_eq_getElem?_getD, q]; rfl
      have hsame : ∀ j id, is[j]? = some id → id < L → j = id := fun j id q hi => nodup_at hnd q (hlow id hi)
      refine ⟨fun j => ρ (is.getD j 0), hA.ro, ⟨hA.up.up, fun j hj hne => ?_⟩, ds, r1, ⟨⟨hG.ext.os, hG.ext.tape, hG.ext.output, hG.ext.size, hG.ext.frame, fun j hj => ?_⟩, fun id hi b hk hc => ?_, hG.mks⟩⟩
      · obtain ⟨id, q1, q2⟩ := r2 j hne
        simp only [hg j id q1]
        refine hA.up.own id (Nat.le_of_not_lt fun hl => ?_) q2
        have := hsame j id q1 hl
        omega
      · obtain ⟨id, q1, q2⟩ := r2 j hj
        simp only [hg j id q1]
        rcases hG.ext.ids id q2 with ⟨q3, q4⟩ | q3
        · have := hsame j id q1 (hB id q3)
          subst this
          exact .inl ⟨q3, q4⟩
        · exact .inr q3
      · have q1 := hlow id hi
        obtain ⟨⟨b', q2, q2'⟩, q3⟩ := hG.pre id hi b hk hc
        refine ⟨?_, by simp only [hg id id q1]; exact q3⟩
        rcases (renR_get is M ob h1 hob).2 id id q1 with ⟨cs3, cs2, q4, q5, _⟩ | ⟨k, es, ver, q4, _⟩ | ⟨es, q4, q5, _⟩
        · rw [q2] at q4; cases q4
          exact ⟨_, q5, q2'⟩
        · rw [q2] at q4; cases q4
          rw [← q2'] at hk; exact absurd hk (by simp [kindB])
        · rw [q2] at q4; cases q4
          exact ⟨_, q5, q2'⟩
    · cases h
  · cases h
theorem okC.trim {y : Cur} {K : List Fr} {s s' : St} (h : ∀ ρ a w, At B L s ρ a w → ∃ ρ', At B L s' ρ' a w) (k : okC B L P Q y K s') : okC B L P Q y K s := by
  cases y with
  | code c => exact fun ρ a w hA => let ⟨ρ', hA'⟩ := h ρ a w hA; k ρ' a w hA'
  | ex e => exact fun ρ a w hA => let ⟨ρ', hA'⟩ := h ρ a w hA; k ρ' a w hA'

def trR (L : Nat) (keep is : List Nat) (r : Cur × List Fr × St × List Prop) : Option (Cur × List Fr × St × List Prop) := match trimS L keep is r.2.2.1 with
  | some (s, o) => some (r.1, r.2.1, s, o ++ r.2.2.2)
  | none => none
def trF (L : Nat) (keep : List Nat) (j : Nat) (r : Cur × List Fr × St × List Prop) : Option (Cur × List Fr × St × List Prop) := match trimF L keep j r.2.2.1 with
  | some (s, o) => some (r.1, r.2.1, s, o ++ r.2.2.2)
  | none => none
theorem run_tr (hm : P.follows .mixedOrders = true) (hB : ∀ id, B.m id ≠ none → id < L) {n : Nat} {ss : List Sup} {keep is : List Nat} {y y' : Cur} {K K' : List Fr} (h : (runF P n y K ss st).bind (trR L keep is) = some (y', K', st', ob)) (hob : AllP ob) (k : okC B L P Q y' K' st') : okC B L P Q y K st := by
  obtain ⟨⟨r1, r2, r3, r4⟩, h1, h2⟩ := Option.bind_eq_some_iff.1 h
  unfold trR at h2
  split at h2
  · rename_i s o h3
    cases h2
    obtain ⟨hob1, hob2⟩ := AllP.append hob
    exact runF_ok hm n y K ss st r1 r2 r3 r4 h1 hob2 (okC.trim (fun ρ a w hA => trimS_ok hB h3 hob1 hA) k)
  · cases h2
theorem run_tf (hm : P.follows .mixedOrders = true) {n : Nat} {ss : List Sup} {keep : List Nat} {j : Nat} {y y' : Cur} {K K' : List Fr} (h : (runF P n y K ss st).bind (trF L keep j) = some (y', K', st', ob)) (hob : AllP ob) (k : okC B L P Q y' K' st') : okC B L P Q y K st := by
  obtain ⟨⟨r1, r2, r3, r4⟩, h1, h2⟩ := Option.bind_eq_some_iff.1 h
  unfold trF at h2
  split at h2
  · rename_i s o h3
    cases h2
    obtain ⟨hob1, hob2⟩ := AllP.append hob
    exact runF_ok hm n y K ss st r1 r2 r3 r4 h1 hob2 (okC.trim (fun ρ a w hA => trimF_ok h3 hob1 hA) k)
  · cases h2

/-- From one place to the next. -/
theorem OkP.g (n : Nat) (ss : List Sup) (keep is p' : List Nat) (d : Nat) (us : List Nat) (hob : AllP ob) (k : OkP L P c none p' ((Λ.up d).dn us) st' Q) (hm : P.follows .mixedOrders = true := by kernel_rfl)
    (h : (runF P n (curE c x p) (frm c (rl p) (Λ.lst []) []) ss st).bind (trR L keep is) = some (.code (cE c (rl p')), frm c (rl p') (((Λ.up d).dn us).lst []) [], st', ob) := by kernel_rfl) : OkP L P c x p Λ st Q :=
  fun B hB => run_tr hm hB h hob (k B hB)
theorem OkP.gf (n : Nat) (ss : List Sup) (keep : List Nat) (j : Nat) (p' : List Nat) (d : Nat) (us : List Nat) (hob : AllP ob) (k : OkP L P c none p' ((Λ.up d).dn us) st' Q) (hm : P.follows .mixedOrders = true := by kernel_rfl)
    (h : (runF P n (curE c x p) (frm c (rl p) (Λ.lst []) []) ss st).bind (trF L keep j) = some (.code (cE c (rl p')), frm c (rl p') (((Λ.up d).dn us).lst []) [], st', ob) := by kernel_rfl) : OkP L P c x p Λ st Q :=
  fun B hB => run_tf hm h hob (k B hB)
/-- The end of a round. -/
theorem OkP.r {I : Nat → St → Prop} {m : Nat} (n : Nat) (ss : List Sup) (keep is pl : List Nat) (k : Nat) (hob : AllP ob) (hk : k < m) (hI : I k st') (hm : P.follows .mixedOrders = true := by kernel_rfl)
    (h : (runF P n (curE c x p) (frm c (rl p) ((Lm.inv Λ I m).lst []) []) ss st).bind (trR L keep is) = some (.ex .normal, .inv I m :: frm c (rl pl) (Λ.lst []) [], st', ob) := by kernel_rfl) : OkP L P c x p (.inv Λ I m) st Q :=
  fun B hB => run_tr hm hB h hob fun ρ a w hA => ⟨k, hk, st', ρ, hI, hA⟩
/-- The same, out of loops that are unrolled. -/
theorem OkP.ru {I : Nat → St → Prop} {m j : Nat} (n : Nat) (ss : List Sup) (keep is pl : List Nat) (k : Nat) (hob : AllP ob) (hk : k < m) (hI : I k st') (hm : P.follows .mixedOrders = true := by kernel_rfl)
    (h : (runF P n (curE c x p) (frm c (rl p) ((Lm.unr (Lm.inv Λ I m) j).lst []) []) ss st).bind (trR L keep is) = some (.ex .normal, .inv I m :: frm c (rl pl) (Λ.lst []) [], st', ob) := by kernel_rfl) : OkP L P c x p (.unr (.inv Λ I m) j) st Q :=
  fun B hB => run_tr hm hB h hob fun ρ a w hA => ⟨k, hk, st', ρ, hI, hA⟩
theorem OkP.ruu {I : Nat → St → Prop} {m j j2 : Nat} (n : Nat) (ss : List Sup) (keep is pl : List Nat) (k : Nat) (hob : AllP ob) (hk : k < m) (hI : I k st') (hm : P.follows .mixedOrders = true := by kernel_rfl)
    (h : (runF P n (curE c x p) (frm c (rl p) ((Lm.unr (Lm.unr (Lm.inv Λ I m) j) j2).lst []) []) ss st).bind (trR L keep is) = some (.ex .normal, .inv I m :: frm c (rl pl) (Λ.lst []) [], st', ob) := by kernel_rfl) : OkP L P c x p (.unr (.unr (.inv Λ I m) j) j2) st Q :=
  fun B hB => run_tr hm hB h hob fun ρ a w hA => ⟨k, hk, st', ρ, hI, hA⟩
/-- The end. -/
theorem OkP.e (n : Nat) (ss : List Sup) (keep is : List Nat) {e : EvX} (hob : AllP ob) (hq : Q e st') (hm : P.follows .mixedOrders = true := by kernel_rfl)
    (h : (runF P n (curE c x p) (frm c (rl p) (Λ.lst []) []) ss st).bind (trR L keep is) = some (.ex e, [], st', ob) := by kernel_rfl) : OkP L P c x p Λ st Q :=
  fun B hB => run_tr hm hB h hob fun ρ a w hA => ⟨e, rfl, st', ρ, hq, hA⟩
def finR (P : Program) (fn : Func) (fr : Bool) (r : AV) : Cur × List Fr × St × List Prop → Option (List Prop)
  | (.ex e, [], s, ob) => match e with
    | .exit _ => none
    | _ => (finF P fn fr s r).map (ob ++ ·)
  | _ => none
/-- The end of a function. -/
theorem OkP.f {fn : Func} {fr : Bool} {r : AV} (n : Nat) (ss : List Sup) (hob : AllP ob) (hm : P.follows .mixedOrders = true := by kernel_rfl)
    (h : (runF P n (curE c x p) (frm c (rl p) (Λ.lst []) []) ss st).bind (finR P fn fr r) = some ob := by kernel_rfl) : OkP L P c x p Λ st (fun e s => (e = .normal ∨ e = .ret) ∧ FinF P fn fr r s) := fun B hB => by
  obtain ⟨⟨r1, r2, r3, r4⟩, h1, h2⟩ := Option.bind_eq_some_iff.1 h
  unfold finR at h2
  split at h2
  · rename_i e s o he
    cases he
    split at h2
    · cases h2
    · rename_i hne
      obtain ⟨o2, h3, h4⟩ := Option.map_eq_some_iff.1 h2
      subst h4
      obtain ⟨hob1, hob2⟩ := AllP.append hob
      refine runF_ok hm n _ _ ss st _ _ _ _ h1 hob1 fun ρ a w hA => ⟨e, rfl, _, ρ, ⟨?_, finF_of h3 hob2⟩, hA⟩
      cases e with
      | normal => exact .inl rfl
      | ret => exact .inr rfl
      | exit j => exact absurd rfl (hne j)
  · cases h2
theorem OkP.loop (p' : List Nat) (I : Nat → St → Prop) (n : Nat) (h0 : I n st) (h : ∀ n s, I n s → OkP L P c none p' (.inv Λ I n) s Q)
    (e : cE c (rl p) = .loop (cE c (rl p')) := by kernel_rfl) (hf : ∀ m, frm c (rl p') ((Lm.inv Λ I m).lst []) [] = .inv I m :: frm c (rl p) (Λ.lst []) [] := by intro m; kernel_rfl) : OkP L P c none p Λ st Q := fun B hB => by
  show okC B L P Q (.code (cE c (rl p))) _ st
  rw [e]
  intro ρ a w hA
  refine loopE (fun k a w => Rch B L (I k) a w) n ⟨st, ρ, h0, hA⟩ ?_
  rintro k a1 w1 ⟨s, ρ1, hI, hA1⟩
  have := h k s hI B hB
  rw [hf] at this
  exact Code.wpIn_mono (fun e a w hq => hq) (this ρ1 a1 w1 hA1)
/-- A place at which ways meet. -/
theorem OkP.join (p' : List Nat) (d : Nat) (us : List Nat) (J : St → Prop) (k : ∀ s, J s → OkP L P c none p' ((Λ.up d).dn us) s Q) (h : (∀ s, J s → OkP L P c none p' ((Λ.up d).dn us) s Q) → OkP L P c x p Λ st Q) : OkP L P c x p Λ st Q := h k
theorem OkP.told {st2 : St} (e : st = st2) (k : OkP L P c x p Λ st2 Q) : OkP L P c x p Λ st Q := e ▸ k
/-- From a triple, and to one. -/
theorem OkP.ok (h : OkP L P c none [] .nil st Q) (hl : Nat.ble st.mem.length L = true := by kernel_rfl) : Ok L P (cE c []) st Q := fun ro dd A ρ a w hro hR hup => by
  have hf : frm c (rl []) (Lm.nil.lst []) [] = [] := frm_nil c _ _
  have := h ⟨ro, dd, A, memL st.mem, ρ, w⟩ (fun id hid => by
    have h1 := Nat.le_of_ble_eq_true hl
    rcases Nat.lt_or_ge id st.mem.length with h2 | h2
    · omega
    · exact absurd (by simp [memL, List.getElem?_eq_none h2]) hid)
  rw [hf] at this
  have := this ρ a w ⟨hro, hup, [], hR, .refl⟩
  exact Code.wpIn_mono (fun e a' w' ⟨y, he, s, ρ', hq, hA⟩ => let ⟨ds, hR', hG⟩ := hA.ds; ⟨y, s, ρ', ds, he, hq, hR', hG⟩) this
theorem OkP.of (h : Ok L P (cE c (rl p)) st (fun e s => OkP L P c (some e) p Λ s Q)) : OkP L P c none p Λ st Q := fun B hB ρ a w hA => by
  obtain ⟨ds, hR, hG⟩ := hA.ds
  refine Code.wpIn_mono ?_ (h B.ro (ds ++ B.dd) B.A ρ a w hA.ro hR hA.up)
  rintro e a' w' ⟨y, s, ρ', ds2, rfl, hq, hR', hG'⟩
  exact hq B hB ρ' a' w' ⟨hA.ro.later hR.fits hG'.ext, hA.up.ext hG'.ext, ds2 ++ ds, by rw [List.append_assoc]; exact hR', hG.trans hR.fits hG'⟩
end
theorem rowTake {α : Type} {f : α → AV} {l : List α} {a n : Nat} : ((l.map f).drop a).take n = ((l.drop a).take n).map f := by simp [List.map_take, List.map_drop]
/-! ### Lists with nil slices in them -/
def SubVE : List AV → List AV → Prop
  | [], [] => True
  | x :: xs, y :: ys => SubVL (cellsOf x) (cellsOf y) ∧ SubVE xs ys
  | _, _ => False
theorem SubV.any (y : AV) : SubV .any y := fun _ _ _ _ => .any _
theorem SubVE.len : ∀ {xs ys : List AV}, SubVE xs ys → xs.length = ys.length
  | [], [], _ => rfl
  | _ :: _, _ :: _, h => by simp [SubVE.len h.2]
  | [], _ :: _, h => h.elim
  | _ :: _, [], h => h.elim
theorem SubVE.get : ∀ {xs ys : List AV}, SubVE xs ys → ∀ (i : Nat) (x : AV), xs[i]? = some x → ∃ y, ys[i]? = some y ∧ SubVL (cellsOf x) (cellsOf y)
  | x :: xs, y :: ys, h, i, z, hz => by
    cases i with
    | zero => simp at hz; subst hz; exact ⟨y, rfl, h.1⟩
    | succ i => simpa using SubVE.get h.2 i z (by simpa using hz)
  | [], [], _, i, z, hz => by simp at hz
  | [], _ :: _, h, _, _, _ => h.elim
  | _ :: _, [], h, _, _, _ => h.elim
theorem SubV.list {xs ys : List AV} (h : SubVE xs ys) : SubV (.list xs) (.list ys) := fun w B v k => by
  have hl := h.len
  cases k with
  | lnil a cap h0 =>
    have : xs = [] := List.length_eq_zero_iff.1 hl
    subst this
    exact .lnil a cap h0
  | list l b o cap k x hc hB hk hx hr =>
    rw [← hl]
    refine .list xs b o cap k x (by omega) (fun hne => hB (fun e => hne (List.length_eq_zero_iff.1 (by rw [hl, e]; rfl)))) (fun e he => ?_) (fun i e j c he hc => ?_) (fun i e j c he hc => ?_)
    · obtain ⟨i, hi⟩ := List.mem_iff_getElem?.1 he
      obtain ⟨y, h1, h2⟩ := h.get i e hi
      rw [h2.len]; exact hk y (List.mem_of_getElem? h1)
    · obtain ⟨y, h1, h2⟩ := h.get i e he
      obtain ⟨d, h3, h4⟩ := h2.get j c hc
      exact hx i y j d h1 h3
    · obtain ⟨y, h1, h2⟩ := h.get i e he
      obtain ⟨d, h3, h4⟩ := h2.get j c hc
      exact h4 _ _ _ (hr i y j d h1 h3)
theorem FnM.sub {P : Program} {f : FuncId} {R : List Blk} {xs ys : List AV} {r : AV} (h : FnM P f [] xs r R) (hs : SubVL xs ys) (hi : idsL ys = [] := by rfl) : FnM P f [] ys r R :=
  ⟨h.1, fun B ρ w vs hF hsz hr => h.2 B ρ w vs hF (hsz.trans hs.len.symm) fun i x hx => by
    obtain ⟨y, h1, h2⟩ := hs.get i x hx
    have hy : idsOf y = [] := by
      rw [List.eq_nil_iff_forall_not_mem]
      intro n hn
      have := idsL_get h1 hn
      rw [hi] at this; cases this
    exact .base (h2 _ _ _ ((hr i y h1).ri hy))⟩
section
variable {P : Program}
theorem fn_flow {f : FuncId} {fn : Func} {fr : Bool} {args : List AV} {r : AV} {st : St} (hf : P.funcs[f]? = some fn) (h : OkP 0 P (codeE fn) none [] .nil st (fun e s => (e = .normal ∨ e = .ret) ∧ FinF P fn fr r s))
    (hb : fn.body.isSome = true := by kernel_rfl) (hcal : callable P f = true := by kernel_rfl) (hn : Nat.ble args.length fn.ntmps = true := by kernel_rfl) (hst : St.init fn args [] = st := by kernel_rfl) : FnF P f fr args r :=
  fn_walkF hf hb hcal hn hst (h.ok (by subst hst; rfl))
theorem fn_flowR {f : FuncId} {fn : Func} {args : List AV} {r : AV} {R : List Blk} {st : St} (hf : P.funcs[f]? = some fn) (h : OkP 0 P (codeE fn) none [] .nil st (fun e s => (e = .normal ∨ e = .ret) ∧ Fin P fn r R s))
    (hb : fn.body.isSome = true := by kernel_rfl) (hcal : callable P f = true := by kernel_rfl) (hn : Nat.ble args.length fn.ntmps = true := by kernel_rfl) (hst : St.init fn args [] = st := by kernel_rfl) : FnM P f [] args r R :=
  fn_walk hf hb hcal hn hst (h.ok (by subst hst; rfl))
theorem fn_flowL {f : FuncId} {fn : Func} {args : List AV} {M : List Blk} {r : AV} {R : List Blk} {st : St} (hf : P.funcs[f]? = some fn) (h : OkP M.length P (codeE fn) none [] .nil st (fun e s => (e = .normal ∨ e = .ret) ∧ FinL P fn M.length r R s))
    (hb : fn.body.isSome = true := by kernel_rfl) (hcal : callable P f = true := by kernel_rfl) (hn : Nat.ble args.length fn.ntmps = true := by kernel_rfl) (hst : St.init fn args M = st := by kernel_rfl) : FnL P f M args r R :=
  fn_walkL hf hst (h.ok (by subst hst; exact Nat.ble_eq_true_of_le (Nat.le_refl _))) hb hcal hn
end
end Go.Proofs.Ytglfbdicclepcaa
