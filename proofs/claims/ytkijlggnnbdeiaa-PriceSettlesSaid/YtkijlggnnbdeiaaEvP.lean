/- Codes and functions. For every program. -/
import Derived.Test.YtkijlggnnbdeiaaEvO
set_option linter.unusedVariables false
set_option linter.unusedSimpArgs false
namespace Go.Proofs.Ytkijlggnnbdeiaa
open Go.RowKit

inductive EvX where
  | normal
  | exit (id : Nat)
  | ret

def EvX.to : EvX → Exit
  | .normal => .normal
  | .exit id => .exit id
  | .ret => .ret

def evC (P : Program) : Nat → Code → List Sup → St → Option (EvX × St × List Sup × List Prop)
  | 0, _, _, _ => none
  | n + 1, c, ss, st =>
    match c with
    | .skip => some (.normal, st, ss, [])
    | .label _ => some (.normal, st, ss, [])
    | .scope x => evC P n x ss st
    | .region _ ops false => match evSeq P ops.toList ops.toList ss st with
      | some (st', ss', ob) => some (.normal, st', ss', ob)
      | none => none
    | .region _ ops true => match evDraw P ops.toList ss st with
      | some (st', ss', ob) => some (.normal, st', ss', ob)
      | none => none
    | .seq x y => match evC P n x ss st with
      | some (.normal, st1, ss1, o1) => match evC P n y ss1 st1 with
        | some (e, st2, ss2, o2) => some (e, st2, ss2, o1 ++ o2)
        | none => none
      | r => r
    | .cond (.tmp t) x y => match ss with
      | .v (.bool true) :: ss1 => match st.τ t with
        | .bool b => match evC P n x ss1 st with
          | some (e, st2, ss2, o2) => some (e, st2, ss2, (b = true) :: o2)
          | none => none
        | _ => none
      | .v (.bool false) :: ss1 => match st.τ t with
        | .bool b => match evC P n y ss1 st with
          | some (e, st2, ss2, o2) => some (e, st2, ss2, (b = false) :: o2)
          | none => none
        | _ => none
      | .d :: ss1 => match st.τ t with
        | .bool true => evC P n x ss1 st
        | .bool false => evC P n y ss1 st
        | _ => none
      | _ => none
    | .block id x => match evC P n x ss st with
      | some (.exit j, st1, ss1, o1) => if Nat.beq j id then some (.normal, st1, ss1, o1) else some (.exit j, st1, ss1, o1)
      | r => r
    | .exit id => some (.exit id, st, ss, [])
    | .ret => some (.ret, st, ss, [])
    | .loop x => match evC P n x ss st with
      | some (.normal, st1, ss1, o1) => match evC P n (.loop x) ss1 st1 with
        | some (e, st2, ss2, o2) => some (e, st2, ss2, o1 ++ o2)
        | none => none
      | r => r
    | _ => none

theorem least_ofE {p : Nat → Prop} : ∀ n, p n → ∃ n, p n ∧ ∀ m, p m → n ≤ m := by
  intro n
  induction n using Nat.strongRecOn with
  | ind n ih =>
    intro h
    by_cases hl : ∃ m, m < n ∧ p m
    · obtain ⟨m, hm, hp⟩ := hl
      exact ih m hm hp
    · exact ⟨n, h, fun m hm => Nat.le_of_not_lt fun hlt => hl ⟨m, hlt, hm⟩⟩

theorem loopE {P : Program} {ro : Option Nat} {Q : Exit → Act → World → Prop} {a : Act} {c : Code} {w : World} (I : Nat → Act → World → Prop) (n0 : Nat) (h0 : I n0 a w)
    (round : ∀ n a w, I n a w → c.wpIn (FR ro) 0 P (Exit.then (fun a' w' => ∃ n', n' < n ∧ I n' a' w') Q) a w) : (Code.loop c).wpIn (FR ro) 0 P Q a w := by
  classical
  have hl : ∀ a w, (∃ n, I n a w) → ∃ n, I n a w ∧ ∀ m, I m a w → n ≤ m := fun a w ⟨n, h⟩ => least_ofE n h
  refine wpIn_loop (fun a w => ∃ n, I n a w) (fun a w => if h : ∃ n, I n a w then Classical.choose (hl a w h) else 0) ⟨n0, h0⟩ ?_
  intro a w h
  have hs := Classical.choose_spec (hl a w h)
  refine Code.wpIn_mono ?_ (round _ a w hs.1)
  intro e a' w' hq
  cases e with
  | normal =>
    obtain ⟨n', hlt, hI⟩ := hq
    refine ⟨⟨n', hI⟩, ?_⟩
    have h' : ∃ n, I n a' w' := ⟨n', hI⟩
    have hs' := (Classical.choose_spec (hl a' w' h')).2 n' hI
    rw [dif_pos h, dif_pos h']
    exact Nat.lt_of_le_of_lt hs' hlt
  | _ => exact hq

theorem stepR_scopeE {P : Program} {b : Frame} {a : Act} {k : List Item} {cs : List Frame} {w : World} {c : Code} : step P (lone (b.atR a (.code (.scope c) :: k)) cs w) = .next (lone (b.atR a (.code c :: .inScope c :: k)) cs w) :=
  step_lone_go (by simp [stepG, stepG.exec, Frame.atR])
theorem stepR_inScopeE {P : Program} {b : Frame} {a : Act} {k : List Item} {cs : List Frame} {w : World} {c : Code} : step P (lone (b.atR a (.inScope c :: k)) cs w) = .next (lone (b.atR a k) cs w) :=
  step_lone_go (by simp [stepG, stepG.exec, Frame.atR])
/-- A scope that is left by no goto. -/
theorem wpIn_scopeE {F : Fence} {n : Nat} {P : Program} {Q : Exit → Act → World → Prop} {a : Act} {w : World} {c : Code} (h : c.wpIn F n P (fun e a w => (e = .normal ∨ (∃ i, e = .exit i) ∨ e = .ret) ∧ Q e a w) a w) : (Code.scope c).wpIn F n P Q a w := by
  intro b k cs hro hb hr
  have h0 : (lone (b.atR a (.code (.scope c) :: k)) cs w).fenced P F := fenced_calm hb hr rfl
  obtain ⟨e, a₁, w₁, ⟨he, hq⟩, harr⟩ := h b (.inScope c :: k) cs hro hb hr
  rcases he with rfl | ⟨i, rfl⟩ | rfl
  · exact ⟨.normal, a₁, w₁, hq, .head h0 stepR_scopeE (StepsIn.trans harr (.one (fenced_calm hb hr rfl) stepR_inScopeE))⟩
  · have hx : exitTo i (.inScope c :: k) = exitTo i k := by simp [exitTo]
    exact ⟨.exit i, a₁, w₁, hq, fun k' hk => .head h0 stepR_scopeE (harr.1 k' (by rw [hx]; exact hk)), fun hr' hk => let ⟨k₁, h1, h2⟩ := harr.2 hr' (by rw [hx]; exact hk); ⟨k₁, h1, .head h0 stepR_scopeE h2⟩⟩
  · exact ⟨_, a₁, w₁, hq, .of_steps (.one h0 stepR_scopeE) harr⟩

theorem thenE {K : Act → World → Prop} {Q : Exit → Act → World → Prop} {e : EvX} {a : Act} {w : World} (h : e ≠ .normal) (hq : Q e.to a w) : Exit.then K Q e.to a w := by
  cases e <;> first | exact absurd rfl h | exact hq

section
variable {P : Program} {dd : List Deferred} {ro : Option Nat} {A : Nat → Prop}

theorem evC_ok (hm : P.follows .mixedOrders = true) : ∀ (n : Nat) (c : Code) (ss : List Sup) (st : St) (e : EvX) (st' : St) (ss' : List Sup) (ob : List Prop), evC P n c ss st = some (e, st', ss', ob) → AllP ob → ∀ (ρ : Nat → Nat) (a : Act) (w : World), RS dd A ρ st a w → (∀ b, w.heap.size ≤ b → A b) →
    ∀ Q : Exit → Act → World → Prop, (∀ a' ρ' w', RS dd A ρ' st' a' w' → Ext (memL st.mem) ρ w (memL st'.mem) ρ' w' → Q e.to a' w') → c.wpIn (FR ro) 0 P Q a w := by
  intro n
  induction n using Nat.strongRecOn with
  | ind n ihs =>
  cases n with
  | zero => intro c ss st e st' ss' ob h; cases h
  | succ n =>
    have ih := ihs n (Nat.lt_succ_self n)
    intro c ss st e st' ss' ob h hob ρ a w hR hup Q hQ
    unfold evC at h
    split at h
    · cases h
      exact wpIn_skip (hQ a ρ w hR (.refl _ _ _))
    · cases h
      exact wpIn_label (hQ a ρ w hR (.refl _ _ _))
    · rename_i x
      refine wpIn_scopeE (ih x ss st e st' ss' ob h hob ρ a w hR hup _ fun a' ρ' w' hR' hE => ⟨?_, hQ a' ρ' w' hR' hE⟩)
      cases e with
      | normal => exact .inl rfl
      | exit i => exact .inr (.inl ⟨i, rfl⟩)
      | ret => exact .inr (.inr rfl)
    · rename_i id ops
      split at h
      · rename_i st1 ss1 o1 h1
        cases h
        refine wpIn_region ?_
        rw [List.range_eq_range']
        have := seq_ok (ro := ro) (P := P) (ops := ops) (Q := Q) _ 0 ss st _ _ _ ρ a w (by simp) h1 hob hR hup hQ
        simpa using this
      · cases h
    · split at h
      · rename_i st1 ss1 o1 h1
        cases h
        exact draw_ok hm h1 hob hR hup hQ
      · cases h
    · rename_i x y
      split at h
      · rename_i st1 ss1 o1 h1
        split at h
        · rename_i e2 st2 ss2 o2 h2
          cases h
          obtain ⟨hob1, hob2⟩ := AllP.append hob
          refine wpIn_seq (ih x ss st .normal st1 ss1 o1 h1 hob1 ρ a w hR hup _ fun a' ρ' w' hR' hE => ?_)
          exact ih y ss1 st1 e st' ss' o2 h2 hob2 ρ' a' w' hR' (up_ext hE hup) Q fun a'' ρ'' w'' hR'' hE' => hQ a'' ρ'' w'' hR'' (hE.trans hE')
        · cases h
      · rename_i hne
        have he : e ≠ .normal := fun he => by subst he; exact hne _ _ _ h
        exact wpIn_seq (ih x ss st e st' ss' ob h hob ρ a w hR hup _ fun a' ρ' w' hR' hE => thenE he (hQ a' ρ' w' hR' hE))
    · rename_i t x y
      have hv := hR.eval t
      split at h
      · rename_i ss1
        split at h
        · rename_i b hb
          split at h
          · rename_i e2 st2 ss2 o2 h2
            cases h
            have hbt : b = true := hob.1
            rw [hb] at hv
            exact wpIn_cond_true (hbt ▸ rep_bool hv) (ih x ss1 st e st' ss' o2 h2 hob.2 ρ a w hR hup Q hQ)
          · cases h
        · cases h
      · rename_i ss1
        split at h
        · rename_i b hb
          split at h
          · rename_i e2 st2 ss2 o2 h2
            cases h
            have hbt : b = false := hob.1
            rw [hb] at hv
            exact wpIn_cond_false (hbt ▸ rep_bool hv) (ih y ss1 st e st' ss' o2 h2 hob.2 ρ a w hR hup Q hQ)
          · cases h
        · cases h
      · rename_i ss1
        split at h
        · rename_i hb
          rw [hb] at hv
          exact wpIn_cond_true (rep_bool hv) (ih x ss1 st e st' ss' ob h hob ρ a w hR hup Q hQ)
        · rename_i hb
          rw [hb] at hv
          exact wpIn_cond_false (rep_bool hv) (ih y ss1 st e st' ss' ob h hob ρ a w hR hup Q hQ)
        · cases h
      · cases h
    · rename_i id x
      split at h
      · rename_i j st1 ss1 o1 h1
        split at h
        · rename_i hj
          cases h
          refine wpIn_block (ih x ss st _ st' ss' ob h1 hob ρ a w hR hup _ fun a' ρ' w' hR' hE => ?_)
          have := Nat.eq_of_beq_eq_true hj
          subst this
          show Exit.inBlock j Q (.exit j) a' w'
          simp only [Exit.inBlock, if_true]
          exact hQ a' ρ' w' hR' hE
        · rename_i hj
          cases h
          refine wpIn_block (ih x ss st _ st' ss' ob h1 hob ρ a w hR hup _ fun a' ρ' w' hR' hE => ?_)
          have hne : j ≠ id := fun e => hj (by subst e; exact Nat.beq_refl j)
          show Exit.inBlock id Q (.exit j) a' w'
          simp only [Exit.inBlock, if_neg hne]
          exact hQ a' ρ' w' hR' hE
      · rename_i hne
        refine wpIn_block (ih x ss st e st' ss' ob h hob ρ a w hR hup _ fun a' ρ' w' hR' hE => ?_)
        cases e with
        | exit j => exact absurd h (hne _ _ _ _)
        | normal => exact hQ a' ρ' w' hR' hE
        | ret => exact hQ a' ρ' w' hR' hE
    · cases h
      exact wpIn_exit (hQ a ρ w hR (.refl _ _ _))
    · cases h
      exact wpIn_ret (hQ a ρ w hR (.refl _ _ _))
    · rename_i x
      have key : ∀ (k : Nat), k ≤ n → ∀ (ss : List Sup) (s : St) (ob : List Prop), evC P (k + 1) (.loop x) ss s = some (e, st', ss', ob) → AllP ob → ∀ ρ1 a w1, RS dd A ρ1 s a w1 → Ext (memL st.mem) ρ w (memL s.mem) ρ1 w1 →
          x.wpIn (FR ro) 0 P (Exit.then (fun a' w' => ∃ k', k' < k ∧ ∃ ss s ob ρ1, evC P (k' + 1) (.loop x) ss s = some (e, st', ss', ob) ∧ AllP ob ∧ RS dd A ρ1 s a' w' ∧ Ext (memL st.mem) ρ w (memL s.mem) ρ1 w') Q) a w1 := by
        intro k hk ss s ob hev hob ρ1 a1 w1 hR1 hE1
        have hup1 := up_ext hE1 hup
        have mono := fun {c ss st e st' ss' ob} h hob => ihs k (by omega) c ss st e st' ss' ob h hob
        unfold evC at hev
        simp only at hev
        split at hev
        · rename_i st1 ss1 o1 h1
          split at hev
          · rename_i e2 st2 ss2 o2 h2
            cases hev
            obtain ⟨hob1, hob2⟩ := AllP.append hob
            refine mono h1 hob1 ρ1 a1 w1 hR1 hup1 _ fun a' ρ' w' hR' hE' => ?_
            cases k with
            | zero => cases h2
            | succ k => exact ⟨k, by omega, ss1, st1, o2, ρ', h2, hob2, hR', hE1.trans hE'⟩
          · cases hev
        · rename_i hne
          have he : e ≠ .normal := fun he => by subst he; exact hne _ _ _ hev
          exact mono hev hob ρ1 a1 w1 hR1 hup1 _ fun a' ρ' w' hR' hE' => thenE he (hQ a' ρ' w' hR' (hE1.trans hE'))
      refine loopE (fun k a w' => k ≤ n ∧ ∃ ss s ob ρ1, evC P (k + 1) (.loop x) ss s = some (e, st', ss', ob) ∧ AllP ob ∧ RS dd A ρ1 s a w' ∧ Ext (memL st.mem) ρ w (memL s.mem) ρ1 w') n ⟨Nat.le_refl _, ss, st, ob, ρ, ?_, hob, hR, .refl _ _ _⟩ ?_
      · unfold evC; exact h
      · rintro k a1 w1 ⟨hk, ss1, s1, o1, ρ1, h1, h2, h3, h4⟩
        refine Code.wpIn_mono ?_ (key k hk ss1 s1 o1 h1 h2 ρ1 a1 w1 h3 h4)
        intro e a' w' hq
        cases e with
        | normal => obtain ⟨k', hlt, hh⟩ := hq; exact ⟨k', hlt, by omega, hh⟩
        | _ => exact hq
    · cases h

end
end Go.Proofs.Ytkijlggnnbdeiaa
