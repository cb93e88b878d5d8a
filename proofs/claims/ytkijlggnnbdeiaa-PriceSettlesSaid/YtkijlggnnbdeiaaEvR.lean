/- Whole functions by their text; small laws for what is owed. For every program. -/
import Derived.Test.YtkijlggnnbdeiaaEvQ
set_option linter.unusedVariables false
set_option linter.unusedSimpArgs false
namespace Go.Proofs.Ytkijlggnnbdeiaa
open Go.RowKit

def evFn (P : Program) (n : Nat) (fn : Func) (ss : List Sup) (args : List AV) (is : List Nat) : Option (AV × List Blk × List Prop) :=
  match fn.body with
  | some c => match evC P n c ss (St.init fn args []) with
    | some (e, st, _, ob) => match e with
      | .exit _ => none
      | _ => match resultsAV P fn st, expB (memL st.mem) is with
        | some x, some (R, ob2) => if nodupN is then match expV (memL st.mem) is x with
          | some r => some (r, R, ob ++ ob2)
          | none => none else none
        | _, _ => none
    | none => none
  | none => none

section
variable {P : Program}

theorem fn_ev {f : FuncId} {fn : Func} (hm : P.follows .mixedOrders = true) (hf : P.funcs[f]? = some fn) (hcal : callable P f = true) (n : Nat) (ss : List Sup) (is : List Nat) {args : List AV} {r : AV} {R : List Blk} {ob : List Prop} (hn : Nat.ble args.length fn.ntmps = true)
    (h : evFn P n fn ss args is = some (r, R, ob)) (hob : AllP ob) : FnM P f [] args r R := by
  unfold evFn at h
  split at h
  · rename_i c hc
    split at h
    · rename_i e st ss' o1 h1
      split at h
      · cases h
      · rename_i hne
        split at h
        · rename_i x R' o2 h2 h3
          split at h
          · rename_i hnd
            split at h
            · rename_i r' h4
              cases h
              obtain ⟨hob1, hob2⟩ := AllP.append hob
              refine fn_pure hf hc hcal hn (Ok.ev hm n ss h1 hob1 ⟨?_, x, o2, is, h2, h3, hob2, hnd, h4⟩)
              cases e with
              | normal => exact .inl rfl
              | ret => exact .inr rfl
              | exit j => exact absurd rfl (hne j)
            · cases h
          · cases h
        · cases h
    · cases h
  · cases h

/-- What a function gives for values that bear no names, in every world. -/
theorem FnM.calls {f : FuncId} {args : List AV} {r : AV} (h : FnM P f [] args r []) {w : World} {vs : Array Value} (hs : vs.size = args.length) (hr : ∀ i x, args[i]? = some x → RI w (fun b => b < w.heap.size) x (vs.getD i undef)) :
    Calls P f vs w fun e w' => ∃ v, e = .returned v ∧ Below w.heap.size w w' ∧ RI w' (fun b => b < w'.heap.size) r v := by
  have hm : ∀ {A : Nat → Prop} {ρ : Nat → Nat} {w : World}, Fits A (memL []) ρ w := ⟨fun i j hi => absurd (by simp [memL]) hi, fun id b hb => by simp [memL] at hb⟩
  refine (h.2 (fun b => b < w.heap.size) (fun _ => 0) w vs hm hs fun i x hx => .base ((hr i x hx).mono (fun b hb => ⟨.inl hb, hb, fun id hid => absurd (by simp [memL]) hid⟩) fun _ _ _ => rfl)).mono ?_
  rintro e w' ⟨v, ρ', rfl, hE, hF, hR⟩
  refine ⟨v, rfl, ⟨hE.os, hE.tape, hE.output, hE.size, fun k hk => hE.frame k hk fun id hid => absurd (by simp [memL]) hid⟩, ?_⟩
  have key : ∀ {x : AV} {v : Value}, Rep (Allow (fun b => b < w.heap.size) w.heap.size) (memL []) ρ' w' x v → RI w' (fun b => b < w'.heap.size) x v := fun h => by
    induction h with
    | base h => exact h.mono (fun b hb => hb.2.1) (fun _ _ _ => rfl)
    | ptr id off cs h => simp [memL] at h
    | ptrR id ver i off k es ver' a h => simp [memL] at h
    | slice id lo len ver k es ver' a n c h => simp [memL] at h
    | agg cs vs hs h ih => exact .agg cs vs hs ih
    | tuple cs vs hs h ih => exact .tuple cs vs hs ih
    | func f p c ps cs hp hc h k ih ik => exact .func f p c ps cs hp hc ih ik
    | iface t x v h ih => exact .iface t x v ih
  exact key hR

/-- A law that answers true. -/
theorem FnM.law {f : FuncId} {args : List AV} (h : FnM P f [] args (.bool true) []) {w : World} {vs : Array Value} (hs : vs.size = args.length) (hr : ∀ i x, args[i]? = some x → RI w (fun b => b < w.heap.size) x (vs.getD i undef)) :
    Calls P f vs w fun e w' => e = .returned (.bool true) ∧ Below w.heap.size w w' :=
  (h.calls hs hr).mono fun e w' ⟨v, he, hb, hv⟩ => by cases hv; exact ⟨he, hb⟩

/-- The other way: a contract of the elder kind, for values without pointers. -/
theorem fnM_of {f : FuncId} {args : List AV} {r : AV} (hc : callable P f = true) (xs : List Value) (rv : Value) (ha : ∀ (w : World) (B : Nat → Prop) (vs : Array Value), vs.size = args.length → (∀ i x, args[i]? = some x → RI w B x (vs.getD i undef)) → vs = xs.toArray)
    (hr : ∀ (w : World) (B : Nat → Prop), RI w B r rv) (h : ∀ w, Calls P f xs.toArray w fun e w' => e = .returned rv ∧ Below w.heap.size w w') : FnM P f [] args r [] := by
  refine ⟨hc, fun B ρ w vs hF hs hv => ?_⟩
  have key : ∀ {x : AV} {v : Value}, Rep (Allow B w.heap.size) (memL []) ρ w x v → RI w (fun _ => True) x v := fun h => by
    induction h with
    | base h => exact h.mono (fun b hb => trivial) (fun _ _ _ => rfl)
    | ptr id off cs h => simp [memL] at h
    | ptrR id ver i off k es ver' a h => simp [memL] at h
    | slice id lo len ver k es ver' a n c h => simp [memL] at h
    | agg cs vs hs h ih => exact .agg cs vs hs ih
    | tuple cs vs hs h ih => exact .tuple cs vs hs ih
    | func f p c ps cs hp hc h k ih ik => exact .func f p c ps cs hp hc ih ik
    | iface t x v h ih => exact .iface t x v ih
  rw [ha w (fun _ => True) vs hs (fun i x hx => key (hv i x hx))]
  refine (h w).mono ?_
  rintro e w' ⟨rfl, hb⟩
  have nm : ∀ {i : Nat}, ¬ (memL [] i ≠ none) := fun h => h (by simp [memL])
  exact ⟨rv, ρ, rfl, ⟨hb.os, hb.tape, hb.output, hb.size, fun b hlt _ => hb.block b hlt, fun id hid => absurd hid nm, fun id b hb => by simp [memL] at hb⟩, ⟨fun i j hi => absurd hi nm, fun id b hb => by simp [memL] at hb⟩, .base (hr _ _)⟩

end

/-! ### What is owed -/

theorem bT {p : Prop} [Decidable p] (h : p) : AV.bool (decide p) = AV.bool true := by rw [decide_eq_true h]
theorem bF {p : Prop} [Decidable p] (h : ¬ p) : AV.bool (decide p) = AV.bool false := by rw [decide_eq_false h]
theorem eT {x y : Int} (h : x = y) : AV.bool (x == y) = AV.bool true := by rw [beq_iff_eq.2 h]
theorem eF {x y : Int} (h : x ≠ y) : AV.bool (x == y) = AV.bool false := by rw [beq_eq_false_iff_ne.2 h]
theorem nT {x y : Int} (h : x ≠ y) : AV.bool (x != y) = AV.bool true := by rw [bne_iff_ne.2 h]
theorem nF {x y : Int} (h : x = y) : AV.bool (x != y) = AV.bool false := by subst h; simp
theorem bB {x y : Bool} (h : x = y) : AV.bool x = AV.bool y := by rw [h]
theorem iI {k : IntKind} {x y : Int} (h : x = y) : AV.int k x = AV.int k y := by rw [h]
theorem iW {k : IntKind} {x y : Int} (h : k.wrap x = y) : AV.int k (k.wrap x) = AV.int k y := by rw [h]
theorem w64 {x : Int} (h1 : -9223372036854775808 ≤ x) (h2 : x ≤ 9223372036854775807) : IntKind.i64.wrap x = x := by simp [IntKind.wrap, IntKind.bits, IntKind.signed]; omega
theorem wu64 {x : Int} (h1 : 0 ≤ x) (h2 : x ≤ 18446744073709551615) : IntKind.u64.wrap x = x := by simp [IntKind.wrap, IntKind.bits, IntKind.signed]; omega
theorem wu32 {x : Int} (h1 : 0 ≤ x) (h2 : x ≤ 4294967295) : IntKind.u32.wrap x = x := by simp [IntKind.wrap, IntKind.bits, IntKind.signed]; omega
theorem wu16 {x : Int} (h1 : 0 ≤ x) (h2 : x ≤ 65535) : IntKind.u16.wrap x = x := by simp [IntKind.wrap, IntKind.bits, IntKind.signed]; omega
theorem wu8 {x : Int} (h1 : 0 ≤ x) (h2 : x ≤ 255) : IntKind.u8.wrap x = x := by simp [IntKind.wrap, IntKind.bits, IntKind.signed]; omega

end Go.Proofs.Ytkijlggnnbdeiaa
