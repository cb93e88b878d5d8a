/- A contract for more general arguments serves more special ones. For every program. -/
import Derived.Test.YtkijlggnnbdeiaaEvU
set_option linter.unusedVariables false
set_option linter.unusedSimpArgs false
namespace Go.Proofs.Ytkijlggnnbdeiaa
open Go.RowKit

/-- A state in which most variables are d. -/
def fillT (d : AV) : Nat → Nat → List (Nat × AV) → List AV
  | 0, _, _ => []
  | n + 1, i, [] => d :: fillT d n (i + 1) []
  | n + 1, i, (k, v) :: r => match Nat.beq k i with
    | true => v :: fillT d n (i + 1) r
    | false => d :: fillT d n (i + 1) ((k, v) :: r)
abbrev stX (d : AV) (n : Nat) (l : List (Nat × AV)) (M : List Blk) : St := ⟨fillT d n 0 l, M⟩
/-- x says no more than y. -/
def SubV (x y : AV) : Prop := ∀ w B v, RI w B y v → RI w B x v
theorem SubV.refl (x : AV) : SubV x x := fun _ _ _ h => h
theorem SubV.nil : SubV (.list []) .nilslice := fun _ _ _ h => by cases h; exact .lnil none 0 (fun _ => rfl)
def SubVL : List AV → List AV → Prop
  | [], [] => True
  | x :: xs, y :: ys => SubV x y ∧ SubVL xs ys
  | _, _ => False
theorem SubVL.len : ∀ {xs ys : List AV}, SubVL xs ys → xs.length = ys.length
  | [], [], _ => rfl
  | _ :: _, _ :: _, h => by simp [SubVL.len h.2]
  | [], _ :: _, h => h.elim
  | _ :: _, [], h => h.elim
theorem SubVL.get : ∀ {xs ys : List AV}, SubVL xs ys → ∀ (i : Nat) (x : AV), xs[i]? = some x → ∃ y, ys[i]? = some y ∧ SubV x y
  | [], [], _, i, x, h => by simp at h
  | x :: xs, y :: ys, h, i, z, hz => by
    cases i with
    | zero => simp at hz; subst hz; exact ⟨y, rfl, h.1⟩
    | succ i => simpa using SubVL.get h.2 i z (by simpa using hz)
  | [], _ :: _, h, _, _, _ => h.elim
  | _ :: _, [], h, _, _, _ => h.elim
theorem SubV.agg {xs ys : List AV} (h : SubVL xs ys) : SubV (.agg xs) (.agg ys) := fun w B v k => by
  cases k with
  | agg cs vs hs hr =>
    refine .agg _ vs (hs.trans h.len.symm) fun i c hc => ?_
    obtain ⟨y, h1, h2⟩ := h.get i c hc
    exact h2 _ _ _ (hr i y h1)
theorem FnF.sub {P : Program} {f : FuncId} {fr : Bool} {xs ys : List AV} {r : AV} (h : FnF P f fr xs r) (hs : SubVL xs ys) : FnF P f fr ys r :=
  ⟨h.1, fun B w vs hsz hr => h.2 B w vs (hsz.trans hs.len.symm) fun i x hx => by
    obtain ⟨y, h1, h2⟩ := hs.get i x hx
    exact h2 _ _ _ (hr i y h1)⟩
theorem unB {a b : Bool} (h : AV.bool a = AV.bool b) : a = b := by cases h; rfl
theorem st_to {Q : EvX → St → Prop} {e : EvX} {s s' : St} (h : s = s') (k : Q e s') : Q e s := h ▸ k
theorem shr_is {p m : Int} {k : IntKind} {e : Nat} (h : (2 : Int) ^ e = m) (h0 : 0 ≤ m) : AV.int k (Int.fdiv p (2 ^ e)) = AV.int k (p / m) := by
  rw [h, Int.fdiv_eq_ediv_of_nonneg p h0]
theorem getD_all0 {l : List Int} {a b : Int} (h : ∀ x ∈ l, a ≤ x ∧ x ≤ b) (n : Nat) (h0 : a ≤ 0 ∧ 0 ≤ b := by decide) : a ≤ l.getD n 0 ∧ l.getD n 0 ≤ b := by
  by_cases hn : n < l.length
  · rw [List.getD_eq_getElem?_getD, List.getElem?_eq_getElem hn]; exact h _ (List.getElem_mem hn)
  · rw [List.getD_eq_getElem?_getD, List.getElem?_eq_none (by omega)]; exact h0

/-! ### A function that is lent all of the caller's memory, or hands out all of its own -/

def evFnM (P : Program) (n : Nat) (fn : Func) (ss : List Sup) (args : List AV) (M : List Blk) : Option (AV × List Blk × List Prop) :=
  match fn.body with
  | some c => match evC P n c ss (St.init fn args M) with
    | some (e, st, _, ob) => match e with
      | .exit _ => none
      | _ => match resultsAV P fn st with
        | some x => some (x, st.mem, ob)
        | none => none
    | none => none
  | none => none
theorem fn_evM {P : Program} {f : FuncId} {fn : Func} (hm : P.follows .mixedOrders = true) (hf : P.funcs[f]? = some fn) (hcal : callable P f = true) (n : Nat) (ss : List Sup) {args : List AV} {M M' : List Blk} {r : AV} {ob : List Prop} (hn : Nat.ble args.length fn.ntmps = true)
    (h : evFnM P n fn ss args M = some (r, M', ob)) (hob : AllP ob) : FnM P f M args r M' := by
  unfold evFnM at h
  split at h
  · rename_i c hc
    split at h
    · rename_i e st ss' o1 h1
      split at h
      · cases h
      · rename_i hne
        split at h
        · rename_i x h2
          cases h
          refine ⟨hcal, fun B ρ w vs hF hs hr => fr_calls (callsIn_of_wp (F := FR none) (n := 0) hf hc trivial ?_)⟩
          have hn := Nat.le_of_ble_eq_true hn
          refine Code.wpIn_mono ?_ (evC_ok (ro := none) (A := Allow B w.heap.size) hm n c ss _ _ _ _ _ h1 hob ρ { tmps := vs ++ Array.replicate (fn.ntmps - vs.size) undef, defers := [] } w ⟨hF, ?_, rfl, fun t v hv => ?_⟩ (fun b hb => .inr hb)
            (fun e' a' w' => e' = e.to ∧ ∃ ρ', RS [] (Allow B w.heap.size) ρ' st a' w' ∧ Ext (memL M) ρ w (memL st.mem) ρ' w') fun a' ρ' w' hR hE => ⟨rfl, ρ', hR, hE⟩)
          · rintro e' a' w' ⟨rfl, ρ', hR, hE⟩
            obtain ⟨v, q1, q2⟩ := results_ok hR h2
            cases e with
            | normal => exact ⟨hR.df, v, q1, v, ρ', rfl, hE, hR.fits, q2⟩
            | ret => exact ⟨hR.df, v, q1, v, ρ', rfl, hE, hR.fits, q2⟩
            | exit j => exact absurd rfl (hne j)
          · simp [St.init, hs]
          · simp only [St.init] at hv
            rw [Array.getD_eq_getD_getElem?]
            by_cases h1 : t < args.length
            · rw [List.getElem?_append_left h1] at hv
              rw [Array.getElem?_append_left (by omega), ← Array.getD_eq_getD_getElem?]
              exact hr t v hv
            · rw [List.getElem?_append_right (by omega), List.getElem?_replicate] at hv
              split at hv
              · rename_i h2
                obtain rfl := Option.some.inj hv
                rw [Array.getElem?_append_right (by omega), Array.getElem?_replicate, if_pos (by omega)]
                exact .base (.tuple [] #[] rfl (fun i c hc => by simp at hc))
              · cases hv
        · cases h
    · cases h
  · cases h
end Go.Proofs.Ytkijlggnnbdeiaa
