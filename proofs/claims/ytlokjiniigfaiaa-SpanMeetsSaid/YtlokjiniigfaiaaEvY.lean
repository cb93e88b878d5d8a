/- A contract for more general arguments serves more special ones. For every program. -/
import Derived.Test.YtlokjiniigfaiaaEvU
set_option linter.unusedVariables false
set_option linter.unusedSimpArgs false
namespace Go.Proofs.Ytlokjiniigfaiaa
open Go.RowKit

/-- A state in which most variables are d. -/
def fillT (d : AV) : Nat → Nat → List (Nat × AV) → List AV
  | 0, _, _ => []
  | n + 1, i, [] => d :: fillT d n (i + 1) []
  | n + 1, i, (k, v) :: r => match Nat.beq k i with
    | true => v :: fillT d n (i + 1) r
    | false => d :: fillT d n (i + 1) ((k, v) :: r)
abbrev stX (d : AV) (n : Nat) (l : List (Nat × AV)) (M : List Blk) : St := ⟨fillT d n 0 l, M⟩
/-- x says no more than y. -/
def SubV (x y : AV) : Prop := ∀ w B v, RI w B y v → RI w B x v
theorem SubV.refl (x : AV) : SubV x x := fun _ _ _ h => h
theorem SubV.nil : SubV (.list []) .nilslice := fun _ _ _ h => by cases h; exact .lnil none 0 (fun _ => rfl)
def SubVL : List AV → List AV → Prop
  | [], [] => True
  | x :: xs, y :: ys => SubV x y ∧ SubVL xs ys
  | _, _ => False
theorem SubVL.len : ∀ {xs ys : List AV}, SubVL xs ys → xs.length = ys.length
  | [], [], _ => rfl
  | _ :: _, _ :: _, h => by simp [SubVL.len h.2]
  | [], _ :: _, h => h.elim
  | _ :: _, [], h => h.elim
theorem SubVL.get : ∀ {xs ys : List AV}, SubVL xs ys → ∀ (i : Nat) (x : AV), xs[i]? = some x → ∃ y, ys[i]? = some y ∧ SubV x y
  | [], [], _, i, x, h => by simp at h
  | x :: xs, y :: ys, h, i, z, hz => by
    cases i with
    | zero => simp at hz; subst hz; exact ⟨y, rfl, h.1⟩
    | succ i => simpa using SubVL.get h.2 i z (by simpa using hz)
  | [], _ :: _, h, _, _, _ => h.elim
  | _ :: _, [], h, _, _, _ => h.elim
theorem SubV.agg {xs ys : List AV} (h : SubVL xs ys) : SubV (.agg xs) (.agg ys) := fun w B v k => by
  cases k with
  | agg cs vs hs hr =>
    refine .agg _ vs (hs.trans h.len.symm) fun i c hc => ?_
    obtain ⟨y, h1, h2⟩ := h.get i c hc
    exact h2 _ _ _ (hr i y h1)
theorem FnF.sub {P : Program} {f : FuncId} {fr : Bool} {xs ys : List AV} {r : AV} (h : FnF P f fr xs r) (hs : SubVL xs ys) : FnF P f fr ys r :=
  ⟨h.1, fun B w vs hsz hr => h.2 B w vs (hsz.trans hs.len.symm) fun i x hx => by
    obtain ⟨y, h1, h2⟩ := hs.get i x hx
    exact h2 _ _ _ (hr i y h1)⟩
theorem shr_is {p m : Int} {k : IntKind} {e : Nat} (h : (2 : Int) ^ e = m) (h0 : 0 ≤ m) : AV.int k (Int.fdiv p (2 ^ e)) = AV.int k (p / m) := by
  rw [h, Int.fdiv_eq_ediv_of_nonneg p h0]
theorem getD_all0 {l : List Int} {a b : Int} (h : ∀ x ∈ l, a ≤ x ∧ x ≤ b) (n : Nat) (h0 : a ≤ 0 ∧ 0 ≤ b := by decide) : a ≤ l.getD n 0 ∧ l.getD n 0 ≤ b := by
  by_cases hn : n < l.length
  · rw [List.getD_eq_getElem?_getD, List.getElem?_eq_getElem hn]; exact h _ (List.getElem_mem hn)
  · rw [List.getD_eq_getElem?_getD, List.getElem?_eq_none (by omega)]; exact h0
end Go.Proofs.Ytlokjiniigfaiaa
