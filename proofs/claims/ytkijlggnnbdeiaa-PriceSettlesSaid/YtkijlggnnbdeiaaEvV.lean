/- Shapes of arguments that were read. For every program. -/
import Derived.Test.YtkijlggnnbdeiaaEvS
import Derived.Test.YtkijlggnnbdeiaaEvU
set_option linter.unusedVariables false
set_option linter.unusedSimpArgs false
namespace Go.Proofs.Ytkijlggnnbdeiaa
open Go.RowKit Go.WideShapes Go.ChangeShapes

inductive Sh where
  | bool
  | int (k : IntKind)
  | str
  | slice (s : Sh)
  | agg (l : List Sh)

def ShL (p : Sh → AV → Prop) : List Sh → List AV → Prop
  | [], cs => cs = []
  | s :: ss, cs => ∃ c r, cs = c :: r ∧ p s c ∧ ShL p ss r

mutual
def ShV : Sh → AV → Prop
  | .bool, x => ∃ b, x = .bool b
  | .int k, x => ∃ n, x = .int k n ∧ k.min ≤ n ∧ n ≤ k.max
  | .str, x => ∃ s : ByteArray, x = .str s ∧ s.size ≤ maxLen
  | .slice s, x => ∃ l : List AV, x = .list l ∧ l.length ≤ maxLen ∧ ∀ y ∈ l, ShV s y
  | .agg ss, x => ∃ cs : List AV, x = .agg cs ∧ ShW ss cs
def ShW : List Sh → List AV → Prop
  | [], cs => cs = []
  | s :: ss, cs => ∃ c r, cs = c :: r ∧ ShV s c ∧ ShW ss r
end

theorem ShW.app : ∀ {s1 s2 : List Sh} {c1 c2 : List AV}, ShW s1 c1 → ShW s2 c2 → ShW (s1 ++ s2) (c1 ++ c2)
  | [], s2, c1, c2, h, k => by
    have : c1 = [] := by unfold ShW at h; exact h
    subst this; exact k
  | s :: s1, s2, c1, c2, h, k => by
    unfold ShW at h
    obtain ⟨c, r, rfl, h1, h2⟩ := h
    show ShW (s :: (s1 ++ s2)) (c :: (r ++ c2))
    unfold ShW
    exact ⟨c, _, rfl, h1, h2.app k⟩

def shF (f : TypeId → Option (List Sh)) : List Field → Option (List Sh)
  | [] => some []
  | g :: fs => match f g.type, shF f fs with
    | some a, some b => some (a ++ b)
    | _, _ => none
def shA (a : List Sh) : Nat → List Sh
  | 0 => []
  | n + 1 => a ++ shA a n
def shU (d : Option TypeDesc) (c : Option (List Sh)) : Option Sh := match d with
  | some (.struct _) | some (.array _ _) => c.map .agg
  | _ => match c with
    | some [s] => some s
    | _ => none
def shC (P : Program) : Nat → TypeId → Option (List Sh)
  | 0, _ => none
  | d + 1, t => match P.underlying t with
    | some .bool => some [.bool]
    | some (.int k) => some [.int k]
    | some .string => some [.str]
    | some (.slice e) => (shU (P.underlying e) (shC P d e)).map fun s => [.slice s]
    | some (.struct fs) => shF (shC P d) fs.toList
    | some (.array n e) => (shC P d e).map fun a => shA a n
    | _ => none
def shV (P : Program) (d : Nat) (t : TypeId) : Option Sh := shU (P.underlying t) (shC P d t)

section
variable {P : Program}

theorem tyV_sh {d : Nat} {n : Nat} (ih : ∀ (d : Nat) (t : TypeId) (ss : List Sh) (cs : List AV), shC P n t = some ss → TyC P d t cs → ShW ss cs) {t : TypeId} {s : Sh} {x : AV} (h : shV P n t = some s) (k : TyV P d t x) : ShV s x := by
  unfold shV shU at h
  unfold TyV at k
  have one : ∀ {c : Option (List Sh)}, (match c with | some [s] => some s | _ => none) = some s → shC P n t = c → TyC P d t [x] → ShV s x := fun h hc k => by
    split at h
    · cases h
      have := ih d t _ _ hc k
      unfold ShW at this
      obtain ⟨c, r, h1, h2, _⟩ := this
      cases h1; exact h2
    · cases h
  split at h
  · rename_i hu
    rw [hu] at k
    obtain ⟨ss, h1, rfl⟩ := Option.map_eq_some_iff.1 h
    obtain ⟨cs, rfl, k⟩ := k
    unfold ShV
    exact ⟨cs, rfl, ih d t ss cs h1 k⟩
  · rename_i hu
    rw [hu] at k
    obtain ⟨ss, h1, rfl⟩ := Option.map_eq_some_iff.1 h
    obtain ⟨cs, rfl, k⟩ := k
    unfold ShV
    exact ⟨cs, rfl, ih d t ss cs h1 k⟩
  · rename_i h1 h2
    refine one h rfl ?_
    split at k
    · rename_i hu; exact absurd hu (h1 _)
    · rename_i hu; exact absurd hu (h2 _ _)
    · exact k

theorem tyC_sh : ∀ (n d : Nat) (t : TypeId) (ss : List Sh) (cs : List AV), shC P n t = some ss → TyC P d t cs → ShW ss cs
  | 0, d, t, ss, cs, h, _ => by simp [shC] at h
  | n + 1, 0, t, ss, cs, h, k => by unfold TyC at k; exact k.elim
  | n + 1, d + 1, t, ss, cs, h, k => by
    simp only [shC] at h
    unfold TyC at k
    split at h
    · rename_i hu; rw [hu] at k; cases h
      obtain ⟨b, rfl⟩ := k
      unfold ShW; exact ⟨_, _, rfl, by unfold ShV; exact ⟨b, rfl⟩, by unfold ShW; rfl⟩
    · rename_i hu; rw [hu] at k; cases h
      obtain ⟨b, rfl, h1⟩ := k
      unfold ShW; exact ⟨_, _, rfl, by unfold ShV; exact ⟨b, rfl, h1⟩, by unfold ShW; rfl⟩
    · rename_i hu; rw [hu] at k; cases h
      obtain ⟨b, rfl, h1⟩ := k
      unfold ShW; exact ⟨_, _, rfl, by unfold ShV; exact ⟨b, rfl, h1⟩, by unfold ShW; rfl⟩
    · rename_i e hu; rw [hu] at k
      obtain ⟨s, h1, rfl⟩ := Option.map_eq_some_iff.1 h
      obtain ⟨l, rfl, h2, h3⟩ := k
      unfold ShW
      exact ⟨_, _, rfl, by unfold ShV; exact ⟨l, rfl, h2, fun y hy => tyV_sh (tyC_sh n) h1 (h3 y hy)⟩, by unfold ShW; rfl⟩
    · rename_i fs hu; rw [hu] at k
      replace k : TyF P d fs.toList cs := k
      revert h k
      generalize fs.toList = l
      induction l generalizing ss cs with
      | nil =>
        intro h k
        simp only [shF] at h; cases h
        unfold TyF at k
        unfold ShW; exact k
      | cons g l ihl =>
        intro h k
        simp only [shF] at h
        unfold TyF at k
        obtain ⟨c1, c2, rfl, k1, k2⟩ := k
        split at h
        · rename_i a b h1 h2
          cases h
          exact (tyC_sh n d _ _ _ h1 k1).app (ihl _ _ h2 k2)
        · cases h
    · rename_i m e hu; rw [hu] at k
      replace k : TyA P d e m cs := k
      obtain ⟨a, h1, rfl⟩ := Option.map_eq_some_iff.1 h
      clear h hu
      induction m generalizing cs with
      | zero => unfold TyA at k; unfold shA ShW; exact k
      | succ m ihm =>
        unfold TyA at k
        obtain ⟨c1, c2, rfl, k1, k2⟩ := k
        exact (tyC_sh n d _ _ _ h1 k1).app (ihm _ k2)
    · cases h

variable {H : Type} {enc : TypeId × Value → H} {w : World} {base : Nat} {spare : Nat → Bool} {held : Bool}

/-- An argument that was read, by its shape. -/
theorem read_sh {S : List TypeId} (hS : S.all (okS P S) = true) {t : TypeId} (ht : S.contains t = true) {s : Sh} (hs : shV P 30 t = some s) {r : Reach} {b0 : Nat} {v : Value} {d : DataW H} {p : List MemPlace} (hv : Value.okWide P w r b0 t v) (h : DataW.Trod enc P w base spare held t v d p) :
    ∃ x, RI w (fun b => b < w.heap.size) x v ∧ ShV s x := by
  obtain ⟨x, fuel, h1, h2⟩ := read_arg hS (by simpa using ht) hv h
  exact ⟨x, h1, tyV_sh (tyC_sh 30) hs h2⟩

theorem list_enc {α : Type} {f : α → AV} {p : α → Prop} {s : Sh} (h : ∀ y, ShV s y → ∃ a, y = f a ∧ p a) {x : AV} (hx : ShV (.slice s) x) : ∃ l : List α, x = .list (l.map f) ∧ l.length ≤ maxLen ∧ ∀ a ∈ l, p a := by
  unfold ShV at hx
  obtain ⟨l, rfl, hl, hp⟩ := hx
  obtain ⟨l', h1, h2⟩ : ∃ l' : List α, l = l'.map f ∧ ∀ a ∈ l', p a := by
    clear hl
    induction l with
    | nil => exact ⟨[], rfl, fun a ha => by cases ha⟩
    | cons y l ih =>
      obtain ⟨l', e1, e2⟩ := ih fun z hz => hp z (List.mem_cons_of_mem _ hz)
      obtain ⟨a, e3, e4⟩ := h y (hp y List.mem_cons_self)
      refine ⟨a :: l', by rw [e1, e3]; rfl, fun b hb => ?_⟩
      rcases List.mem_cons.1 hb with rfl | hb
      · exact e4
      · exact e2 b hb
  subst h1
  exact ⟨l', rfl, by simpa using hl, h2⟩

theorem getD_all {α : Type} {p : α → Prop} {l : List α} (h : ∀ a ∈ l, p a) (d : α) (n : Nat) (hn : n < l.length) : p (l.getD n d) := by
  rw [List.getD_eq_getElem?_getD, List.getElem?_eq_getElem hn]
  exact h _ (List.getElem_mem hn)

/-- Arguments that lie as values, one after the other. -/
def ArgsL (w : World) : List AV → List Value → Prop
  | [], [] => True
  | x :: xs, v :: vs => RI w (fun b => b < w.heap.size) x v ∧ ArgsL w xs vs
  | _, _ => False
theorem ArgsL.get : ∀ {xs : List AV} {vs : List Value}, ArgsL w xs vs → vs.length = xs.length ∧ ∀ i x, xs[i]? = some x → RI w (fun b => b < w.heap.size) x (vs.getD i undef)
  | [], [], _ => ⟨rfl, fun i x h => by simp at h⟩
  | x :: xs, v :: vs, h => by
    obtain ⟨e1, e2⟩ := ArgsL.get h.2
    refine ⟨by simp [e1], fun i y hy => ?_⟩
    cases i with
    | zero => simp at hy; subst hy; exact h.1
    | succ i => exact e2 i y (by simpa using hy)
  | [], _ :: _, h => h.elim
  | _ :: _, [], h => h.elim
theorem law_calls {f : FuncId} {fr : Bool} {args : List AV} (h : FnF P f fr args (.bool true)) {vs : List Value} (hr : ArgsL w args vs) : Calls P f vs.toArray w fun e w' => e = .returned (.bool true) ∧ Below w.heap.size w w' := by
  obtain ⟨h1, h2⟩ := hr.get
  refine h.law (by simpa using h1) fun i x hx => ?_
  have := h2 i x hx
  simpa [Array.getD_eq_getD_getElem?, List.getD_eq_getElem?_getD] using this

end
end Go.Proofs.Ytkijlggnnbdeiaa
