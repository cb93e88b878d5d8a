/- Sorted books: joining is commutative and associative. No program. -/
import Derived.Test.YtkijlggnnbdeiaaOdFun
set_option linter.unusedVariables false
set_option linter.unusedSimpArgs false
namespace Go.Proofs.Ytkijlggnnbdeiaa
open Go.RowKit

/-- In the order of kinds. -/
def Srt (l : List An) : Prop := l.Pairwise (fun x y => x.kind < y.kind)
/-- What a book says of a kind. -/
def lk : List An → Int → Option An
  | [], _ => none
  | x :: l, k => if x.kind = k then some x else lk l k
def comb : Option An → Option An → Option An
  | none, y => y
  | x, none => x
  | some x, some y => some (sumQ x y)

theorem lk_kind : ∀ {l : List An} {k : Int} {x : An}, lk l k = some x → x.kind = k ∧ x ∈ l
  | [], k, x, h => by simp [lk] at h
  | y :: l, k, x, h => by
    simp only [lk] at h
    split at h
    · cases h; exact ⟨by assumption, List.mem_cons_self ..⟩
    · exact ⟨(lk_kind h).1, List.mem_cons_of_mem _ (lk_kind h).2⟩
theorem lk_none {l : List An} {k : Int} (h : ∀ x ∈ l, x.kind ≠ k) : lk l k = none := by
  cases hx : lk l k with
  | none => rfl
  | some x => exact absurd (lk_kind hx).1 (h x (lk_kind hx).2)
theorem lk_mem : ∀ {l : List An} (_ : Srt l) {x : An}, x ∈ l → lk l x.kind = some x
  | [], _, x, h => by simp at h
  | y :: l, hs, x, h => by
    obtain ⟨h1, h2⟩ := List.pairwise_cons.1 hs
    rcases List.mem_cons.1 h with rfl | h
    · simp [lk]
    · have := h1 x h
      simp only [lk]
      rw [if_neg (by omega)]; exact lk_mem h2 h
theorem srt_ext : ∀ {p q : List An}, Srt p → Srt q → (∀ k, lk p k = lk q k) → p = q
  | [], [], _, _, _ => rfl
  | [], y :: q, _, _, h => by have := h y.kind; simp [lk] at this
  | x :: p, [], _, _, h => by have := h x.kind; simp [lk] at this
  | x :: p, y :: q, hp, hq, h => by
    obtain ⟨p1, p2⟩ := List.pairwise_cons.1 hp
    obtain ⟨q1, q2⟩ := List.pairwise_cons.1 hq
    have hxy : x = y := by
      have e1 := h x.kind
      have e2 := h y.kind
      simp only [lk, if_true] at e1 e2
      by_cases hk : x.kind = y.kind
      · rw [if_pos hk.symm] at e1; exact Option.some.inj e1
      · rw [if_neg (fun h => hk h.symm)] at e1
        rw [if_neg hk] at e2
        have m1 := q1 _ (lk_kind e1.symm).2
        have m2 := p1 _ (lk_kind e2).2
        omega
    subst hxy
    congr 1
    refine srt_ext p2 q2 fun k => ?_
    have e := h k
    simp only [lk] at e
    by_cases hk : x.kind = k
    · subst hk
      rw [lk_none (fun z hz => by have := p1 z hz; omega), lk_none (fun z hz => by have := q1 z hz; omega)]
    · rw [if_neg hk, if_neg hk] at e; exact e
theorem merge_kinds : ∀ (p q : List An) (z : An), z ∈ mergeF p q → (∃ x ∈ p, z.kind = x.kind) ∨ ∃ y ∈ q, z.kind = y.kind
  | [], q, z, h => by rw [mergeF] at h; exact .inr ⟨z, h, rfl⟩
  | x :: p, [], z, h => by rw [mergeF] at h; · exact .inl ⟨z, h, rfl⟩
                           · simp
  | x :: p, y :: q, z, h => by
    have up : ∀ {p' q' : List An}, (∀ a ∈ p', a ∈ x :: p) → (∀ a ∈ q', a ∈ y :: q) → ((∃ x ∈ p', z.kind = x.kind) ∨ ∃ y ∈ q', z.kind = y.kind) → (∃ a ∈ x :: p, z.kind = a.kind) ∨ ∃ a ∈ y :: q, z.kind = a.kind := by
      rintro p' q' h1 h2 (⟨a, ha, e⟩ | ⟨a, ha, e⟩)
      · exact .inl ⟨a, h1 a ha, e⟩
      · exact .inr ⟨a, h2 a ha, e⟩
    rw [mergeF] at h
    split at h
    · rcases List.mem_cons.1 h with rfl | h
      · exact .inl ⟨_, List.mem_cons_self .., rfl⟩
      · exact up (fun a h => List.mem_cons_of_mem _ h) (fun a h => h) (merge_kinds p (y :: q) z h)
    · split at h
      · rcases List.mem_cons.1 h with rfl | h
        · exact .inr ⟨_, List.mem_cons_self .., rfl⟩
        · exact up (fun a h => h) (fun a h => List.mem_cons_of_mem _ h) (merge_kinds (x :: p) q z h)
      · rcases List.mem_cons.1 h with rfl | h
        · exact .inl ⟨x, List.mem_cons_self .., rfl⟩
        · exact up (fun a h => List.mem_cons_of_mem _ h) (fun a h => List.mem_cons_of_mem _ h) (merge_kinds p q z h)
  termination_by p q => p.length + q.length
theorem merge_nil_r (p : List An) : mergeF p [] = p := by cases p <;> simp [mergeF]
theorem merge_srt : ∀ (p q : List An), Srt p → Srt q → Srt (mergeF p q)
  | [], q, _, h => by rw [mergeF]; exact h
  | x :: p, [], h, _ => by rw [merge_nil_r]; exact h
  | x :: p, y :: q, hp, hq => by
    obtain ⟨p1, p2⟩ := List.pairwise_cons.1 hp
    obtain ⟨q1, q2⟩ := List.pairwise_cons.1 hq
    rw [mergeF]
    split
    · refine List.pairwise_cons.2 ⟨fun z hz => ?_, merge_srt p (y :: q) p2 hq⟩
      rcases merge_kinds _ _ z hz with ⟨a, ha, e⟩ | ⟨a, ha, e⟩
      · have := p1 a ha; omega
      · rcases List.mem_cons.1 ha with rfl | ha
        · omega
        · have := q1 a ha; omega
    · split
      · refine List.pairwise_cons.2 ⟨fun z hz => ?_, merge_srt (x :: p) q hp q2⟩
        rcases merge_kinds _ _ z hz with ⟨a, ha, e⟩ | ⟨a, ha, e⟩
        · rcases List.mem_cons.1 ha with rfl | ha
          · omega
          · have := p1 a ha; omega
        · have := q1 a ha; omega
      · refine List.pairwise_cons.2 ⟨fun z hz => ?_, merge_srt p q p2 q2⟩
        show x.kind < z.kind
        rcases merge_kinds _ _ z hz with ⟨a, ha, e⟩ | ⟨a, ha, e⟩
        · have := p1 a ha; omega
        · have := q1 a ha; omega
  termination_by p q => p.length + q.length
theorem lk_lt {l : List An} {k : Int} (h : ∀ x ∈ l, k < x.kind) : lk l k = none := lk_none fun x hx => by have := h x hx; omega
theorem merge_lk : ∀ (p q : List An), Srt p → Srt q → ∀ k, lk (mergeF p q) k = comb (lk p k) (lk q k)
  | [], q, _, h, k => by rw [mergeF]; simp [lk, comb]
  | x :: p, [], h, _, k => by rw [merge_nil_r]; cases lk (x :: p) k <;> simp [lk, comb]
  | x :: p, y :: q, hp, hq, k => by
    obtain ⟨p1, p2⟩ := List.pairwise_cons.1 hp
    obtain ⟨q1, q2⟩ := List.pairwise_cons.1 hq
    rw [mergeF]
    split
    · rename_i hlt
      have ih := merge_lk p (y :: q) p2 hq k
      simp only [lk] at ih ⊢
      by_cases hk : x.kind = k
      · rw [if_pos hk, if_pos hk, if_neg (by omega), lk_lt (l := q) (fun z hz => by have := q1 z hz; omega)]; rfl
      · rw [if_neg hk, if_neg hk]; exact ih
    · split
      · rename_i hlt
        have ih := merge_lk (x :: p) q hp q2 k
        simp only [lk] at ih ⊢
        by_cases hk : y.kind = k
        · rw [if_pos hk, if_pos hk, if_neg (by omega), lk_lt (l := p) (fun z hz => by have := p1 z hz; omega)]; rfl
        · rw [if_neg hk, if_neg hk]; exact ih
      · have he : y.kind = x.kind := by omega
        have ih := merge_lk p q p2 q2 k
        simp only [lk]
        by_cases hk : x.kind = k
        · rw [if_pos (show (sumQ x y).kind = k from hk), if_pos hk, if_pos (he.trans hk)]; rfl
        · rw [if_neg (show ¬ (sumQ x y).kind = k from hk), if_neg hk, if_neg (by omega)]; exact ih
  termination_by p q => p.length + q.length
theorem sum_comm {x y : An} (h : x.kind = y.kind) : sumQ x y = sumQ y x := by simp [sumQ, h, Int.add_comm]
theorem sum_assoc (x y z : An) : sumQ (sumQ x y) z = sumQ x (sumQ y z) := by simp [sumQ, Int.add_assoc]
theorem merge_comm {p q : List An} (hp : Srt p) (hq : Srt q) : mergeF p q = mergeF q p := by
  refine srt_ext (merge_srt _ _ hp hq) (merge_srt _ _ hq hp) fun k => ?_
  rw [merge_lk _ _ hp hq, merge_lk _ _ hq hp]
  cases h1 : lk p k with
  | none => cases h2 : lk q k <;> rfl
  | some x =>
    cases h2 : lk q k with
    | none => rfl
    | some y => exact congrArg some (sum_comm ((lk_kind h1).1.trans (lk_kind h2).1.symm))
theorem merge_assoc {p q r : List An} (hp : Srt p) (hq : Srt q) (hr : Srt r) : mergeF (mergeF p q) r = mergeF p (mergeF q r) := by
  refine srt_ext (merge_srt _ _ (merge_srt _ _ hp hq) hr) (merge_srt _ _ hp (merge_srt _ _ hq hr)) fun k => ?_
  rw [merge_lk _ _ (merge_srt _ _ hp hq) hr, merge_lk _ _ hp hq, merge_lk _ _ hp (merge_srt _ _ hq hr), merge_lk _ _ hq hr]
  cases lk p k <;> cases lk q k <;> cases lk r k <;> first | rfl | exact congrArg some (sum_assoc _ _ _)
/-- Right books: sorted, with kinds and counts that there may be. -/
def okQ (x : An) : Prop := 1 ≤ x.kind ∧ x.kind ≤ 14 ∧ 0 ≤ x.right ∧ 0 ≤ x.wrong ∧ x.right ≤ 1073741824 ∧ x.wrong ≤ 1073741824
theorem getD_get {l : List An} {n : Nat} (h : n < l.length) : l.getD n q0 = l[n] := by rw [List.getD_eq_getElem?_getD, List.getElem?_eq_getElem h]; rfl
theorem right_iff {l : List An} : RightP l ↔ Srt l ∧ ∀ x ∈ l, okQ x := by
  constructor
  · intro h
    refine ⟨?_, fun x hx => ?_⟩
    · rw [Srt, List.pairwise_iff_getElem]
      intro i j hi hj hij
      induction j with
      | zero => omega
      | succ j ih =>
        have h1 := (h (j + 1) hj).2.2.2.2.2.2
        rw [getD_get hj, show j + 1 - 1 = j from rfl, getD_get (by omega)] at h1
        by_cases he : i = j
        · subst he; omega
        · have := ih (by omega) (by omega); omega
    · obtain ⟨n, hn, rfl⟩ := List.getElem_of_mem hx
      have := h n hn
      unfold OkAt at this
      rw [getD_get hn] at this
      exact ⟨this.1, this.2.1, this.2.2.1, this.2.2.2.1, this.2.2.2.2.1, this.2.2.2.2.2.1⟩
  · rintro ⟨h1, h2⟩ n hn
    unfold OkAt
    rw [getD_get hn]
    obtain ⟨a, b, c, d, e, f⟩ := h2 _ (List.getElem_mem hn)
    refine ⟨a, b, c, d, e, f, ?_⟩
    by_cases h0 : n = 0
    · exact .inl h0
    · right
      rw [getD_get (by omega)]
      exact List.pairwise_iff_getElem.1 h1 (n - 1) n (by omega) hn (by omega)
theorem RightP.srt {l : List An} (h : RightP l) : Srt l := (right_iff.1 h).1
theorem RightP.ok {l : List An} (h : RightP l) : ∀ x ∈ l, okQ x := (right_iff.1 h).2
theorem RightP.bd {l : List An} (h : RightP l) : ∀ x ∈ l, BdQ x := fun x hx => by
  have := h.ok x hx; unfold okQ at this; unfold BdQ; omega
theorem right_nil : RightP [] := fun n hn => absurd hn (by simp)
/-- A sorted list of kinds 1 to 14 is short. -/
theorem srt_len : ∀ {l : List An} {a b : Int}, Srt l → (∀ x ∈ l, a ≤ x.kind ∧ x.kind ≤ b) → (l.length : Int) ≤ max 0 (b - a + 1)
  | [], a, b, _, _ => by simp; omega
  | x :: l, a, b, hs, h => by
    obtain ⟨h1, h2⟩ := List.pairwise_cons.1 hs
    have := srt_len (a := x.kind + 1) (b := b) h2 fun y hy => ⟨by have := h1 y hy; omega, (h y (List.mem_cons_of_mem _ hy)).2⟩
    have := h x (List.mem_cons_self ..)
    simp only [List.length_cons]
    omega
theorem RightP.len {l : List An} (h : RightP l) : l.length ≤ 14 := by
  have := srt_len (a := 1) (b := 14) h.srt fun x hx => ⟨(h.ok x hx).1, (h.ok x hx).2.1⟩
  omega
/-- What a sum has of right books. -/
def kindQ (x : An) : Prop := 1 ≤ x.kind ∧ x.kind ≤ 14 ∧ 0 ≤ x.right ∧ 0 ≤ x.wrong
theorem merge_kindQ : ∀ (p q : List An), (∀ x ∈ p, kindQ x) → (∀ x ∈ q, kindQ x) → ∀ x ∈ mergeF p q, kindQ x
  | [], q, _, h => by rw [mergeF]; exact h
  | x :: p, [], h, _ => by rw [merge_nil_r]; exact h
  | x :: p, y :: q, hp, hq => by
    have hp' := fun z hz => hp z (List.mem_cons_of_mem _ hz)
    have hq' := fun z hz => hq z (List.mem_cons_of_mem _ hz)
    rw [mergeF]
    split
    · intro z hz
      rcases List.mem_cons.1 hz with rfl | hz
      · exact hp _ (List.mem_cons_self ..)
      · exact merge_kindQ p (y :: q) hp' hq z hz
    · split
      · intro z hz
        rcases List.mem_cons.1 hz with rfl | hz
        · exact hq _ (List.mem_cons_self ..)
        · exact merge_kindQ (x :: p) q hp hq' z hz
      · intro z hz
        rcases List.mem_cons.1 hz with rfl | hz
        · have a := hp x (List.mem_cons_self ..)
          have b := hq y (List.mem_cons_self ..)
          unfold kindQ sumQ at *
          exact ⟨a.1, a.2.1, by have := a.2.2.1; have := b.2.2.1; simp only; omega, by have := a.2.2.2; have := b.2.2.2; simp only; omega⟩
        · exact merge_kindQ p q hp' hq' z hz
  termination_by p q => p.length + q.length
theorem okQ.kindQ {x : An} (h : okQ x) : kindQ x := ⟨h.1, h.2.1, h.2.2.1, h.2.2.2.1⟩
end Go.Proofs.Ytkijlggnnbdeiaa
