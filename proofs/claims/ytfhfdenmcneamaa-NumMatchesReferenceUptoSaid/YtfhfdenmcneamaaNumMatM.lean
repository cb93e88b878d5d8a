/- The reference's sets of whole numbers: plain mathematics. -/
import Derived.Test.YtfhfdenmcneamaaNumRdsM
set_option linter.unusedVariables false
set_option linter.unusedSimpArgs false
namespace Go.Proofs.Ytfhfdenmcneamaa
open Lib Go.RowKit
set_option maxRecDepth 100000
theorem opnds_at {g : Ex} {i : Nat} (h : i < (opnds g).length) : (opnds g).getD i exNone = g.a.getD i exNone := by
  unfold opnds at h ⊢
  by_cases c : 4 ≤ g.op ∧ g.op ≤ 10
  · rw [if_pos c] at h ⊢
    rw [List.getD_eq_getElem?_getD, List.getD_eq_getElem?_getD, List.getElem?_take, if_pos (by simp at h; omega)]
  · rw [if_neg c] at h; simp at h
theorem opnds_in {g : Ex} (h : 4 ≤ g.op ∧ g.op ≤ 10) : (opnds g).length = min 2 g.a.length := by unfold opnds; rw [if_pos h, List.length_take]
theorem opnds_out {g : Ex} (h : ¬ (4 ≤ g.op ∧ g.op ≤ 10)) : (opnds g).length = 0 := by unfold opnds; rw [if_neg h]; rfl
/-- What Added lays: x ahead of the first greater number, or behind all. -/
def addP (x : Int) : List Int → Bool → List Int
  | [], p => if p then [] else [x]
  | y :: l, p => if x < y ∧ p = false then x :: y :: addP x l true else y :: addP x l p
def addS (l : List Int) (x : Int) : List Int := if x ∈ l then l else addP x l false
theorem addP_true (x : Int) : ∀ l, addP x l true = l
  | [] => rfl
  | y :: l => by rw [addP, if_neg (by simp), addP_true x l]
theorem addP_mem {x z : Int} : ∀ {l : List Int}, z ∈ addP x l false ↔ z = x ∨ z ∈ l
  | [] => by simp [addP]
  | y :: l => by
    rw [addP]
    by_cases h : x < y
    · rw [if_pos ⟨h, rfl⟩, addP_true]; simp
    · rw [if_neg (by omega), List.mem_cons, addP_mem (l := l), List.mem_cons]
      constructor
      · rintro (h | h | h)
        · exact .inr (.inl h)
        · exact .inl h
        · exact .inr (.inr h)
      · rintro (h | h | h)
        · exact .inr (.inl h)
        · exact .inl h
        · exact .inr (.inr h)
theorem addP_lt {x : Int} : ∀ {l : List Int}, l.Pairwise (· < ·) → x ∉ l → (addP x l false).Pairwise (· < ·)
  | [], _, _ => by simp [addP]
  | y :: l, hp, hx => by
    obtain ⟨h1, h2⟩ := List.pairwise_cons.1 hp
    rw [addP]
    by_cases h : x < y
    · rw [if_pos ⟨h, rfl⟩, addP_true]
      exact List.pairwise_cons.2 ⟨fun z hz => by
        rcases List.mem_cons.1 hz with rfl | hz
        · exact h
        · have := h1 z hz; omega, hp⟩
    · rw [if_neg (by omega)]
      have hne : x ≠ y := fun e => hx (by simp [e])
      refine List.pairwise_cons.2 ⟨fun z hz => ?_, addP_lt h2 (fun e => hx (by simp [e]))⟩
      rcases addP_mem.1 hz with rfl | hz
      · omega
      · exact h1 z hz
theorem addS_mem {l : List Int} {x z : Int} : z ∈ addS l x ↔ z = x ∨ z ∈ l := by
  unfold addS
  by_cases h : x ∈ l
  · rw [if_pos h]
    exact ⟨.inr, fun q => by rcases q with rfl | q; exact h; exact q⟩
  · rw [if_neg h, addP_mem]
theorem addS_lt {l : List Int} {x : Int} (h : l.Pairwise (· < ·)) : (addS l x).Pairwise (· < ·) := by
  unfold addS
  by_cases hx : x ∈ l
  · rw [if_pos hx]; exact h
  · rw [if_neg hx]; exact addP_lt h hx
/-- Union. -/
def uniS (l m : List Int) : List Int := m.foldl addS l
theorem uniS_at {l m : List Int} {k : Nat} (h : k < m.length) : uniS l (m.take (k + 1)) = addS (uniS l (m.take k)) (m.getD k 0) := by
  unfold uniS
  have e : m.take (k + 1) = m.take k ++ [m[k]] := by rw [List.take_add_one, List.getElem?_eq_getElem h]; rfl
  rw [e, List.foldl_append, List.getD_eq_getElem?_getD, List.getElem?_eq_getElem h]; rfl
theorem uniS_mem {z : Int} : ∀ {m l : List Int}, z ∈ uniS l m ↔ z ∈ l ∨ z ∈ m
  | [], l => by simp [uniS]
  | x :: m, l => by
    have := uniS_mem (z := z) (m := m) (l := addS l x)
    unfold uniS at this ⊢
    rw [List.foldl_cons, this, addS_mem, List.mem_cons]
    constructor
    · rintro ((h | h) | h)
      · exact .inr (.inl h)
      · exact .inl h
      · exact .inr (.inr h)
    · rintro (h | h | h)
      · exact .inl (.inr h)
      · exact .inl (.inl h)
      · exact .inr h
theorem uniS_lt : ∀ {m l : List Int}, l.Pairwise (· < ·) → (uniS l m).Pairwise (· < ·)
  | [], l, h => h
  | x :: m, l, h => by
    have := uniS_lt (m := m) (addS_lt (x := x) h)
    unfold uniS at this ⊢
    exact this
/-- Strictly rising lists with the same members are equal. -/
theorem lt_eq : ∀ {l m : List Int}, l.Pairwise (· < ·) → m.Pairwise (· < ·) → (∀ x, x ∈ l ↔ x ∈ m) → l = m
  | [], [], _, _, _ => rfl
  | [], y :: m, _, _, h => by have := (h y).2 (by simp); cases this
  | x :: l, [], _, _, h => by have := (h x).1 (by simp); cases this
  | x :: l, y :: m, hl, hm, h => by
    obtain ⟨a1, a2⟩ := List.pairwise_cons.1 hl
    obtain ⟨b1, b2⟩ := List.pairwise_cons.1 hm
    have hxy : x = y := by
      have h1 := (h x).1 (by simp)
      have h2 := (h y).2 (by simp)
      rcases List.mem_cons.1 h1 with e | e
      · exact e
      · rcases List.mem_cons.1 h2 with e2 | e2
        · exact e2.symm
        · have := b1 x e; have := a1 y e2; omega
    subst hxy
    rw [lt_eq a2 b2 fun z => ?_]
    constructor
    · intro hz
      rcases List.mem_cons.1 ((h z).1 (by simp [hz])) with e | e
      · have := a1 z hz; omega
      · exact e
    · intro hz
      rcases List.mem_cons.1 ((h z).2 (by simp [hz])) with e | e
      · have := b1 z hz; omega
      · exact e
/-- How many conditions an operator of conditions has. -/
def pnO (n : Int) : Nat := if n = 5 then 1 else if n = 6 ∨ n = 7 then 2 else 0
theorem pnO_le (n : Int) : pnO n ≤ 2 := by unfold pnO; split <;> (try split) <;> omega
theorem partsA_in {c : Co} (h : 2 ≤ c.op ∧ c.op ≤ 4) : (partsA c).length = min 2 c.a.length := by unfold partsA; rw [if_pos (by omega), List.length_take]
theorem partsA_out {c : Co} (h : ¬ (2 ≤ c.op ∧ c.op ≤ 4)) : (partsA c).length = 0 := by unfold partsA; rw [if_neg (by omega)]; rfl
theorem partsC_pn {c : Co} : (partsC c).length = min (pnO c.op) c.c.length := by
  unfold partsC pnO
  split
  · rw [List.length_take]
  · split
    · rw [List.length_take]
    · simp
theorem take_at {α : Type} {l : List α} {n i : Nat} {d : α} (h : i < (l.take n).length) : (l.take n).getD i d = l.getD i d := by
  rw [List.getD_eq_getElem?_getD, List.getD_eq_getElem?_getD, List.getElem?_take, if_pos (by simp at h; omega)]
theorem partsA_at {c : Co} {i : Nat} (h : i < (partsA c).length) : (partsA c).getD i exNone = c.a.getD i exNone := by
  unfold partsA at h ⊢
  split at h
  · rename_i k; rw [if_pos k]; exact take_at h
  · simp at h
theorem partsC_at {c : Co} {i : Nat} (h : i < (partsC c).length) : (partsC c).getD i coNone = c.c.getD i coNone := by
  unfold partsC at h ⊢
  by_cases k : c.op = 5
  · rw [if_pos k] at h ⊢; exact take_at h
  · rw [if_neg k] at h ⊢
    by_cases k2 : c.op = 6 ∨ c.op = 7
    · rw [if_pos k2] at h ⊢; exact take_at h
    · rw [if_neg k2] at h; simp at h
theorem drop_at {l : List Int} {i : Nat} (h : i < l.length) : l.drop i = l.getD i 0 :: l.drop (i + 1) := by
  rw [List.drop_eq_getElem_cons h, List.getD_eq_getElem?_getD, List.getElem?_eq_getElem h]; rfl
theorem add_two {l o : List Int} {x : Int} {i : Nat} {p : Bool} (hq : addP x l false = o ++ addP x (l.drop i) p) (hi : i < l.length) (h : x < l.getD i 0) (hp : p = false) : addP x l false = ((o ++ [x]) ++ [l.getD i 0]) ++ addP x (l.drop (i + 1)) true := by
  rw [hq, drop_at hi, addP, if_pos ⟨h, hp⟩]; simp
theorem add_one {l o : List Int} {x : Int} {i : Nat} {p : Bool} (hq : addP x l false = o ++ addP x (l.drop i) p) (hi : i < l.length) (h : ¬ (x < l.getD i 0 ∧ p = false)) : addP x l false = (o ++ [l.getD i 0]) ++ addP x (l.drop (i + 1)) p := by
  rw [hq, drop_at hi, addP, if_neg h]; simp
theorem add_in {l : List Int} {x : Int} {i : Nat} (hi : i < l.length) (h : l.getD i 0 = x) : addS l x = l := by
  unfold addS
  rw [if_pos]
  rw [← h, List.getD_eq_getElem?_getD, List.getElem?_eq_getElem hi]; exact List.getElem_mem hi
theorem not_in {l : List Int} {x : Int} {i : Nat} (hne : ∀ j, j < i → ¬ l.getD j 0 = x) (hi : ¬ i < l.length) : ¬ x ∈ l := fun hm => by
  obtain ⟨j, hj, rfl⟩ := List.getElem_of_mem hm
  exact hne j (by omega) (by rw [List.getD_eq_getElem?_getD, List.getElem?_eq_getElem hj]; rfl)
theorem add_out {l o : List Int} {x : Int} {i : Nat} {p : Bool} (hne : ∀ j, j < i → ¬ l.getD j 0 = x) (hq : addP x l false = o ++ addP x (l.drop i) p) (hi : ¬ i < l.length) (hp : p = true) : addS l x = o := by
  unfold addS
  rw [if_neg (not_in hne hi), hq, List.drop_eq_nil_of_le (by omega), addP, if_pos hp, List.append_nil]
theorem add_out2 {l o : List Int} {x : Int} {i : Nat} {p : Bool} (hne : ∀ j, j < i → ¬ l.getD j 0 = x) (hq : addP x l false = o ++ addP x (l.drop i) p) (hi : ¬ i < l.length) (hp : ¬ p = true) : addS l x = o ++ [x] := by
  unfold addS
  rw [if_neg (not_in hne hi), hq, List.drop_eq_nil_of_le (by omega), addP, if_neg hp]
theorem no_stp {l : List Int} {i : Int} {n : Nat} (h : ∀ j, j < n → ¬ l.getD j 0 = i) (h2 : ¬ l.getD n 0 = i) : ∀ j, j < n + 1 → ¬ l.getD j 0 = i := fun j hj => by
  by_cases e : j = n
  · subst e; exact h2
  · exact h j (by omega)
theorem addS_len (l : List Int) (x : Int) : (addS l x).length ≤ l.length + 1 := by
  unfold addS
  split
  · omega
  · have h : ∀ (m : List Int) (p : Bool), (addP x m p).length ≤ m.length + 1 := by
      intro m
      induction m with
      | nil => intro p; cases p <;> simp [addP]
      | cons y m ih =>
        intro p
        rw [addP]
        split
        · rw [addP_true]; simp
        · have := ih p; simp only [List.length_cons]; omega
    exact h l false
theorem uniS_len : ∀ (m l : List Int), (uniS l m).length ≤ l.length + m.length
  | [], l => by simp [uniS]
  | x :: m, l => by
    have h1 := uniS_len m (addS l x)
    have h2 := addS_len l x
    unfold uniS at h1 ⊢
    rw [List.foldl_cons, List.length_cons]
    omega
theorem uniS_tl (l m : List Int) (i : Nat) : (uniS l (m.take i)).length ≤ l.length + i := Nat.le_trans (uniS_len _ _) (by simp; omega)
theorem rdS_le (l : List Int) : (rdS l).length ≤ l.length := by have := Lib.compact_length_le (sortI l); rw [sortI_len] at this; exact this
theorem rdLC_pc (c : Co) : (rdLC (partsC c)).length ≤ c.nodes := by have := rdC_len c; rw [rdC_eq, List.length_append] at this; omega
theorem bdI_at {a : List Int} (h : ∀ x ∈ a, -9223372036854775808 ≤ x ∧ x ≤ 9223372036854775807) (n : Nat) : -9223372036854775808 ≤ a.getD n 0 ∧ a.getD n 0 ≤ 9223372036854775807 := by
  rw [List.getD_eq_getElem?_getD]
  cases hn : a[n]? with
  | none => exact ⟨by decide, by decide⟩
  | some x => exact h x (List.mem_of_getElem? hn)
theorem uni_rd (A B : List Int) : uniS (rdS A) (rdS B) = rdS (A ++ B) := by
  refine lt_eq (uniS_lt (rdS_lt _)) (rdS_lt _) fun x => ?_
  rw [uniS_mem, rdS_mem, rdS_mem, rdS_mem, List.mem_append]
theorem rdS_comm (A B : List Int) : rdS (A ++ B) = rdS (B ++ A) := by
  refine lt_eq (rdS_lt _) (rdS_lt _) fun x => ?_
  rw [rdS_mem, rdS_mem, List.mem_append, List.mem_append]
  exact Or.comm
theorem rdS_one (n : Int) : rdS [n] = [n] := by
  refine lt_eq (rdS_lt _) (by simp) fun x => ?_
  rw [rdS_mem]
theorem rdS_none : rdS [] = [] := by
  refine lt_eq (rdS_lt _) (by simp) fun x => ?_
  rw [rdS_mem]
end Go.Proofs.Ytfhfdenmcneamaa
