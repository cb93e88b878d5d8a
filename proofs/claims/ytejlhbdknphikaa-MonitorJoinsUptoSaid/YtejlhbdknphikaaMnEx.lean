/- What code of monitors does: entries, instructions, what is left. No program, but for two types' numbers. -/
import Derived.Test.YtejlhbdknphikaaMnDef
set_option linter.unusedVariables false
set_option linter.unusedSimpArgs false
namespace Go.Proofs.Ytejlhbdknphikaa
open Go.RowKit
set_option maxRecDepth 100000

/-- An entry of a stack: a truth (0 or 1), or a number. -/
structure En where
  t : Bool
  v : Int
deriving DecidableEq
abbrev en0 : En := ⟨false, 0⟩
/-- As the reference keeps it. -/
def encR (q : En) : AV := .agg [.bool q.t, .int .i64 q.v]
/-- As the monitor keeps it. -/
def encT (q : En) : AV := .iface (if q.t then 75 else 110) (if q.t then .bool (q.v == 1) else .int .i64 q.v)
theorem encT_ids (q : En) : idsOf (encT q) = [] := by obtain ⟨t, v⟩ := q; cases t <;> rfl
theorem encT_pl (q : En) : plainV (encT q) = true := by obtain ⟨t, v⟩ := q; cases t <;> rfl
theorem encT_t {q : En} (h : q.t = true) : encT q = .iface 75 (.bool (q.v == 1)) := by unfold encT; rw [if_pos h, if_pos h]
theorem encT_n {q : En} (h : ¬ q.t = true) : encT q = .iface 110 (.int .i64 q.v) := by unfold encT; rw [if_neg h, if_neg h]
theorem elemTt {l : List En} {k n : Nat} (h : k = n) (hn : n < l.length) (ht : (l.getD n en0).t = true) : (l.map encT)[k]? = some (.iface 75 (.bool ((l.getD n en0).v == 1))) := by rw [← encT_t ht]; exact elemN h hn
theorem elemTn {l : List En} {k n : Nat} (h : k = n) (hn : n < l.length) (ht : ¬ (l.getD n en0).t = true) : (l.map encT)[k]? = some (.iface 110 (.int .i64 (l.getD n en0).v)) := by rw [← encT_n ht]; exact elemN h hn
theorem rowT {L : List En} {n : Nat} {v : AV} {q : En} (h : v = encT q) : (L.map encT).take n ++ [v] = (L.take n ++ [q]).map encT := by subst h; simp [List.map_take]

def plainI (i : In) : Bool := if i.op = 1 then decide (-2147483648 ≤ i.n ∧ i.n ≤ 2147483647) else if i.op = 2 then decide (0 ≤ i.n ∧ i.n < 12) else if i.op = 3 then decide (0 ≤ i.n ∧ i.n < 4) else decide (i.n = 0)
def popsI (op : Int) : Nat := if op ≤ 3 then 0 else if op ≤ 10 then 2 else if op = 11 then 0 else if op ≤ 14 then 2 else if op = 15 then 1 else 2
def fromI (op : Int) : Bool := decide (15 ≤ op)
def toI (op : Int) : Bool := decide (11 ≤ op)
def bitI (b : Bool) : Int := if b then 1 else 0
def applyI (vs ls : List Int) (i : In) (a b : Int) : Int :=
  if i.op = 1 then wrap32 i.n else if i.op = 2 then wrap32 (getI vs i.n) else if i.op = 3 then wrap32 (getI ls i.n) else if i.op = 11 then 1
  else if i.op = 12 then bitI (decide (a < b)) else if i.op = 13 then bitI (decide (a ≤ b)) else if i.op = 14 then bitI (a == b) else if i.op = 15 then 1 - a
  else if i.op = 16 then a * b else if i.op = 17 then max a b else opV i.op a b
abbrev kS0 (t : Bool) (vs ls : List Int) (x : In) (s : List En) : List En := s ++ [En.mk t (applyI vs ls x 0 0)]
abbrev kS1 (t : Bool) (vs ls : List Int) (x : In) (s : List En) : List En := s.take (s.length - 1) ++ [En.mk t (applyI vs ls x (s.getD (s.length - 1) en0).v (s.getD (s.length - 1) en0).v)]
abbrev kS2 (t : Bool) (vs ls : List Int) (x : In) (s : List En) : List En := s.take (s.length - 2) ++ [En.mk t (applyI vs ls x (s.getD (s.length - 2) en0).v (s.getD (s.length - 1) en0).v)]
/-- One instruction. -/
def stepI (vs ls : List Int) (s : List En) (i : In) : Option (List En) :=
  if i.op < 1 ∨ 17 < i.op ∨ plainI i = false ∨ s.length < popsI i.op then none
  else if popsI i.op = 0 then some (s ++ [⟨toI i.op, applyI vs ls i 0 0⟩])
  else if popsI i.op = 1 then if (s.getD (s.length - 1) en0).t = fromI i.op then some (s.take (s.length - 1) ++ [⟨toI i.op, applyI vs ls i (s.getD (s.length - 1) en0).v (s.getD (s.length - 1) en0).v⟩]) else none
  else if (s.getD (s.length - 2) en0).t = fromI i.op ∧ (s.getD (s.length - 1) en0).t = fromI i.op then some (s.take (s.length - 2) ++ [⟨toI i.op, applyI vs ls i (s.getD (s.length - 2) en0).v (s.getD (s.length - 1) en0).v⟩]) else none
/-- Code: the entries left, and the greatest number of them. -/
def exec (vs ls : List Int) : List In → List En → Nat → Option (List En × Nat)
  | [], s, m => some (s, m)
  | i :: l, s, m => match stepI vs ls s i with
    | none => none
    | some s' => exec vs ls l s' (max m s'.length)
/-- What monitor.execute returns. -/
def left (vs ls : List Int) (l : List In) : List En := match exec vs ls l [] 0 with
  | some (s, m) => if m ≤ 40 then s else []
  | none => []
section
variable {vs ls : List Int} {s : List En} {i : In}
theorem st_op (h : i.op < 1 ∨ 17 < i.op) : stepI vs ls s i = none := by unfold stepI; rw [if_pos (by omega)]
theorem st_pl (h : ¬ plainI i = true) : stepI vs ls s i = none := by unfold stepI; rw [if_pos (by simp [h])]
theorem st_few (h : s.length < popsI i.op) : stepI vs ls s i = none := by unfold stepI; rw [if_pos (by omega)]
theorem nbad (h : ¬ (i.op < 1 ∨ 17 < i.op)) (hp : plainI i = true) (hl : popsI i.op ≤ s.length) : ¬ (i.op < 1 ∨ 17 < i.op ∨ plainI i = false ∨ s.length < popsI i.op) := by
  rintro (a | a | a | a)
  · omega
  · omega
  · rw [hp] at a; cases a
  · omega
theorem st_0 (h : ¬ (i.op < 1 ∨ 17 < i.op)) (hp : plainI i = true) (h0 : popsI i.op = 0) : stepI vs ls s i = some (s ++ [⟨toI i.op, applyI vs ls i 0 0⟩]) := by
  unfold stepI; rw [if_neg (nbad h hp (by omega)), if_pos h0]
theorem st_1 (h : ¬ (i.op < 1 ∨ 17 < i.op)) (hp : plainI i = true) (h0 : popsI i.op = 1) (hl : 1 ≤ s.length) (ht : (s.getD (s.length - 1) en0).t = fromI i.op) : stepI vs ls s i = some (s.take (s.length - 1) ++ [⟨toI i.op, applyI vs ls i (s.getD (s.length - 1) en0).v (s.getD (s.length - 1) en0).v⟩]) := by
  unfold stepI; rw [if_neg (nbad h hp (by omega)), if_neg (by omega), if_pos h0, if_pos ht]
theorem st_1n (h0 : popsI i.op = 1) (ht : ¬ (s.getD (s.length - 1) en0).t = fromI i.op) : stepI vs ls s i = none := by
  unfold stepI
  by_cases h : (i.op < 1 ∨ 17 < i.op ∨ plainI i = false ∨ s.length < popsI i.op)
  · rw [if_pos h]
  rw [if_neg h, if_neg (by omega), if_pos h0, if_neg ht]
theorem st_2 (h : ¬ (i.op < 1 ∨ 17 < i.op)) (hp : plainI i = true) (h0 : popsI i.op = 2) (hl : 2 ≤ s.length) (ht : (s.getD (s.length - 2) en0).t = fromI i.op) (hu : (s.getD (s.length - 1) en0).t = fromI i.op) : stepI vs ls s i = some (s.take (s.length - 2) ++ [⟨toI i.op, applyI vs ls i (s.getD (s.length - 2) en0).v (s.getD (s.length - 1) en0).v⟩]) := by
  unfold stepI; rw [if_neg (nbad h hp (by omega)), if_neg (by omega), if_neg (by omega), if_pos ⟨ht, hu⟩]
theorem st_2n (h0 : popsI i.op = 2) (ht : ¬ (s.getD (s.length - 2) en0).t = fromI i.op) : stepI vs ls s i = none := by
  unfold stepI
  by_cases h : (i.op < 1 ∨ 17 < i.op ∨ plainI i = false ∨ s.length < popsI i.op)
  · rw [if_pos h]
  rw [if_neg h, if_neg (by omega), if_neg (by omega), if_neg (fun h => ht h.1)]
theorem st_2m (h0 : popsI i.op = 2) (ht : ¬ (s.getD (s.length - 1) en0).t = fromI i.op) : stepI vs ls s i = none := by
  unfold stepI
  by_cases h : (i.op < 1 ∨ 17 < i.op ∨ plainI i = false ∨ s.length < popsI i.op)
  · rw [if_pos h]
  rw [if_neg h, if_neg (by omega), if_neg (by omega), if_neg (fun h => ht h.2)]
theorem pops0 (h : i.op ≤ 3 ∨ i.op = 11) : popsI i.op = 0 := by
  unfold popsI
  repeat' split
  all_goals omega
theorem pops1 (h : i.op = 15) : popsI i.op = 1 := by unfold popsI; rw [h]; decide
theorem pops2 (h : (4 ≤ i.op ∧ i.op ≤ 10) ∨ (12 ≤ i.op ∧ i.op ≤ 14) ∨ 15 < i.op) : popsI i.op = 2 := by
  unfold popsI
  repeat' split
  all_goals omega
theorem pops_cases (op : Int) : popsI op = 0 ∧ (op ≤ 3 ∨ op = 11) ∨ popsI op = 1 ∧ op = 15 ∨ popsI op = 2 ∧ ((4 ≤ op ∧ op ≤ 10) ∨ (12 ≤ op ∧ op ≤ 14) ∨ 15 < op) := by
  unfold popsI; repeat' split
  all_goals omega
theorem step_len {s' : List En} (h : stepI vs ls s i = some s') : s'.length + popsI i.op = s.length + 1 ∧ popsI i.op ≤ s.length := by
  unfold stepI at h
  split at h
  · cases h
  rename_i h0
  split at h
  · cases h; simp; omega
  split at h
  · split at h
    · cases h; simp; omega
    · cases h
  split at h
  · cases h; have := pops_cases i.op; simp; omega
  · cases h
end
section
variable {vs ls : List Int} {s : List En} {i : In}
theorem fr_f (h : i.op ≤ 14) {b : Bool} (hb : ¬ b = true) : b = fromI i.op := by unfold fromI; cases b; · symm; simp; omega
                                                                                 · exact absurd rfl hb
theorem fr_t (h : 15 ≤ i.op) {b : Bool} (hb : b = true) : b = fromI i.op := by subst hb; unfold fromI; symm; simpa using h
theorem fr_fn (h : i.op ≤ 14) {b : Bool} (hb : b = true) : ¬ b = fromI i.op := by subst hb; unfold fromI; intro q; have := of_decide_eq_true q.symm; omega
theorem fr_tn (h : 15 ≤ i.op) {b : Bool} (hb : ¬ b = true) : ¬ b = fromI i.op := by intro q; exact hb (by rw [q]; unfold fromI; simpa using h)
theorem to_f (h : i.op ≤ 10) : toI i.op = false := by unfold toI; simp; omega
theorem to_t (h : 11 ≤ i.op) : toI i.op = true := by unfold toI; simpa using h
theorem sA (h : 1 ≤ i.op ∧ i.op ≤ 3) (hp : plainI i = true) : stepI vs ls s i = some (s ++ [⟨false, applyI vs ls i 0 0⟩]) := by rw [st_0 (by omega) hp (pops0 (by omega)), to_f (by omega)]
theorem sB (h : i.op = 11) (hp : plainI i = true) : stepI vs ls s i = some (s ++ [⟨true, applyI vs ls i 0 0⟩]) := by rw [st_0 (by omega) hp (pops0 (by omega)), to_t (by omega)]
theorem sC (h : 4 ≤ i.op ∧ i.op ≤ 10) (hp : plainI i = true) (hl : 2 ≤ s.length) (ht : ¬ (s.getD (s.length - 2) en0).t = true) (hu : ¬ (s.getD (s.length - 1) en0).t = true) : stepI vs ls s i = some (s.take (s.length - 2) ++ [⟨false, applyI vs ls i (s.getD (s.length - 2) en0).v (s.getD (s.length - 1) en0).v⟩]) := by
  rw [st_2 (by omega) hp (pops2 (by omega)) hl (fr_f (by omega) ht) (fr_f (by omega) hu), to_f (by omega)]
theorem sD (h : 12 ≤ i.op ∧ i.op ≤ 14) (hp : plainI i = true) (hl : 2 ≤ s.length) (ht : ¬ (s.getD (s.length - 2) en0).t = true) (hu : ¬ (s.getD (s.length - 1) en0).t = true) : stepI vs ls s i = some (s.take (s.length - 2) ++ [⟨true, applyI vs ls i (s.getD (s.length - 2) en0).v (s.getD (s.length - 1) en0).v⟩]) := by
  rw [st_2 (by omega) hp (pops2 (by omega)) hl (fr_f (by omega) ht) (fr_f (by omega) hu), to_t (by omega)]
theorem sE (h : i.op = 15) (hp : plainI i = true) (hl : 1 ≤ s.length) (ht : (s.getD (s.length - 1) en0).t = true) : stepI vs ls s i = some (s.take (s.length - 1) ++ [⟨true, applyI vs ls i (s.getD (s.length - 1) en0).v (s.getD (s.length - 1) en0).v⟩]) := by
  rw [st_1 (by omega) hp (pops1 (by omega)) hl (fr_t (by omega) ht), to_t (by omega)]
theorem sF (h : 16 ≤ i.op ∧ i.op ≤ 17) (hp : plainI i = true) (hl : 2 ≤ s.length) (ht : (s.getD (s.length - 2) en0).t = true) (hu : (s.getD (s.length - 1) en0).t = true) : stepI vs ls s i = some (s.take (s.length - 2) ++ [⟨true, applyI vs ls i (s.getD (s.length - 2) en0).v (s.getD (s.length - 1) en0).v⟩]) := by
  rw [st_2 (by omega) hp (pops2 (by omega)) hl (fr_t (by omega) ht) (fr_t (by omega) hu), to_t (by omega)]
theorem noC (h : (4 ≤ i.op ∧ i.op ≤ 10) ∨ (12 ≤ i.op ∧ i.op ≤ 14)) (ht : (s.getD (s.length - 2) en0).t = true ∨ (s.getD (s.length - 1) en0).t = true) : stepI vs ls s i = none := by
  rcases ht with ht | ht
  · exact st_2n (pops2 (by omega)) (fr_fn (by omega) ht)
  · exact st_2m (pops2 (by omega)) (fr_fn (by omega) ht)
theorem noE (h : i.op = 15) (ht : ¬ (s.getD (s.length - 1) en0).t = true) : stepI vs ls s i = none := st_1n (pops1 h) (fr_tn (by omega) ht)
theorem noF (h : 16 ≤ i.op ∧ i.op ≤ 17) (ht : ¬ (s.getD (s.length - 2) en0).t = true ∨ ¬ (s.getD (s.length - 1) en0).t = true) : stepI vs ls s i = none := by
  rcases ht with ht | ht
  · exact st_2n (pops2 (by omega)) (fr_tn (by omega) ht)
  · exact st_2m (pops2 (by omega)) (fr_tn (by omega) ht)
theorem few2 (h : (4 ≤ i.op ∧ i.op ≤ 10) ∨ (12 ≤ i.op ∧ i.op ≤ 14) ∨ 15 < i.op) (hl : s.length < 2) : stepI vs ls s i = none := st_few (by rw [pops2 h]; exact hl)
theorem few1 (h : i.op = 15) (hl : s.length < 1) : stepI vs ls s i = none := st_few (by rw [pops1 h]; exact hl)
/-- What the reference returns. -/
def ranR (vs ls : List Int) (l : List In) : Bool × Int × Int := match exec vs ls l [] 0 with
  | some (s, m) => if s.length = 1 ∧ (s.getD 0 en0).t = true ∧ m ≤ 40 then (true, (s.getD 0 en0).v, (m : Int)) else (false, 0, (m : Int))
  | none => (false, 0, 0)
theorem ran_none {l : List In} (h : exec vs ls l [] 0 = none) : ranR vs ls l = (false, 0, 0) := by unfold ranR; rw [h]
theorem ran_ok {l : List In} {m : Nat} (h : exec vs ls l [] 0 = some (s, m)) (h1 : s.length = 1) (h2 : (s.getD 0 en0).t = true) (h3 : m ≤ 40) : ranR vs ls l = (true, (s.getD 0 en0).v, (m : Int)) := by unfold ranR; rw [h]; simp only; rw [if_pos ⟨h1, h2, h3⟩]
theorem ran_no {l : List In} {m : Nat} (h : exec vs ls l [] 0 = some (s, m)) (h1 : ¬ (s.length = 1 ∧ (s.getD 0 en0).t = true ∧ m ≤ 40)) : ranR vs ls l = (false, 0, (m : Int)) := by unfold ranR; rw [h]; simp only; rw [if_neg h1]
end
/-- What remains to be carried out. -/
theorem exec_at {vs ls : List Int} {l : List In} {k : Nat} {s : List En} {m : Nat} (hk : k < l.length) : exec vs ls (l.drop k) s m = match stepI vs ls s (l.getD k in0) with
    | none => none
    | some s' => exec vs ls (l.drop (k + 1)) s' (max m s'.length) := by
  rw [List.drop_eq_getElem_cons hk, exec]
  simp [List.getD_eq_getElem?_getD, List.getElem?_eq_getElem hk]
theorem exec_no {vs ls : List Int} {l : List In} {k : Nat} {s : List En} {m : Nat} (hk : k < l.length) (h : stepI vs ls s (l.getD k in0) = none) : exec vs ls (l.drop k) s m = none := by rw [exec_at hk, h]
theorem exec_yes {vs ls : List Int} {l : List In} {k : Nat} {s s' : List En} {m : Nat} (hk : k < l.length) (h : stepI vs ls s (l.getD k in0) = some s') : exec vs ls (l.drop k) s m = exec vs ls (l.drop (k + 1)) s' (max m s'.length) := by rw [exec_at hk, h]
theorem exec_end {vs ls : List Int} {l : List In} {k : Nat} {s : List En} {m : Nat} (hk : ¬ k < l.length) : exec vs ls (l.drop k) s m = some (s, m) := by rw [List.drop_of_length_le (by omega)]; rfl
theorem exec_most {vs ls : List Int} : ∀ {l : List In} {s : List En} {m : Nat} {r : List En × Nat}, exec vs ls l s m = some r → m ≤ r.2
  | [], s, m, r, h => by cases h; exact Nat.le_refl _
  | i :: l, s, m, r, h => by
    rw [exec] at h
    split at h
    · cases h
    · exact Nat.le_trans (Nat.le_max_left _ _) (exec_most h)
theorem left_none {vs ls : List Int} {l : List In} (h : exec vs ls l [] 0 = none) : [] = left vs ls l := by unfold left; rw [h]
theorem left_big {vs ls : List Int} {l l' : List In} {s : List En} {m : Nat} (h : exec vs ls l [] 0 = exec vs ls l' s m) (hm : 40 < m) : [] = left vs ls l := by
  unfold left
  rw [h]
  split
  · rename_i r k q
    have := exec_most q
    rw [if_neg (by simp only at this; omega)]
  · rfl
theorem left_some {vs ls : List Int} {l : List In} {s : List En} {m : Nat} (h : exec vs ls l [] 0 = some (s, m)) (hm : m ≤ 40) : s = left vs ls l := by unfold left; rw [h]; simp only; rw [if_pos hm]
section
variable {i : In}
theorem pl1 (h : i.op = 1) : plainI i = decide (-2147483648 ≤ i.n ∧ i.n ≤ 2147483647) := by unfold plainI; rw [if_pos h]
theorem pl2 (h : i.op = 2) : plainI i = decide (0 ≤ i.n ∧ i.n < 12) := by unfold plainI; rw [if_neg (by omega), if_pos h]
theorem pl3 (h : i.op = 3) : plainI i = decide (0 ≤ i.n ∧ i.n < 4) := by unfold plainI; rw [if_neg (by omega), if_neg (by omega), if_pos h]
theorem pl0 (h1 : ¬ i.op = 1) (h2 : ¬ i.op = 2) (h3 : ¬ i.op = 3) : plainI i = decide (i.n = 0) := by unfold plainI; rw [if_neg h1, if_neg h2, if_neg h3]
variable {vs ls : List Int} {a b : Int}
theorem ap1 (h : i.op = 1) : applyI vs ls i a b = wrap32 i.n := by unfold applyI; rw [if_pos h]
theorem ap2 (h : i.op = 2) : applyI vs ls i a b = wrap32 (getI vs i.n) := by unfold applyI; rw [if_neg (by omega), if_pos h]
theorem ap3 (h : i.op = 3) : applyI vs ls i a b = wrap32 (getI ls i.n) := by unfold applyI; rw [if_neg (by omega), if_neg (by omega), if_pos h]
theorem ap11 (h : i.op = 11) : applyI vs ls i a b = 1 := by unfold applyI; rw [if_neg (by omega), if_neg (by omega), if_neg (by omega), if_pos h]
theorem ap12 (h : i.op = 12) : applyI vs ls i a b = bitI (decide (a < b)) := by unfold applyI; rw [if_neg (by omega), if_neg (by omega), if_neg (by omega), if_neg (by omega), if_pos h]
theorem ap13 (h : i.op = 13) : applyI vs ls i a b = bitI (decide (a ≤ b)) := by unfold applyI; rw [if_neg (by omega), if_neg (by omega), if_neg (by omega), if_neg (by omega), if_neg (by omega), if_pos h]
theorem ap14 (h : i.op = 14) : applyI vs ls i a b = bitI (a == b) := by unfold applyI; rw [if_neg (by omega), if_neg (by omega), if_neg (by omega), if_neg (by omega), if_neg (by omega), if_neg (by omega), if_pos h]
theorem ap15 (h : i.op = 15) : applyI vs ls i a b = 1 - a := by unfold applyI; rw [if_neg (by omega), if_neg (by omega), if_neg (by omega), if_neg (by omega), if_neg (by omega), if_neg (by omega), if_neg (by omega), if_pos h]
theorem ap16 (h : i.op = 16) : applyI vs ls i a b = a * b := by unfold applyI; rw [if_neg (by omega), if_neg (by omega), if_neg (by omega), if_neg (by omega), if_neg (by omega), if_neg (by omega), if_neg (by omega), if_neg (by omega), if_pos h]
theorem ap17 (h : i.op = 17) : applyI vs ls i a b = max a b := by unfold applyI; rw [if_neg (by omega), if_neg (by omega), if_neg (by omega), if_neg (by omega), if_neg (by omega), if_neg (by omega), if_neg (by omega), if_neg (by omega), if_neg (by omega), if_pos h]
theorem ap4 (h : ¬ (i.op = 1 ∨ i.op = 2 ∨ i.op = 3) ∧ ¬ (11 ≤ i.op ∧ i.op ≤ 17)) : applyI vs ls i a b = opV i.op a b := by unfold applyI; rw [if_neg (by omega), if_neg (by omega), if_neg (by omega), if_neg (by omega), if_neg (by omega), if_neg (by omega), if_neg (by omega), if_neg (by omega), if_neg (by omega), if_neg (by omega)]
theorem bitI_bd (b : Bool) : 0 ≤ bitI b ∧ bitI b ≤ 1 := by cases b <;> decide
theorem opV_bd (op x y : Int) : -2147483648 ≤ opV op x y ∧ opV op x y ≤ 2147483647 := by
  have h := fun z => wrap32_bd z
  have b1 := h x; have b2 := h y
  unfold opV
  repeat' split
  all_goals first | exact h _ | omega
/-- Entries that code can leave. -/
def GoodE (q : En) : Prop := (q.t = true → q.v = 0 ∨ q.v = 1) ∧ -2147483648 ≤ q.v ∧ q.v ≤ 2147483647
def GoodS (s : List En) : Prop := ∀ x ∈ s, GoodE x
theorem GoodS.get {s : List En} (h : GoodS s) (k : Nat) : GoodE (s.getD k en0) := by
  by_cases hk : k < s.length
  · rw [List.getD_eq_getElem?_getD, List.getElem?_eq_getElem hk]; exact h _ (List.getElem_mem hk)
  · rw [getD_no hk]; exact ⟨(fun h => by cases h), by decide, by decide⟩
theorem applyI_good {x y : En} (hp : plainI i = true) (h : ¬ (i.op < 1 ∨ 17 < i.op)) (hx : GoodE x) (hy : GoodE y) (hf : x.t = fromI i.op ∨ popsI i.op = 0) (hg : y.t = fromI i.op ∨ popsI i.op ≤ 1) : GoodE ⟨toI i.op, applyI vs ls i x.v y.v⟩ := by
  unfold GoodE at *
  have w := fun a => wrap32_bd a
  have o := fun a b c => opV_bd a b c
  show (decide (11 ≤ i.op) = true → applyI vs ls i x.v y.v = 0 ∨ applyI vs ls i x.v y.v = 1) ∧ -2147483648 ≤ applyI vs ls i x.v y.v ∧ applyI vs ls i x.v y.v ≤ 2147483647
  rw [decide_eq_true_eq]
  by_cases h1 : i.op = 1
  · rw [ap1 h1]; have := w i.n; omega
  by_cases h2 : i.op = 2
  · rw [ap2 h2]; have := w (getI vs i.n); omega
  by_cases h3 : i.op = 3
  · rw [ap3 h3]; have := w (getI ls i.n); omega
  by_cases h11 : i.op = 11
  · rw [ap11 h11]; omega
  by_cases h12 : i.op = 12
  · rw [ap12 h12]; have := bitI_bd (decide (x.v < y.v)); omega
  by_cases h13 : i.op = 13
  · rw [ap13 h13]; have := bitI_bd (decide (x.v ≤ y.v)); omega
  by_cases h14 : i.op = 14
  · rw [ap14 h14]; have := bitI_bd (x.v == y.v); omega
  have hpop : 15 ≤ i.op → popsI i.op = 1 ∧ i.op = 15 ∨ popsI i.op = 2 ∧ 15 < i.op := by intro q; have := pops_cases i.op; omega
  have hfr : 15 ≤ i.op → fromI i.op = true := fun q => by unfold fromI; simp; exact q
  by_cases h15 : i.op = 15
  · rw [ap15 h15]
    have hx1 := hx.1 (by rcases hf with q | q; rw [q]; exact hfr (by omega); have := hpop (by omega); omega)
    omega
  by_cases h16 : i.op = 16
  · rw [ap16 h16]
    have hx1 := hx.1 (by rcases hf with q | q; rw [q]; exact hfr (by omega); have := hpop (by omega); omega)
    have hy1 := hy.1 (by rcases hg with q | q; rw [q]; exact hfr (by omega); have := hpop (by omega); omega)
    rcases hx1 with q | q <;> rcases hy1 with r | r <;> rw [q, r] <;> omega
  by_cases h17 : i.op = 17
  · rw [ap17 h17]
    have hx1 := hx.1 (by rcases hf with q | q; rw [q]; exact hfr (by omega); have := hpop (by omega); omega)
    have hy1 := hy.1 (by rcases hg with q | q; rw [q]; exact hfr (by omega); have := hpop (by omega); omega)
    omega
  rw [ap4 (by omega)]
  have := o i.op x.v y.v
  omega
theorem GoodS.nil : GoodS [] := fun x h => by cases h
theorem GoodS.add {s : List En} (h : GoodS s) {q : En} (hq : GoodE q) (k : Nat) : GoodS (s.take k ++ [q]) := fun x hx => by
  rcases List.mem_append.1 hx with hx | hx
  · exact h x (List.mem_of_mem_take hx)
  · rw [List.mem_singleton.1 hx]; exact hq
theorem step_good {s s' : List En} (h : GoodS s) (e : stepI vs ls s i = some s') : GoodS s' := by
  unfold stepI at e
  split at e
  · cases e
  rename_i h0
  have hp : plainI i = true := by cases q : plainI i; exact absurd (.inr (.inr (.inl q))) h0; rfl
  have h1 : ¬ (i.op < 1 ∨ 17 < i.op) := by omega
  have g0 : GoodE en0 := ⟨(fun h => by cases h), by decide, by decide⟩
  split at e
  · rename_i hz
    cases e
    have := h.add (applyI_good (vs := vs) (ls := ls) (x := en0) (y := en0) hp h1 g0 g0 (.inr hz) (.inr (by omega))) s.length
    rwa [List.take_length] at this
  split at e
  · split at e
    · rename_i ho ht
      cases e
      exact h.add (applyI_good (x := s.getD (s.length - 1) en0) (y := s.getD (s.length - 1) en0) hp h1 (h.get _) (h.get _) (.inl ht) (.inl ht)) _
    · cases e
  split at e
  · rename_i ht
    cases e
    exact h.add (applyI_good (x := s.getD (s.length - 2) en0) (y := s.getD (s.length - 1) en0) hp h1 (h.get _) (h.get _) (.inl ht.1) (.inl ht.2)) _
  · cases e
end
end Go.Proofs.Ytejlhbdknphikaa
