/- What reports say together. Plain mathematics. -/
import Derived.Test.YtglfbdicclepcaaFdDef
set_option linter.unusedVariables false
set_option linter.unusedSimpArgs false
namespace Go.Proofs.Ytglfbdicclepcaa
open Go.RowKit
set_option maxRecDepth 100000
/-- A number of a report that came. -/
def encS (k : Int) : AV := .agg [.int .i64 k, .bool true]
/-- What a machine has reported. -/
structure Mc where
  id : Int
  seen : Int
  looked : Int
  broken : Int
  last : Int
  seqs : List Int
def putK (ks : List Int) (k : Int) : List Int := if k ∈ ks then ks else ks ++ [k]
theorem putK_len (ks : List Int) (k : Int) : (putK ks k).length ≤ ks.length + 1 := by unfold putK; split <;> simp
theorem put_map : ∀ (ks : List Int) (k : Int), mpPut (ks.map encS) k (.bool true) = (putK ks k).map encS
  | [], k => by unfold putK; rw [if_neg (by simp)]; rfl
  | x :: ks, k => by
    have ih := put_map ks k
    unfold putK at ih ⊢
    show mpPut (.agg [.int .i64 x, .bool true] :: ks.map encS) k (.bool true) = _
    rw [mpPut]
    by_cases h : x = k
    · subst h
      rw [if_pos rfl, if_pos (by simp)]; rfl
    · rw [if_neg h, ih]
      by_cases h2 : k ∈ ks
      · rw [if_pos h2, if_pos (by simp [h2])]; rfl
      · rw [if_neg h2, if_neg (by simp [h2]; exact fun e => h e.symm)]; simp [encS]
def newM (c : Ct) : Mc := ⟨c.machine, 0, 0, 0, 0, []⟩
def hitM (m : Mc) (c : Ct) : Mc := ⟨m.id, max m.seen c.seen, max m.looked c.looked, max m.broken c.broken, max m.last c.seq, putK m.seqs c.seq⟩
def addM : List Mc → Ct → List Mc
  | [], c => [hitM (newM c) c]
  | m :: T, c => if m.id = c.machine then hitM m c :: T else m :: addM T c
/-- A report that says something of a promise. -/
def RelC (keys : List Int) (p : Int) (c : Ct) : Prop := c.promise = p ∧ RightC keys c
instance (keys : List Int) (p : Int) (c : Ct) : Decidable (RelC keys p c) := inferInstanceAs (Decidable (_ ∧ _))
def stepG (keys : List Int) (p : Int) (T : List Mc) (c : Ct) : List Mc := if RelC keys p c then addM T c else T
def tblG (keys : List Int) (p : Int) (l : List Ct) : List Mc := l.foldl (stepG keys p) []
theorem tbl_at {keys : List Int} {p : Int} {l : List Ct} {k : Nat} (h : k < l.length) : tblG keys p (l.take (k + 1)) = stepG keys p (tblG keys p (l.take k)) (l.getD k ct0) := by
  unfold tblG
  have e : l.take (k + 1) = l.take k ++ [l[k]] := by rw [List.take_add_one, List.getElem?_eq_getElem h]; rfl
  rw [e, List.foldl_append, List.getD_eq_getElem?_getD, List.getElem?_eq_getElem h]; rfl
theorem right_zero {keys : List Int} {c : Ct} : rightE keys c = 0 ↔ RightC keys c := by unfold rightE; split <;> simp [*]
theorem tbl_skip {keys : List Int} {p : Int} {l : List Ct} {k : Nat} {T : List Mc} (h : k < l.length) (hT : T = tblG keys p (l.take k)) (hn : ¬ ((l.getD k ct0).promise = p ∧ rightE keys (l.getD k ct0) = 0)) : T = tblG keys p (l.take (k + 1)) := by
  rw [tbl_at h, ← hT, stepG, if_neg (fun q => hn ⟨q.1, right_zero.2 q.2⟩)]
theorem tbl_hit {keys : List Int} {p : Int} {l : List Ct} {k : Nat} {T T' : List Mc} (h : k < l.length) (hT : T = tblG keys p (l.take k)) (h1 : (l.getD k ct0).promise = p) (h2 : rightE keys (l.getD k ct0) = 0) (hT' : T' = addM T (l.getD k ct0)) : T' = tblG keys p (l.take (k + 1)) := by
  rw [tbl_at h, ← hT, stepG, if_pos ⟨h1, right_zero.1 h2⟩, hT']
/-- A machine's place in memory. -/
structure Lo where
  m : Mc
  sb : Nat
  qb : Nat
def ptrV (b : Nat) : Value := .pointer (some ⟨b, 0, none⟩)
def mpE (x : Lo) : AV := .agg [.int .i64 x.m.id, .val (ptrV x.sb)]
def mpT (T : List Lo) : List AV := T.map mpE
/-- The first place of a machine. -/
def FirstAt (T : List Lo) (n : Int) (k : Nat) (x : Lo) : Prop := T[k]? = some x ∧ x.m.id = n ∧ ∀ j y, j < k → T[j]? = some y → ¬ y.m.id = n
theorem first_or : ∀ (T : List Lo) (n : Int), (∀ x ∈ T, ¬ x.m.id = n) ∨ ∃ k x, FirstAt T n k x
  | [], n => .inl fun x h => by cases h
  | y :: T, n => by
    by_cases h : y.m.id = n
    · exact .inr ⟨0, y, rfl, h, fun j z hj => by omega⟩
    · rcases first_or T n with h2 | ⟨k, x, h1, h2, h3⟩
      · exact .inl fun x hx => by
          rcases List.mem_cons.1 hx with rfl | hx
          · exact h
          · exact h2 x hx
      · refine .inr ⟨k + 1, x, by simpa using h1, h2, fun j z hj hz => ?_⟩
        cases j with
        | zero => simp at hz; subst hz; exact h
        | succ j => exact h3 j z (by omega) (by simpa using hz)
theorem mp_none : ∀ {T : List Lo} {n : Int}, (∀ x ∈ T, ¬ x.m.id = n) → mpGet (mpT T) n = none
  | [], n, _ => rfl
  | y :: T, n, h => by
    show mpGet (mpE y :: mpT T) n = none
    unfold mpE
    rw [mpGet, if_neg (h y (by simp))]
    exact mp_none fun x hx => h x (by simp [hx])
theorem mp_some : ∀ {T : List Lo} {n : Int} {k : Nat} {x : Lo}, FirstAt T n k x → mpGet (mpT T) n = some (.val (ptrV x.sb))
  | [], n, k, x, h => by have := h.1; simp at this
  | y :: T, n, k, x, h => by
    show mpGet (mpE y :: mpT T) n = _
    unfold mpE
    rw [mpGet]
    cases k with
    | zero =>
      have h1 := h.1
      simp at h1
      subst h1
      rw [if_pos h.2.1]
    | succ k =>
      rw [if_neg (h.2.2 0 y (by omega) rfl)]
      exact mp_some (k := k) ⟨by simpa using h.1, h.2.1, fun j z hj hz => h.2.2 (j + 1) z (by omega) (by simpa using hz)⟩
theorem mp_put : ∀ {T : List Lo} {n : Int} {v : AV}, (∀ x ∈ T, ¬ x.m.id = n) → mpPut (mpT T) n v = mpT T ++ [.agg [.int .i64 n, v]]
  | [], n, v, _ => rfl
  | y :: T, n, v, h => by
    show mpPut (mpE y :: mpT T) n v = mpE y :: mpT T ++ _
    have ih := mp_put (T := T) (n := n) (v := v) fun x hx => h x (by simp [hx])
    unfold mpE
    rw [mpPut, if_neg (h y (by simp)), ih]; rfl
theorem mp_new {T : List Lo} {x : Lo} (h : ∀ y ∈ T, ¬ y.m.id = x.m.id) : mpPut (mpT T) x.m.id (.val (ptrV x.sb)) = mpT (T ++ [x]) := by
  rw [mp_put h]; simp [mpT, mpE]
def hitL (x : Lo) (c : Ct) : Lo := ⟨hitM x.m c, x.sb, x.qb⟩
theorem mp_set {T : List Lo} {k : Nat} {x : Lo} {c : Ct} (h : T[k]? = some x) : mpT (T.set k (hitL x c)) = mpT T := by
  unfold mpT
  rw [List.map_set]
  apply List.ext_getElem?
  intro i
  rw [List.getElem?_set]
  split
  · rename_i e
    subst e
    split
    · rw [List.getElem?_map, h]; rfl
    · rename_i hl; rw [List.getElem?_eq_none (by omega)]
  · rfl
theorem add_set : ∀ {T : List Lo} {k : Nat} {x : Lo} {c : Ct}, FirstAt T c.machine k x → (T.set k (hitL x c)).map Lo.m = addM (T.map Lo.m) c
  | [], k, x, c, h => by have := h.1; simp at this
  | y :: T, k, x, c, h => by
    cases k with
    | zero =>
      have h1 := h.1
      simp at h1
      subst h1
      simp only [List.set_cons_zero, List.map_cons, addM]
      rw [if_pos h.2.1]; rfl
    | succ k =>
      simp only [List.set_cons_succ, List.map_cons, addM]
      rw [if_neg (h.2.2 0 y (by omega) rfl), add_set (k := k) ⟨by simpa using h.1, h.2.1, fun j z hj hz => h.2.2 (j + 1) z (by omega) (by simpa using hz)⟩]
theorem first_new {T : List Lo} {x : Lo} {n : Int} (hx : x.m.id = n) (h : ∀ y ∈ T, ¬ y.m.id = n) : FirstAt (T ++ [x]) n T.length x :=
  ⟨by simp, hx, fun j y hj hy => by
    rw [List.getElem?_append_left hj] at hy
    exact h y (List.mem_of_getElem? hy)⟩
theorem add_new : ∀ {T : List Mc} {c : Ct}, (∀ y ∈ T, ¬ y.id = c.machine) → addM (T ++ [newM c]) c = addM T c
  | [], c, _ => by simp [addM, newM]
  | y :: T, c, h => by
    simp only [List.cons_append, addM]
    rw [if_neg (h y (by simp)), if_neg (h y (by simp)), add_new fun z hz => h z (by simp [hz])]
/-! ### Sums -/
def sumI : List Int → Int
  | [] => 0
  | x :: l => x + sumI l
theorem sumI_app : ∀ (l m : List Int), sumI (l ++ m) = sumI l + sumI m
  | [], m => by simp [sumI]
  | x :: l, m => by simp only [List.cons_append, sumI, sumI_app l m]; omega
theorem sumI_perm {l m : List Int} (h : l.Perm m) : sumI l = sumI m := by
  induction h with
  | nil => rfl
  | cons x _ ih => simp only [sumI, ih]
  | swap x y l => simp only [sumI]; omega
  | trans _ _ h1 h2 => exact h1.trans h2
theorem sumI_bd {M : Int} (hM : 0 ≤ M) : ∀ (l : List Int), (∀ x ∈ l, -M ≤ x ∧ x ≤ M) → -(l.length * M) ≤ sumI l ∧ sumI l ≤ l.length * M
  | [], _ => by simp [sumI]
  | x :: l, h => by
    have h1 := h x (by simp)
    have h2 := sumI_bd hM l fun y hy => h y (by simp [hy])
    simp only [sumI, List.length_cons]
    have : ((l.length + 1 : Nat) : Int) * M = l.length * M + M := by rw [Int.natCast_add, Int.add_mul]; simp
    omega
structure Evd where
  promise : Int
  machines : Int
  seen : Int
  looked : Int
  broken : Int
  missing : Int
  deriving DecidableEq
def ev0 : Evd := ⟨0, 0, 0, 0, 0, 0⟩
def encV (x : Evd) : AV := .agg [.int .i64 x.promise, .int .i64 x.machines, .int .i64 x.seen, .int .i64 x.looked, .int .i64 x.broken, .int .i64 x.missing]
def misM (m : Mc) : Int := m.last - (m.seqs.length : Int)
def evT (p : Int) (T : List Mc) : Evd := ⟨p, (T.length : Int), sumI (T.map Mc.seen), sumI (T.map Mc.looked), sumI (T.map Mc.broken), sumI (T.map misM)⟩
def gathS (keys : List Int) (l : List Ct) (p : Int) : Evd := evT p (tblG keys p l)
/-! ### Bounds -/
def BndM (n : Nat) (m : Mc) : Prop := (0 ≤ m.seen ∧ m.seen ≤ 1099511627776) ∧ (0 ≤ m.looked ∧ m.looked ≤ 1099511627776) ∧ (0 ≤ m.broken ∧ m.broken ≤ 1099511627776) ∧ (0 ≤ m.last ∧ m.last ≤ 1073741824) ∧ m.seqs.length ≤ n
theorem BndM.le {n k : Nat} {m : Mc} (h : BndM n m) (hn : n ≤ k) : BndM k m := ⟨h.1, h.2.1, h.2.2.1, h.2.2.2.1, Nat.le_trans h.2.2.2.2 hn⟩
theorem hit_bnd {n : Nat} {m : Mc} {c : Ct} {keys : List Int} (h : BndM n m) (hc : RightC keys c) : BndM (n + 1) (hitM m c) := by
  obtain ⟨h1, h2, h3, h4, h5⟩ := h
  obtain ⟨k1, k2, k3, k4, k5, k6, k7, k8, _⟩ := hc
  have := putK_len m.seqs c.seq
  unfold BndM hitM
  refine ⟨?_, ?_, ?_, ?_, ?_⟩ <;> simp only <;> omega
theorem add_bnd {n : Nat} {keys : List Int} {c : Ct} (hc : RightC keys c) : ∀ {T : List Mc}, (∀ m ∈ T, BndM n m) → (∀ m ∈ addM T c, BndM (n + 1) m) ∧ (addM T c).length ≤ T.length + 1
  | [], _ => ⟨fun m hm => by
      simp [addM] at hm; subst hm
      exact hit_bnd (n := n) ⟨by simp [newM], by simp [newM], by simp [newM], by simp [newM], by simp [newM]⟩ hc, by simp [addM]⟩
  | y :: T, h => by
    have ih := add_bnd hc (T := T) fun m hm => h m (by simp [hm])
    have hy := h y (by simp)
    unfold addM
    split
    · exact ⟨fun m hm => by
        rcases List.mem_cons.1 hm with rfl | hm
        · exact hit_bnd hy hc
        · exact (h m (by simp [hm])).le (by omega), by simp⟩
    · exact ⟨fun m hm => by
        rcases List.mem_cons.1 hm with rfl | hm
        · exact hy.le (by omega)
        · exact ih.1 m hm, by simp only [List.length_cons]; omega⟩
theorem tbl_bnd {keys : List Int} {p : Int} : ∀ (k : Nat) (l : List Ct), k ≤ l.length → (∀ m ∈ tblG keys p (l.take k), BndM k m) ∧ (tblG keys p (l.take k)).length ≤ k
  | 0, l, _ => by simp [tblG]
  | k + 1, l, h => by
    have ih := tbl_bnd (keys := keys) (p := p) k l (by omega)
    rw [tbl_at (by omega)]
    unfold stepG
    split
    · rename_i hr
      have := add_bnd hr.2 ih.1
      exact ⟨this.1, by omega⟩
    · exact ⟨fun m hm => (ih.1 m hm).le (by omega), by omega⟩
end Go.Proofs.Ytglfbdicclepcaa
