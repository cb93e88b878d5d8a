/- The meaning of code: what the code of a condition does is what the condition says. No program. -/
import Derived.Test.YtejlhbdknphikaaMnRf
set_option linter.unusedVariables false
set_option linter.unusedSimpArgs false
namespace Go.Proofs.Ytejlhbdknphikaa
open Go.RowKit
set_option maxRecDepth 100000

theorem le_maxN {l : List Nat} {x : Nat} (h : x ∈ l) : x ≤ maxN l := by
  induction l with
  | nil => cases h
  | cons y l ih =>
    unfold maxN at ih ⊢
    rw [List.foldr_cons]
    rcases List.mem_cons.1 h with rfl | h
    · omega
    · have := ih h; omega
theorem getD_mem {α : Type} {l : List α} {i : Nat} {d : α} (h : i < l.length) : l.getD i d ∈ l := by rw [List.getD_eq_getElem?_getD, List.getElem?_eq_getElem h]; exact List.getElem_mem h
theorem getD_take {α : Type} {l : List α} {i n : Nat} {d : α} (h : i < l.length) (hn : i < n) : l.getD i d ∈ l.take n := by
  have : (l.take n).getD i d = l.getD i d := by rw [List.getD_eq_getElem?_getD, List.getD_eq_getElem?_getD, List.getElem?_take, if_pos hn]
  rw [← this]; exact getD_mem (by rw [List.length_take]; omega)
theorem depth_opn {e x : Ex} (h : x ∈ opnds e) : depthE x + 1 ≤ depthE e := by
  rw [depthE_eq e]; have := le_maxN (List.mem_map_of_mem (f := depthE) h); omega
theorem depth_pA {c : Co} {x : Ex} (h : x ∈ partsA c) : depthE x + 1 ≤ depthC c := by
  rw [depthC_eq c]; have := le_maxN (List.mem_map_of_mem (f := depthE) h); omega
theorem depth_pC {c x : Co} (h : x ∈ partsC c) : depthC x + 1 ≤ depthC c := by
  rw [depthC_eq c]; have := le_maxN (List.mem_map_of_mem (f := depthC) h); omega
theorem depthE_pos (e : Ex) : 1 ≤ depthE e := by rw [depthE_eq]; omega
theorem depthC_pos (c : Co) : 1 ≤ depthC c := by rw [depthC_eq]; omega

/-! ### Steps on the last entries -/
section
variable {vs ls : List Int} {s : List En}
theorem at2 (x y : En) : (s ++ [x, y]).length = s.length + 2 ∧ (s ++ [x, y]).getD ((s ++ [x, y]).length - 2) en0 = x ∧ (s ++ [x, y]).getD ((s ++ [x, y]).length - 1) en0 = y ∧ (s ++ [x, y]).take ((s ++ [x, y]).length - 2) = s := by
  have hl : (s ++ [x, y]).length = s.length + 2 := by simp
  refine ⟨hl, ?_, ?_, ?_⟩
  · rw [hl, List.getD_eq_getElem?_getD, List.getElem?_append_right (by omega)]; simp
  · rw [hl, List.getD_eq_getElem?_getD, List.getElem?_append_right (by omega), show s.length + 2 - 1 - s.length = 1 by omega]; rfl
  · rw [hl]; simp
theorem at1 (x : En) : (s ++ [x]).length = s.length + 1 ∧ (s ++ [x]).getD ((s ++ [x]).length - 1) en0 = x ∧ (s ++ [x]).take ((s ++ [x]).length - 1) = s := by
  have hl : (s ++ [x]).length = s.length + 1 := by simp
  refine ⟨hl, ?_, ?_⟩
  · rw [hl, List.getD_eq_getElem?_getD, List.getElem?_append_right (by omega)]; simp
  · rw [hl]; simp
theorem step_num {op : Int} (h : 4 ≤ op ∧ op ≤ 10) (a b : Int) : stepI vs ls (s ++ [⟨false, a⟩, ⟨false, b⟩]) ⟨op, 0⟩ = some (s ++ [⟨false, opV op a b⟩]) := by
  obtain ⟨e1, e2, e3, e4⟩ := at2 (s := s) ⟨false, a⟩ ⟨false, b⟩
  rw [sC (i := ⟨op, 0⟩) h (by rw [pl0 (i := ⟨op, 0⟩) (by show ¬ op = 1; omega) (by show ¬ op = 2; omega) (by show ¬ op = 3; omega)]; rfl) (by omega) (by rw [e2]; simp) (by rw [e3]; simp), e2, e3, e4, ap4 (i := ⟨op, 0⟩) (by show ¬ (op = 1 ∨ op = 2 ∨ op = 3) ∧ ¬ (11 ≤ op ∧ op ≤ 17); omega)]
theorem step_cmp {op : Int} (h : 12 ≤ op ∧ op ≤ 14) (a b : Int) : stepI vs ls (s ++ [⟨false, a⟩, ⟨false, b⟩]) ⟨op, 0⟩ = some (s ++ [⟨true, applyI vs ls ⟨op, 0⟩ a b⟩]) := by
  obtain ⟨e1, e2, e3, e4⟩ := at2 (s := s) ⟨false, a⟩ ⟨false, b⟩
  rw [sD (i := ⟨op, 0⟩) h (by rw [pl0 (i := ⟨op, 0⟩) (by show ¬ op = 1; omega) (by show ¬ op = 2; omega) (by show ¬ op = 3; omega)]; rfl) (by omega) (by rw [e2]; simp) (by rw [e3]; simp), e2, e3, e4]
theorem step_lgc {op : Int} (h : 16 ≤ op ∧ op ≤ 17) (a b : Int) : stepI vs ls (s ++ [⟨true, a⟩, ⟨true, b⟩]) ⟨op, 0⟩ = some (s ++ [⟨true, applyI vs ls ⟨op, 0⟩ a b⟩]) := by
  obtain ⟨e1, e2, e3, e4⟩ := at2 (s := s) ⟨true, a⟩ ⟨true, b⟩
  rw [sF (i := ⟨op, 0⟩) h (by rw [pl0 (i := ⟨op, 0⟩) (by show ¬ op = 1; omega) (by show ¬ op = 2; omega) (by show ¬ op = 3; omega)]; rfl) (by omega) (by rw [e2]) (by rw [e3]), e2, e3, e4]
theorem step_neg (a : Int) : stepI vs ls (s ++ [⟨true, a⟩]) ⟨15, 0⟩ = some (s ++ [⟨true, 1 - a⟩]) := by
  obtain ⟨e1, e2, e3⟩ := at1 (s := s) ⟨true, a⟩
  rw [sE (i := ⟨15, 0⟩) rfl rfl (by omega) (by rw [e2]), e2, e3, ap15 (i := ⟨15, 0⟩) rfl]
end
/-- Code that leaves one entry more. -/
def Leaves (p : List In) (n : Nat) (t : Bool) (X : List Int → List Int → Int) : Prop := ∀ vs ls s m, exec vs ls p s m = some (s ++ [⟨t, X vs ls⟩], max m (s.length + n))
theorem Leaves.pair {p q : List In} {n1 n2 : Nat} {t tr : Bool} {X Y : List Int → List Int → Int} {op : Int} {F : List Int → List Int → Int → Int → Int} (hp : Leaves p n1 t X) (hq : Leaves q n2 t Y) (h1 : 1 ≤ n1)
    (S : ∀ vs ls s a b, stepI vs ls (s ++ [⟨t, a⟩, ⟨t, b⟩]) ⟨op, 0⟩ = some (s ++ [⟨tr, F vs ls a b⟩])) : Leaves (p ++ q ++ [⟨op, 0⟩]) (max n1 (n2 + 1)) tr (fun vs ls => F vs ls (X vs ls) (Y vs ls)) := fun vs ls s m => by
  rw [exec_app, exec_app, hp]
  simp only
  rw [hq]
  simp only
  rw [List.append_assoc, List.singleton_append, exec_some (S vs ls s _ _)]
  simp only [exec, List.length_append, List.length_cons, List.length_nil]
  congr 2
  omega
theorem Leaves.leaf {i : In} {t : Bool} {X : List Int → List Int → Int} (h : ∀ vs ls s, stepI vs ls s i = some (s ++ [⟨t, X vs ls⟩])) : Leaves [i] 1 t X := fun vs ls s m => by
  rw [exec_some (h vs ls s)]; simp [exec]
theorem Leaves.neg {p : List In} {n : Nat} {X : List Int → List Int → Int} (hp : Leaves p n true X) (h1 : 1 ≤ n) : Leaves (p ++ [⟨15, 0⟩]) n true (fun vs ls => 1 - X vs ls) := fun vs ls s m => by
  rw [exec_app, hp]
  simp only
  rw [exec_some (step_neg _)]
  simp only [exec, List.length_append, List.length_cons, List.length_nil]
  congr 2
  omega
theorem Leaves.is {p : List In} {n : Nat} {t : Bool} {X Y : List Int → List Int → Int} (h : Leaves p n t X) (e : ∀ vs ls, X vs ls = Y vs ls) : Leaves p n t Y := fun vs ls s m => by rw [h, e]
theorem plain_l {p q : List In} (h : ∀ i ∈ p ++ q, plainI i = true) : (∀ i ∈ p, plainI i = true) ∧ ∀ i ∈ q, plainI i = true := ⟨fun i hi => h i (List.mem_append_left _ hi), fun i hi => h i (List.mem_append_right _ hi)⟩
theorem two_inv {p q : List In × Bool} {op : Int} (h : (two p q op).2 = true) : p.2 = true ∧ q.2 = true ∧ (two p q op).1 = p.1 ++ q.1 ++ [⟨op, 0⟩] := by
  unfold Go.Proofs.Ytejlhbdknphikaa.two at h ⊢
  split at h
  · rename_i hp; rw [if_pos hp]; exact ⟨hp, h, rfl⟩
  · cases h
theorem codeX (e : Ex) (h : (cdX e).2 = true) (hp : ∀ i ∈ (cdX e).1, plainI i = true) : ∃ n, 1 ≤ n ∧ n ≤ depthE e ∧ Leaves (cdX e).1 n false (fun vs ls => evalE vs ls e) := by
  have hd := depthE_pos e
  by_cases h1 : e.op = 1
  · rw [cd1 h1] at hp ⊢
    exact ⟨1, Nat.le_refl _, hd, (Leaves.leaf fun vs ls s => sA (i := ⟨e.op, e.v⟩) (show 1 ≤ e.op ∧ e.op ≤ 3 by omega) (hp _ List.mem_cons_self)).is fun vs ls => by rw [ap1 (i := ⟨e.op, e.v⟩) h1, ev1 h1]⟩
  by_cases h2 : e.op = 2
  · rw [cd2 (.inl h2)] at hp ⊢
    exact ⟨1, Nat.le_refl _, hd, (Leaves.leaf fun vs ls s => sA (i := ⟨e.op, e.n⟩) (show 1 ≤ e.op ∧ e.op ≤ 3 by omega) (hp _ List.mem_cons_self)).is fun vs ls => by rw [ap2 (i := ⟨e.op, e.n⟩) h2, ev2 h2]⟩
  by_cases h3 : e.op = 3
  · rw [cd2 (.inr h3)] at hp ⊢
    exact ⟨1, Nat.le_refl _, hd, (Leaves.leaf fun vs ls s => sA (i := ⟨e.op, e.n⟩) (show 1 ≤ e.op ∧ e.op ≤ 3 by omega) (hp _ List.mem_cons_self)).is fun vs ls => by rw [ap3 (i := ⟨e.op, e.n⟩) h3, ev3 h3]⟩
  by_cases h4 : 4 ≤ e.op ∧ e.op ≤ 10
  · rw [cd4 h4] at h hp ⊢
    by_cases hl : e.a.length < 2
    · rw [ops2_no hl] at h; cases h
    rw [ops2_in exNone hl] at h hp ⊢
    obtain ⟨q1, q2, q3⟩ := two_inv h
    rw [q3] at hp ⊢
    obtain ⟨p12, _⟩ := plain_l hp
    obtain ⟨p1, p2⟩ := plain_l p12
    have ho : opnds e = e.a.take 2 := if_pos h4
    obtain ⟨n1, a1, a2, a3⟩ := codeX (e.a.getD 0 exNone) q1 p1
    obtain ⟨n2, b1, b2, b3⟩ := codeX (e.a.getD 1 exNone) q2 p2
    have d1 := depth_opn (e := e) (x := e.a.getD 0 exNone) (by rw [ho]; exact getD_take (by omega) (by omega))
    have d2 := depth_opn (e := e) (x := e.a.getD 1 exNone) (by rw [ho]; exact getD_take (by omega) (by omega))
    exact ⟨max n1 (n2 + 1), by omega, by omega, (a3.pair b3 a1 (fun vs ls s a b => step_num h4 a b)).is fun vs ls => ev4 h4 rfl rfl⟩
  · rw [cd0 h1 h2 h3 (by omega)] at h; cases h
termination_by e.nodes
decreasing_by all_goals exact nodes_get (by omega)
theorem bit_and (a b : Bool) : bitI a * bitI b = bitI (a && b) := by cases a <;> cases b <;> rfl
theorem bit_or (a b : Bool) : max (bitI a) (bitI b) = bitI (a || b) := by cases a <;> cases b <;> rfl
theorem bit_not (a : Bool) : 1 - bitI a = bitI (!a) := by cases a <;> rfl
theorem hd5_ {vs ls : List Int} {c : Co} (h : c.op = 5) : holdsC vs ls c = !(holdsC vs ls (c.c.getD 0 coNone)) := by
  cases q : holdsC vs ls (c.c.getD 0 coNone) with
  | true => exact (hd5f h q).symm
  | false => exact (hd5t h (by rw [q]; simp)).symm
theorem codeC (c : Co) (h : (cdC c).2 = true) (hp : ∀ i ∈ (cdC c).1, plainI i = true) : ∃ n, 1 ≤ n ∧ n ≤ depthC c ∧ Leaves (cdC c).1 n true (fun vs ls => bitI (holdsC vs ls c)) := by
  have hd := depthC_pos c
  by_cases h1 : c.op = 1
  · rw [cc1 h1] at hp ⊢
    exact ⟨1, Nat.le_refl _, hd, (Leaves.leaf fun vs ls s => sB (i := ⟨10 + c.op, 0⟩) (show 10 + c.op = 11 by omega) (hp _ List.mem_cons_self)).is fun vs ls => by rw [ap11 (i := ⟨10 + c.op, 0⟩) (show 10 + c.op = 11 by omega), ← hd1 h1]; rfl⟩
  by_cases h2 : c.op = 2 ∨ c.op = 3 ∨ c.op = 4
  · rw [cc2 h2] at h hp ⊢
    by_cases hl : c.a.length < 2
    · rw [ops2_no hl] at h; cases h
    rw [ops2_in exNone hl] at h hp ⊢
    obtain ⟨q1, q2, q3⟩ := two_inv h
    rw [q3] at hp ⊢
    obtain ⟨p12, _⟩ := plain_l hp
    obtain ⟨p1, p2⟩ := plain_l p12
    have ho : partsA c = c.a.take 2 := if_pos h2
    obtain ⟨n1, a1, a2, a3⟩ := codeX (c.a.getD 0 exNone) q1 p1
    obtain ⟨n2, b1, b2, b3⟩ := codeX (c.a.getD 1 exNone) q2 p2
    have d1 := depth_pA (c := c) (x := c.a.getD 0 exNone) (by rw [ho]; exact getD_take (by omega) (by omega))
    have d2 := depth_pA (c := c) (x := c.a.getD 1 exNone) (by rw [ho]; exact getD_take (by omega) (by omega))
    refine ⟨max n1 (n2 + 1), by omega, by omega, (a3.pair b3 a1 (fun vs ls s a b => step_cmp (by omega) a b)).is fun vs ls => ?_⟩
    rcases h2 with h2 | h2 | h2
    · rw [ap12 (i := ⟨10 + c.op, 0⟩) (show 10 + c.op = 12 by omega), hd2 h2 rfl rfl]
    · rw [ap13 (i := ⟨10 + c.op, 0⟩) (show 10 + c.op = 13 by omega), hd3 h2 rfl rfl]
    · rw [ap14 (i := ⟨10 + c.op, 0⟩) (show 10 + c.op = 14 by omega), hd4 h2 rfl rfl]
  by_cases h5 : c.op = 5
  · rw [cc5 h5] at h hp ⊢
    by_cases hl : c.c.length < 1
    · rw [ops1_no hl] at h; cases h
    rw [ops1_in coNone hl] at h hp ⊢
    obtain ⟨n1, a1, a2, a3⟩ := codeC (c.c.getD 0 coNone) h (plain_l hp).1
    have d1 := depth_pC (c := c) (x := c.c.getD 0 coNone) (by rw [show partsC c = c.c.take 1 from if_pos h5]; exact getD_take (by omega) (by omega))
    refine ⟨n1, a1, by omega, ?_⟩
    rw [show (10 + c.op) = 15 by omega]
    exact (a3.neg a1).is fun vs ls => by rw [bit_not, hd5_ h5]
  by_cases h6 : c.op = 6 ∨ c.op = 7
  · rw [cc6 h6] at h hp ⊢
    by_cases hl : c.c.length < 2
    · rw [ops2_no hl] at h; cases h
    rw [ops2_in coNone hl] at h hp ⊢
    obtain ⟨q1, q2, q3⟩ := two_inv h
    rw [q3] at hp ⊢
    obtain ⟨p12, _⟩ := plain_l hp
    obtain ⟨p1, p2⟩ := plain_l p12
    have ho : partsC c = c.c.take 2 := by unfold partsC; rw [if_neg h5, if_pos h6]
    obtain ⟨n1, a1, a2, a3⟩ := codeC (c.c.getD 0 coNone) q1 p1
    obtain ⟨n2, b1, b2, b3⟩ := codeC (c.c.getD 1 coNone) q2 p2
    have d1 := depth_pC (c := c) (x := c.c.getD 0 coNone) (by rw [ho]; exact getD_take (by omega) (by omega))
    have d2 := depth_pC (c := c) (x := c.c.getD 1 coNone) (by rw [ho]; exact getD_take (by omega) (by omega))
    refine ⟨max n1 (n2 + 1), by omega, by omega, (a3.pair b3 a1 (fun vs ls s a b => step_lgc (by omega) a b)).is fun vs ls => ?_⟩
    rcases h6 with h6 | h6
    · rw [ap16 (i := ⟨10 + c.op, 0⟩) (show 10 + c.op = 16 by omega), bit_and, hd6_ h6]
    · rw [ap17 (i := ⟨10 + c.op, 0⟩) (show 10 + c.op = 17 by omega), bit_or, hd7_ h6]
  · rw [cc0 (by omega)] at h; cases h
termination_by c.nodes
decreasing_by all_goals exact nodes_getC (by omega)
/-! ### Code that runs is plain; what code leaves -/
theorem exec_plain {vs ls : List Int} : ∀ {l : List In} {s : List En} {m : Nat} {r : List En × Nat}, exec vs ls l s m = some r → ∀ i ∈ l, plainI i = true
  | [], s, m, r, h, i, hi => by cases hi
  | j :: l, s, m, r, h, i, hi => by
    rw [exec] at h
    split at h
    · cases h
    · rename_i s' hs
      rcases List.mem_cons.1 hi with rfl | hi
      · cases q : plainI i with
        | true => rfl
        | false => rw [st_pl (by rw [q]; simp)] at hs; cases hs
      · exact exec_plain h i hi
theorem exec_len {vs ls : List Int} : ∀ {l : List In} {s s' : List En} {m m' : Nat}, exec vs ls l s m = some (s', m') → s'.length + (l.map fun i => popsI i.op).sum = s.length + l.length
  | [], s, s', m, m', h => by cases h; simp
  | j :: l, s, s', m, m', h => by
    rw [exec] at h
    split at h
    · cases h
    · rename_i s1 hs
      have h1 := step_len hs
      have h2 := exec_len h
      simp only [List.map_cons, List.sum_cons, List.length_cons]
      omega
theorem ran_inv {vs ls : List Int} {l : List In} (h : (ranR vs ls l).1 = true) : ∃ s m, exec vs ls l [] 0 = some (s, m) ∧ s.length = 1 ∧ m ≤ 40 := by
  unfold ranR at h
  split at h
  · rename_i s m q
    split at h
    · rename_i k; exact ⟨s, m, q, k.1, k.2.2⟩
    · cases h
  · cases h
theorem cmpG_t1' {c : Co} (h : cmpG c = true) : (cdC c).2 = true := by unfold cmpG at h; simp at h; exact h.1
theorem cmpG_t2' {c : Co} (h : cmpG c = true) : goodI (cdC c).1 = true := by unfold cmpG at h; simp at h; exact h.2
theorem good_code {c : Co} (h : cmpG c = true) : ∃ n, 1 ≤ n ∧ n ≤ depthC c ∧ n ≤ 40 ∧ Leaves (cdC c).1 n true (fun vs ls => bitI (holdsC vs ls c)) := by
  obtain ⟨s, m, q1, q2, q3⟩ := ran_inv (good_ran (cmpG_t2' h))
  obtain ⟨n, a1, a2, a3⟩ := codeC c (cmpG_t1' h) (exec_plain q1)
  have := a3 [] [] [] 0
  rw [q1] at this
  simp only [Option.some.injEq, Prod.mk.injEq, List.length_nil, Nat.zero_add, Nat.zero_max] at this
  exact ⟨n, a1, a2, by omega, a3⟩
theorem leaves_ran {p : List In} {n : Nat} {X : List Int → List Int → Int} (h : Leaves p n true X) (hn : n ≤ 40) (vs ls : List Int) : ranR vs ls p = (true, X vs ls, (n : Int)) := by
  have := h vs ls [] 0
  rw [List.nil_append, List.length_nil, Nat.zero_add, Nat.zero_max] at this
  rw [ran_ok this rfl rfl hn]; rfl
theorem leaves_good {p : List In} {n : Nat} {X : List Int → List Int → Int} (h : Leaves p n true X) (hn : n ≤ 40) (hl : p.length ≤ 300) : goodI p = true := by
  unfold goodI; rw [leaves_ran h hn]; simpa using hl
theorem bit_is (b : Bool) : (bitI b == 1) = b := by cases b <;> rfl
/-- The meaning of monitors. -/
theorem means {c : Co} (h : cmpG c = true) (k : Lk) : runB k (cdC c).1 = holdsC k.vs k.ls c := by
  obtain ⟨n, a1, a2, a3, a4⟩ := good_code h
  unfold runB; rw [leaves_ran a4 a3]; exact bit_is _
theorem most_le {c : Co} (h : cmpG c = true) : (ranR [] [] (cdC c).1).2.2 ≤ (depthC c : Int) := by
  obtain ⟨n, a1, a2, a3, a4⟩ := good_code h
  rw [leaves_ran a4 a3]; show (n : Int) ≤ _; omega
/-- Without its first instruction nothing is left. -/
theorem good_tail {l : List In} (h : goodI l = true) : goodI (l.drop 1) = false := by
  obtain ⟨s, m, q1, q2, q3⟩ := ran_inv (good_ran h)
  match l, q1 with
  | [], q1 => cases q1; simp at q2
  | i :: t, q1 =>
    rw [Bool.eq_false_iff]
    intro hg
    obtain ⟨s2, m2, r1, r2, r3⟩ := ran_inv (good_ran hg)
    have e1 := exec_len q1
    have e2 := exec_len (l := t) r1
    have hp : popsI i.op = 0 := by
      rw [exec] at q1
      split at q1
      · cases q1
      · rename_i s' hs; have := step_len hs; simp at this; omega
    simp only [List.map_cons, List.sum_cons, List.length_cons, List.length_nil] at e1 e2
    omega
/-- Without its last one, two entries or none. -/
theorem good_init {c : Co} (h : cmpG c = true) (h5 : ¬ c.op = 5) : goodI ((cdC c).1.take ((cdC c).1.length - 1)) = false := by
  rw [Bool.eq_false_iff]
  intro hg
  obtain ⟨s, m, q1, q2, q3⟩ := ran_inv (good_ran (cmpG_t2' h))
  obtain ⟨s2, m2, r1, r2, r3⟩ := ran_inv (good_ran hg)
  have hc := cmpG_t1' h
  have key : ∀ (p : List In) (op : Int), (cdC c).1 = p ++ [⟨op, 0⟩] → popsI op = 2 ∨ (p = [] ∧ popsI op = 0) → False := fun p op e hop => by
    rw [e] at q1 r1
    rw [List.length_append, List.length_singleton, Nat.add_sub_cancel, List.take_left] at r1
    have e1 := exec_len q1
    have e2 := exec_len r1
    simp only [List.map_append, List.map_cons, List.map_nil, List.sum_append, List.sum_cons, List.sum_nil, List.length_append, List.length_singleton, List.length_nil] at e1 e2
    rcases hop with hop | ⟨rfl, hop⟩
    · omega
    · cases r1; simp at r2
  by_cases h1 : c.op = 1
  · exact key [] (10 + c.op) (by rw [cc1 h1]; rfl) (.inr ⟨rfl, by rw [h1]; rfl⟩)
  by_cases h2 : c.op = 2 ∨ c.op = 3 ∨ c.op = 4
  · rw [cc2 h2] at hc
    by_cases hl : c.a.length < 2
    · rw [ops2_no hl] at hc; cases hc
    rw [ops2_in exNone hl] at hc
    exact key _ (10 + c.op) (by rw [cc2 h2, ops2_in exNone hl, (two_inv hc).2.2]) (.inl (pops2 (i := ⟨10 + c.op, 0⟩) (by show _ ∨ (12 ≤ 10 + c.op ∧ 10 + c.op ≤ 14) ∨ _; omega)))
  by_cases h6 : c.op = 6 ∨ c.op = 7
  · rw [cc6 h6] at hc
    by_cases hl : c.c.length < 2
    · rw [ops2_no hl] at hc; cases hc
    rw [ops2_in coNone hl] at hc
    exact key _ (10 + c.op) (by rw [cc6 h6, ops2_in coNone hl, (two_inv hc).2.2]) (.inl (pops2 (i := ⟨10 + c.op, 0⟩) (by show _ ∨ _ ∨ 15 < 10 + c.op; omega)))
  · rw [cc0 (by omega)] at hc; cases hc
end Go.Proofs.Ytejlhbdknphikaa
