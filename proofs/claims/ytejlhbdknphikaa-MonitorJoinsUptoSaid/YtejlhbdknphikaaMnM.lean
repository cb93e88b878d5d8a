/- Monitors: which code is right, what it says of a look, what is counted. No program. -/
import Derived.Test.YtejlhbdknphikaaMnEx
set_option linter.unusedVariables false
set_option linter.unusedSimpArgs false
namespace Go.Proofs.Ytejlhbdknphikaa
open Go.RowKit
set_option maxRecDepth 100000

structure Lk where
  vs : List Int
  ls : List Int
abbrev lk0 : Lk := ⟨[], []⟩
def encL (k : Lk) : AV := .agg [.list (k.vs.map encI), .list (k.ls.map encI)]
def OkI (l : List In) : Prop := ∀ x ∈ l, (-9223372036854775808 ≤ x.op ∧ x.op ≤ 9223372036854775807) ∧ -9223372036854775808 ≤ x.n ∧ x.n ≤ 9223372036854775807
theorem OkI.get {l : List In} (h : OkI l) (i : Nat) : (-9223372036854775808 ≤ (l.getD i in0).op ∧ (l.getD i in0).op ≤ 9223372036854775807) ∧ -9223372036854775808 ≤ (l.getD i in0).n ∧ (l.getD i in0).n ≤ 9223372036854775807 := by
  by_cases hi : i < l.length
  · rw [List.getD_eq_getElem?_getD, List.getElem?_eq_getElem hi]; exact h _ (List.getElem_mem hi)
  · rw [List.getD_eq_getElem?_getD, List.getElem?_eq_none (by omega)]; exact ⟨⟨by decide, by decide⟩, by decide, by decide⟩
theorem OkI.nil : OkI [] := fun x h => by cases h
theorem OkI.add {a b : List In} (h : OkI a) (k : OkI b) : OkI (a ++ b) := fun x hx => (List.mem_append.1 hx).elim (h x) (k x)
theorem OkI.one {op n : Int} (h : -9223372036854775808 ≤ op ∧ op ≤ 9223372036854775807) (k : -9223372036854775808 ≤ n ∧ n ≤ 9223372036854775807) : OkI [⟨op, n⟩] := fun x hx => by
  rw [List.mem_singleton.1 hx]; exact ⟨h, k⟩
theorem OkI.two {p q : List In × Bool} {op : Int} (hp : OkI p.1) (hq : OkI q.1) (h : -9223372036854775808 ≤ op ∧ op ≤ 9223372036854775807) : OkI (two p q op).1 := by
  unfold Go.Proofs.Ytejlhbdknphikaa.two
  split
  · exact (hp.add hq).add (.one h (by decide))
  · exact hp.add (.one h (by decide))
theorem cdX_ok {e : Ex} (he : OkE e) : OkI (cdX e).1 := by
  have hb := he.bd
  rw [cdX_eq]
  split
  · exact .one (by decide) (by omega)
  split
  · exact .one (by omega) (by omega)
  split
  · exact .nil
  · by_cases h : e.a.length < 2
    · rw [ops2_no h]; exact .nil
    · rw [ops2_in exNone h]
      exact .two (cdX_ok (he.get 0)) (cdX_ok (he.get 1)) (by omega)
termination_by e.nodes
decreasing_by all_goals exact nodes_get (by omega)
theorem cdC_ok {c : Co} (hc : OkC c) : OkI (cdC c).1 := by
  have hb := hc.bd
  rw [cdC_eq]
  split
  · exact .one (by decide) (by decide)
  split
  · by_cases h : c.a.length < 2
    · rw [ops2_no h]; exact .nil
    · rw [ops2_in exNone h]
      exact .two (cdX_ok (hc.getA 0)) (cdX_ok (hc.getA 1)) (by omega)
  split
  · by_cases h : c.c.length < 1
    · rw [ops1_no h]; exact .nil
    · rw [ops1_in coNone h]
      exact (cdC_ok (hc.get 0)).add (.one (by decide) (by decide))
  split
  · by_cases h : c.c.length < 2
    · rw [ops2_no h]; exact .nil
    · rw [ops2_in coNone h]
      exact .two (cdC_ok (hc.get 0)) (cdC_ok (hc.get 1)) (by omega)
  · exact .nil
termination_by c.nodes
decreasing_by all_goals exact nodes_getC (by omega)

/-! ### Which code is right, what it says -/
def goodI (l : List In) : Bool := decide (l.length ≤ 300) && (ranR [] [] l).1
def runB (k : Lk) (l : List In) : Bool := (ranR k.vs k.ls l).2.1 == 1
def errB (b : Bool) : Int := if b then 0 else 310
def OkL (k : Lk) : Prop := k.vs.length ≤ 9223372036854775807 ∧ k.ls.length ≤ 9223372036854775807 ∧ (∀ x ∈ k.vs, -9223372036854775808 ≤ x ∧ x ≤ 9223372036854775807) ∧ ∀ x ∈ k.ls, -9223372036854775808 ≤ x ∧ x ≤ 9223372036854775807
theorem OkL.nil : OkL lk0 := ⟨by decide, by decide, by simp, by simp⟩
theorem okL_get {x : List Lk} (h : ∀ k ∈ x, OkL k) (i : Nat) : OkL (x.getD i lk0) := by
  by_cases hi : i < x.length
  · rw [List.getD_eq_getElem?_getD, List.getElem?_eq_getElem hi]; exact h _ (List.getElem_mem hi)
  · rw [List.getD_eq_getElem?_getD, List.getElem?_eq_none (by omega)]; exact .nil
def cmpG (c : Co) : Bool := (cdC c).2 && goodI (cdC c).1
section
variable {vs ls : List Int} {l : List In}
theorem ran_left : (ranR vs ls l).1 = true ↔ (left vs ls l).length = 1 ∧ ((left vs ls l).getD 0 en0).t = true := by
  unfold ranR left
  split
  · rename_i s m h
    by_cases hm : m ≤ 40
    · rw [if_pos hm]
      split
      · rename_i q; simp only [true_iff]; exact ⟨q.1, q.2.1⟩
      · rename_i q; simp only [Bool.false_eq_true, false_iff]; exact fun k => q ⟨k.1, k.2, hm⟩
    · rw [if_neg hm, if_neg (fun k => hm k.2.2)]; simp
  · simp
theorem ran_val : (ranR vs ls l).2.1 = if (ranR vs ls l).1 = true then ((left vs ls l).getD 0 en0).v else 0 := by
  unfold ranR left
  split
  · rename_i s m h
    by_cases hm : m ≤ 40
    · rw [if_pos hm]
      split
      · rfl
      · rfl
    · rw [if_neg hm, if_neg (fun k => hm k.2.2)]; rfl
  · rfl
theorem good_t (h : l.length ≤ 300) (k : (left [] [] l).length = 1) (t : ((left [] [] l).getD 0 en0).t = true) : goodI l = true := by
  unfold goodI; rw [ran_left.2 ⟨k, t⟩]; simpa using h
theorem good_f1 (h : ¬ l.length ≤ 300) : goodI l = false := by unfold goodI; simp [h]
theorem ran_f (h : ¬ ((left vs ls l).length = 1 ∧ ((left vs ls l).getD 0 en0).t = true)) : (ranR vs ls l).1 = false := Bool.eq_false_iff.2 fun q => h (ran_left.1 q)
theorem good_f2 (k : ¬ (left [] [] l).length = 1) : goodI l = false := by unfold goodI; rw [ran_f (fun q => k q.1)]; simp
theorem good_f3 (t : ¬ ((left [] [] l).getD 0 en0).t = true) : goodI l = false := by unfold goodI; rw [ran_f (fun q => t q.2)]; simp
theorem good_len (h : goodI l = true) : l.length ≤ 300 := by unfold goodI at h; simp at h; exact h.1
theorem good_ran (h : goodI l = true) : (ranR [] [] l).1 = true := by unfold goodI at h; simp at h; exact h.2
end
section
variable {k : Lk} {l : List In}
theorem run_1 (h : ¬ (left k.vs k.ls l).length = 1) : runB k l = false := by unfold runB; rw [ran_val, if_neg (by rw [ran_left]; exact fun q => h q.1)]; rfl
theorem run_2 (h : ¬ ((left k.vs k.ls l).getD 0 en0).t = true) : runB k l = false := by unfold runB; rw [ran_val, if_neg (by rw [ran_left]; exact fun q => h q.2)]; rfl
theorem run_3 (h : (left k.vs k.ls l).length = 1) (t : ((left k.vs k.ls l).getD 0 en0).t = true) : runB k l = (((left k.vs k.ls l).getD 0 en0).v == 1) := by unfold runB; rw [ran_val, if_pos (ran_left.2 ⟨h, t⟩)]
end
/-! ### What is counted -/
def sees (ev off : Int) (i : Nat) : Bool := decide ((i : Int) % ev = off)
def lkN (ev off : Int) : Nat → Nat
  | 0 => 0
  | k + 1 => lkN ev off k + if sees ev off k then 1 else 0
def brN (x : List Lk) (l : List In) (ev off : Int) : Nat → Nat
  | 0 => 0
  | k + 1 => brN x l ev off k + if sees ev off k && !(runB (x.getD k lk0) l) then 1 else 0
theorem lkN_le (ev off : Int) : ∀ k, lkN ev off k ≤ k
  | 0 => Nat.le_refl _
  | k + 1 => by have := lkN_le ev off k; unfold lkN; split <;> omega
theorem brN_le (x : List Lk) (l : List In) (ev off : Int) : ∀ k, brN x l ev off k ≤ lkN ev off k
  | 0 => Nat.le_refl _
  | k + 1 => by
    have := brN_le x l ev off k
    unfold brN lkN
    cases sees ev off k <;> simp
    · exact this
    · split <;> omega
section
variable {x : List Lk} {l : List In} {ev off : Int} {k : Nat}
theorem lk_t (h : (k : Int) % ev = off) : ((lkN ev off (k + 1) : Nat) : Int) = (lkN ev off k : Int) + 1 := by rw [lkN, if_pos (by unfold sees; simpa using h)]; simp
theorem lk_f (h : ¬ (k : Int) % ev = off) : ((lkN ev off (k + 1) : Nat) : Int) = (lkN ev off k : Int) := by rw [lkN, if_neg (by unfold sees; simpa using h)]; simp
theorem br_t (h : (k : Int) % ev = off) (q : ¬ runB (x.getD k lk0) l = true) : ((brN x l ev off (k + 1) : Nat) : Int) = (brN x l ev off k : Int) + 1 := by rw [brN, if_pos (by unfold sees; rw [Bool.eq_false_iff.2 q]; simpa using h)]; simp
theorem br_r (q : runB (x.getD k lk0) l = true) : ((brN x l ev off (k + 1) : Nat) : Int) = (brN x l ev off k : Int) := by rw [brN, if_neg (by rw [q]; simp)]; simp
theorem br_f (h : ¬ (k : Int) % ev = off) : ((brN x l ev off (k + 1) : Nat) : Int) = (brN x l ev off k : Int) := by rw [brN, if_neg (by unfold sees; simp [h])]; simp
end
end Go.Proofs.Ytejlhbdknphikaa
