/- Rules in use: what is left of a result. Plain mathematics. -/
import Derived.Test.YtioiffbnbjalcaaRuDef
import Derived.Test.YtioiffbnbjalcaaMvCrtM
import Derived.Test.YtioiffbnbjalcaaUsg
set_option linter.unusedVariables false
set_option linter.unusedSimpArgs false
namespace Go.Proofs.Ytioiffbnbjalcaa
open Go.RowKit
set_option maxRecDepth 100000
/-- The set of a rule's results. -/
def inR (r : Ru) : Ab := byS r.lo r.hi 1 255
def Lim (r : Ru) : Prop := -2147483648 ≤ r.lo ∧ r.lo ≤ r.hi ∧ r.hi ≤ 2147483647
theorem inR_good {r : Ru} (h : Lim r) : Good (inR r) := by_good h.1 h.2.1 h.2.2 (by decide) ⟨by decide, by decide⟩
noncomputable def metA (x y : Ab) : Ab := meetK x y (andS x.k y.k)
theorem met_good {x y : Ab} (hx : Good x) (hy : Good y) (h : meetI x y = true) : Good (metA x y) := (meet_ok hx hy (andS_mk hx.mk' hy.mk') h).1
def appR (r : Ru) (op : Int) (a b : Ab) : Prop := r.op = op ∧ r.alo ≤ a.lo ∧ a.hi ≤ r.ahi ∧ r.blo ≤ b.lo ∧ b.hi ≤ r.bhi
def putK (ks : List Int) (k : Int) : List Int := if k ∈ ks then ks else ks ++ [k]
theorem put_map : ∀ (ks : List Int) (k : Int), mpPut (ks.map encU) k (.bool true) = (putK ks k).map encU
  | [], k => by unfold putK; rw [if_neg (by simp)]; rfl
  | x :: ks, k => by
    have ih := put_map ks k
    unfold putK at ih ⊢
    show mpPut (.agg [.int .i64 x, .bool true] :: ks.map encU) k (.bool true) = _
    rw [mpPut]
    by_cases h : x = k
    · subst h
      rw [if_pos rfl, if_pos (by simp)]; rfl
    · rw [if_neg h, ih]
      by_cases h2 : k ∈ ks
      · rw [if_pos h2, if_pos (by simp [h2])]; rfl
      · rw [if_neg h2, if_neg (by simp [h2]; exact fun e => h e.symm)]; simp [encU]
theorem putK_len (ks : List Int) (k : Int) : (putK ks k).length ≤ ks.length + 1 := by unfold putK; split <;> simp
open Classical in
noncomputable def stepU (op : Int) (a b : Ab) (s : Ab × List Int) (r : Ru) : Ab × List Int :=
  if appR r op a b ∧ meetI s.1 (inR r) = true ∧ ¬ metA s.1 (inR r) = s.1 then (metA s.1 (inR r), putK s.2 r.id) else s
noncomputable def appL (op : Int) (a b : Ab) (l : List Ru) (s : Ab × List Int) : Ab × List Int := l.foldl (stepU op a b) s
theorem appL_at {op : Int} {a b : Ab} {l : List Ru} {s : Ab × List Int} {k : Nat} (h : k < l.length) : appL op a b (l.take (k + 1)) s = stepU op a b (appL op a b (l.take k) s) (l.getD k ru0) := by
  unfold appL
  have e : l.take (k + 1) = l.take k ++ [l[k]] := by rw [List.take_add_one, List.getElem?_eq_getElem h]; rfl
  rw [e, List.foldl_append, List.getD_eq_getElem?_getD, List.getElem?_eq_getElem h]; rfl
theorem app_skip {op : Int} {a b x : Ab} {ks : List Int} {l : List Ru} {s : Ab × List Int} {k : Nat} (h : k < l.length) (hs : (x, ks) = appL op a b (l.take k) s) (hn : ¬ appR (l.getD k ru0) op a b) : (x, ks) = appL op a b (l.take (k + 1)) s := by
  rw [appL_at h, ← hs, stepU, if_neg (fun q => hn q.1)]
theorem app_no {op : Int} {a b x : Ab} {ks : List Int} {l : List Ru} {s : Ab × List Int} {k : Nat} (h : k < l.length) (hs : (x, ks) = appL op a b (l.take k) s) (hn : ¬ (meetI x (inR (l.getD k ru0)) = true ∧ ¬ metA x (inR (l.getD k ru0)) = x)) : (x, ks) = appL op a b (l.take (k + 1)) s := by
  rw [appL_at h, ← hs, stepU, if_neg (fun q => hn q.2)]
theorem app_yes {op : Int} {a b x : Ab} {ks : List Int} {l : List Ru} {s : Ab × List Int} {k : Nat} (h : k < l.length) (hs : (x, ks) = appL op a b (l.take k) s) (h1 : appR (l.getD k ru0) op a b) (h2 : meetI x (inR (l.getD k ru0)) = true) (h3 : ¬ metA x (inR (l.getD k ru0)) = x) : (metA x (inR (l.getD k ru0)), putK ks (l.getD k ru0).id) = appL op a b (l.take (k + 1)) s := by
  rw [appL_at h, ← hs, stepU, if_pos ⟨h1, h2, h3⟩]
end Go.Proofs.Ytioiffbnbjalcaa
