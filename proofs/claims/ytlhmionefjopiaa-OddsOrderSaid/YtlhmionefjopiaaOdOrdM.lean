/- Learning in any order. No program. -/
import Derived.Test.YtlhmionefjopiaaOdMad
set_option linter.unusedVariables false
set_option linter.unusedSimpArgs false
namespace Go.Proofs.Ytlhmionefjopiaa
open Go.RowKit

def ansQ (n : Int) : An := oneQ (1 + n % 14) (decide (n ≥ 128))
def lrns (b : List An) (l : List Int) : List An := l.foldl (fun acc n => mergeF acc [ansQ n]) b
theorem srt_one (x : An) : Srt [x] := List.pairwise_singleton _ _
theorem srt_nil : Srt [] := List.Pairwise.nil
theorem lrns_srt : ∀ {l : List Int} {b : List An}, Srt b → Srt (lrns b l)
  | [], _, h => h
  | n :: l, b, h => lrns_srt (l := l) (merge_srt _ _ h (srt_one _))
theorem lrns_snoc (b : List An) (l : List Int) (n : Int) : lrns b (l ++ [n]) = mergeF (lrns b l) [ansQ n] := by simp [lrns]
theorem lrns_app (b : List An) (l k : List Int) : lrns b (l ++ k) = lrns (lrns b l) k := by simp [lrns]
theorem merge_nil_l (q : List An) : mergeF [] q = q := by rw [mergeF]
theorem lrns_merge : ∀ {l : List Int} {b : List An}, Srt b → lrns b l = mergeF b (lrns [] l)
  | [], b, _ => (merge_nil_r b).symm
  | n :: l, b, h => by
    have e1 : lrns b (n :: l) = lrns (mergeF b [ansQ n]) l := rfl
    have e2 : lrns [] (n :: l) = lrns [ansQ n] l := by show lrns (mergeF [] [ansQ n]) l = _; rw [merge_nil_l]
    rw [e1, e2, lrns_merge (merge_srt _ _ h (srt_one _)), lrns_merge (srt_one _), merge_assoc h (srt_one _) (lrns_srt srt_nil)]
theorem lrns_cons (n : Int) (l : List Int) : lrns [] (n :: l) = mergeF [ansQ n] (lrns [] l) := by
  rw [← lrns_merge (srt_one _)]
  show lrns (mergeF [] [ansQ n]) l = _
  rw [merge_nil_l]
theorem lrns_rev : ∀ (l : List Int), lrns [] l.reverse = lrns [] l
  | [] => rfl
  | n :: l => by rw [List.reverse_cons, lrns_snoc, lrns_rev l, lrns_cons, merge_comm (lrns_srt srt_nil) (srt_one _)]
theorem lrns_revB {b : List An} (h : Srt b) (l : List Int) : lrns b l.reverse = lrns b l := by rw [lrns_merge h, lrns_rev, ← lrns_merge h]
theorem lrns_cut {b : List An} (h : Srt b) (l : List Int) (c : Nat) : mergeF (lrns [] (l.take c)) (lrns b (l.drop c)) = lrns b l := by
  conv => rhs; rw [← List.take_append_drop c l]
  rw [lrns_app, lrns_merge (lrns_srt h), lrns_merge (l := l.take c) h, lrns_merge (l := l.drop c) h]
  rw [← merge_assoc (lrns_srt srt_nil) h (lrns_srt srt_nil), merge_comm (lrns_srt srt_nil) h]
theorem rightE_iff {l : List An} : rightE l = 0 ↔ RightP l := by
  unfold rightE
  split <;> rename_i h
  · exact ⟨fun _ => h, fun _ => rfl⟩
  · exact ⟨fun h' => absurd h' (by decide), fun h' => absurd h' h⟩
theorem lrn_ok {l : List An} {k : Int} {r : Bool} (hk : 1 ≤ k ∧ k ≤ 14) (h : RightP l) : RightP (lrnL l k r) ∧ (lrnE l k r = 0 → lrnL l k r = mergeF l [oneQ k r]) := by
  unfold lrnL lrnE joinL joinE
  have hk' : ¬ (k < 1 ∨ 14 < k) := by omega
  rw [if_neg hk', if_neg hk']
  by_cases h0 : rightE (mergeF l [oneQ k r]) = 0
  · rw [if_pos h0, if_pos h0]; exact ⟨rightE_iff.1 h0, fun _ => rfl⟩
  · rw [if_neg h0, if_neg h0]; exact ⟨right_nil, fun h => absurd h (by decide)⟩
/-- A book that learns s from B, as long as nothing is too big. -/
def StA (B : List An) (s : List Int) (l : List An) (e : Int) : Prop := RightP l ∧ (e = 0 → l = lrns B s)
def CB (l : List An) (n : Nat) : Prop := ∀ x ∈ l, x.right ≤ n ∧ x.wrong ≤ n
def StC (l : List Int) (cut i : Nat) (c : List An) : Prop := RightP c ∧ CB c i ∧ c = lrns [] (l.take (min i cut))
theorem mod14 (n : Int) : 1 ≤ 1 + n % 14 ∧ 1 + n % 14 ≤ 14 := by omega
theorem stA_go {B : List An} {s s' : List Int} {l : List An} {e : Int} (n : Int) (h : StA B s l e) (he : e = 0) (hs : s' = s ++ [n]) : StA B s' (lrnL l (1 + n % 14) (decide (n ≥ 128))) (lrnE l (1 + n % 14) (decide (n ≥ 128))) := by
  obtain ⟨h1, h2⟩ := lrn_ok (r := decide (n ≥ 128)) (mod14 n) h.1
  refine ⟨h1, fun h0 => ?_⟩
  rw [h2 h0, hs, lrns_snoc, ← h.2 he]; rfl
theorem stA_stay {B : List An} {s s' : List Int} {l : List An} {e : Int} (h : StA B s l e) (he : ¬ e = 0) : StA B s' l e := ⟨h.1, fun h => absurd h he⟩
theorem take_succ {l : List Int} {i : Nat} (h : i < l.length) : l.take (i + 1) = l.take i ++ [l.getD i 0] := by
  rw [List.take_add_one, List.getElem?_eq_getElem h, List.getD_eq_getElem?_getD, List.getElem?_eq_getElem h]; rfl
theorem rev_get {l : List Int} {i : Nat} (h : i < l.length) {k : Nat} (hk : k = l.length - 1 - i) : l.reverse.take (i + 1) = l.reverse.take i ++ [l.getD k 0] := by
  rw [take_succ (by simpa using h)]
  congr 2
  subst hk
  rw [List.getD_eq_getElem?_getD, List.getD_eq_getElem?_getD, List.getElem?_reverse (by omega)]
theorem drop_stay {l : List Int} {i cut : Nat} (h : i < cut) : (l.take (i + 1)).drop cut = (l.take i).drop cut := by
  rw [List.drop_eq_nil_of_le (by simp; omega), List.drop_eq_nil_of_le (by simp; omega)]
theorem drop_go {l : List Int} {i cut : Nat} (h : i < l.length) (h2 : ¬ i < cut) : (l.take (i + 1)).drop cut = (l.take i).drop cut ++ [l.getD i 0] := by
  rw [take_succ h, List.drop_append_of_le_length (by simp; omega)]
theorem CB.mono {l : List An} {n m : Nat} (h : CB l n) (hn : n ≤ m) : CB l m := fun x hx => by have := h x hx; omega
theorem merge_cb : ∀ (p q : List An) (n m : Nat), CB p n → CB q m → CB (mergeF p q) (n + m)
  | [], q, n, m, _, h => by rw [merge_nil_l]; exact h.mono (by omega)
  | x :: p, [], n, m, h, _ => by rw [merge_nil_r]; exact h.mono (by omega)
  | x :: p, y :: q, n, m, hp, hq => by
    have hp' : CB p n := fun z hz => hp z (List.mem_cons_of_mem _ hz)
    have hq' : CB q m := fun z hz => hq z (List.mem_cons_of_mem _ hz)
    have hx := hp x (List.mem_cons_self ..)
    have hy := hq y (List.mem_cons_self ..)
    rw [mergeF]
    split
    · intro z hz
      rcases List.mem_cons.1 hz with rfl | hz
      · omega
      · exact merge_cb p (y :: q) n m hp' hq z hz
    · split
      · intro z hz
        rcases List.mem_cons.1 hz with rfl | hz
        · omega
        · exact merge_cb (x :: p) q n m hp hq' z hz
      · intro z hz
        rcases List.mem_cons.1 hz with rfl | hz
        · simp only [sumQ]; omega
        · exact merge_cb p q n m hp' hq' z hz
  termination_by p q => p.length + q.length
theorem one_ok (k : Int) (r : Bool) (hk : 1 ≤ k ∧ k ≤ 14) : okQ (oneQ k r) ∧ CB [oneQ k r] 1 := by
  unfold okQ CB oneQ
  cases r <;> simp <;> omega
theorem right_of {l : List An} (h1 : Srt l) (h2 : ∀ x ∈ l, kindQ x) (h3 : ∀ x ∈ l, x.right ≤ 1073741824 ∧ x.wrong ≤ 1073741824) : RightP l :=
  right_iff.2 ⟨h1, fun x hx => by have := h2 x hx; have := h3 x hx; unfold kindQ at *; unfold okQ; omega⟩
theorem stC_go {l : List Int} {cut i : Nat} {c : List An} (h : StC l cut i c) (hi : i < l.length) (hc : i < cut) (hn : i < 1000) : StC l cut (i + 1) (lrnL c (1 + l.getD i 0 % 14) (decide (l.getD i 0 ≥ 128))) := by
  obtain ⟨h1, h2, h3⟩ := h
  have ho := one_ok (1 + l.getD i 0 % 14) (decide (l.getD i 0 ≥ 128)) (mod14 _)
  have hcb := merge_cb c [oneQ (1 + l.getD i 0 % 14) (decide (l.getD i 0 ≥ 128))] i 1 h2 ho.2
  have hr : RightP (mergeF c [oneQ (1 + l.getD i 0 % 14) (decide (l.getD i 0 ≥ 128))]) := right_of (merge_srt _ _ h1.srt (srt_one _)) (merge_kindQ _ _ (fun x hx => (h1.ok x hx).kindQ) (fun x hx => by simp at hx; subst hx; exact ho.1.kindQ)) fun x hx => by have := hcb x hx; omega
  have he : lrnL c (1 + l.getD i 0 % 14) (decide (l.getD i 0 ≥ 128)) = mergeF c [oneQ (1 + l.getD i 0 % 14) (decide (l.getD i 0 ≥ 128))] := by
    have := mod14 (l.getD i 0)
    unfold lrnL joinL
    rw [if_neg (by omega), if_pos (rightE_iff.2 hr)]
  rw [he]
  refine ⟨hr, hcb, ?_⟩
  rw [show min (i + 1) cut = min i cut + 1 by omega, show min i cut = i by omega, take_succ hi, lrns_snoc]
  rw [h3, show min i cut = i by omega]; rfl
theorem stC_stay {l : List Int} {cut i : Nat} {c : List An} (h : StC l cut i c) (hc : ¬ i < cut) : StC l cut (i + 1) c :=
  ⟨h.1, h.2.1.mono (by omega), by rw [show min (i + 1) cut = min i cut by omega]; exact h.2.2⟩
theorem fin_all {B : List An} {l : List Int} {cut i : Nat} {la lb lc ld : List An} {ea eb ed : Int} (hB0 : RightP B) (hA : StA B (l.take i) la ea) (hB : StA B (l.reverse.take i) lb eb) (hC : StC l cut i lc) (hD : StA B ((l.take i).drop cut) ld ed)
    (h1 : ea = 0) (h2 : eb = 0) (h3 : ed = 0) (hi : i = l.length) : la = lb ∧ mergeF lc ld = la ∧ mergeF ld lc = la ∧ rightE la = 0 := by
  have a1 := hA.2 h1
  have b1 := hB.2 h2
  have d1 := hD.2 h3
  have c1 := hC.2.2
  rw [hi] at a1 b1 c1 d1
  rw [List.take_length] at a1 d1
  rw [show l.length = l.reverse.length by simp, List.take_length, lrns_revB hB0.srt] at b1
  have c2 : lc = lrns [] (l.take cut) := by
    rw [c1]; congr 1
    rcases Nat.le_total cut l.length with h | h
    · rw [Nat.min_eq_right h]
    · rw [Nat.min_eq_left h, List.take_length, List.take_of_length_le h]
  have m : mergeF lc ld = la := by rw [c2, d1, lrns_cut hB0.srt, a1]
  exact ⟨a1.trans b1.symm, m, by rw [merge_comm hD.1.srt hC.1.srt, m], rightE_iff.2 hA.1⟩
theorem joinE_z {l : List An} (h : rightE l = 0) : joinE l = 0 := by rw [joinE, if_pos h]
theorem joinL_z {l : List An} (h : rightE l = 0) : joinL l = l := by rw [joinL, if_pos h]
theorem stC_zero (l : List Int) (cut : Nat) : StC l cut 0 [] := ⟨right_nil, fun x hx => by simp at hx, by simp [lrns]⟩
theorem stA_zero {B : List An} (h : RightP B) {s : List Int} (hs : s = []) : StA B s B 0 := ⟨h, fun _ => by rw [hs]; rfl⟩
end Go.Proofs.Ytlhmionefjopiaa
