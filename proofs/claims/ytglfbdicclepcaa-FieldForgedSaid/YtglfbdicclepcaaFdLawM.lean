/- What the laws of chapter 32 say of evidence. Plain mathematics. -/
import Derived.Test.YtglfbdicclepcaaFdMdM
import Derived.Test.YtglfbdicclepcaaFdGat
set_option linter.unusedVariables false
set_option linter.unusedSimpArgs false
namespace Go.Proofs.Ytglfbdicclepcaa
open Go.RowKit
set_option maxRecDepth 100000
theorem oneIf_bd (L : List Ct) : 0 ≤ oneIf L ∧ oneIf L ≤ 1 := by unfold oneIf; split <;> omega
theorem sumN_nn {g : Nat → Int} {K : Nat} (h : ∀ n, n < K → 0 ≤ g n) : 0 ≤ sumN g K := by
  have := sumN_le (g := fun _ => 0) (h := g) (K := K) h
  rw [sumN_zero] at this; exact this
theorem sumN_ones : ∀ (K : Nat), sumN (fun _ => 1) K = (K : Int)
  | 0 => rfl
  | K + 1 => by rw [sumN, sumN_ones K]; omega
theorem mx_le2 {f g : Ct → Int} {L : List Ct} (h : ∀ c ∈ L, f c ≤ g c) : mx f L ≤ mx g L := by
  rcases mx_at f L 0 with e | ⟨c, hc, e⟩
  · unfold mx; rw [e]; exact (mx_ge g L 0).1
  · unfold mx; rw [e]; exact Int.le_trans (h c hc) ((mx_ge g L 0).2 c hc)
theorem seqs_mx {L : List Ct} (h : ∀ c ∈ L, 1 ≤ c.seq) : ((seqsOf L).length : Int) ≤ mx Ct.seq L := by
  have hs := nodup_sub (l := seqsOf L) (m := (List.range (mx Ct.seq L).toNat).map fun (i : Nat) => ((i : Nat) : Int) + 1) (seqs_nd L) fun x hx => by
    obtain ⟨c, hc, rfl⟩ := seqs_mem.1 hx
    have h1 := h c hc
    have h2 : c.seq ≤ mx Ct.seq L := (mx_ge Ct.seq L 0).2 c hc
    exact List.mem_map.2 ⟨(c.seq - 1).toNat, List.mem_range.2 (by omega), by omega⟩
  have := mx_nonneg Ct.seq L
  simp at hs; omega
def BdE (keys : List Int) (p : Int) (e : Evd) : Prop := e.promise = p ∧ 0 ≤ e.broken ∧ e.broken ≤ e.looked ∧ e.looked ≤ e.seen ∧ 0 ≤ e.missing ∧ 0 ≤ e.machines ∧ e.machines ≤ (keys.length : Int)
theorem gath_bd (keys : List Int) (l : List Ct) (p : Int) : BdE keys p (gathS keys l p) := by
  rw [gath_eq]
  have hR : ∀ (n : Nat) c, c ∈ relL keys p (n : Int) l → RightC keys c := fun n c hc => (rel_mem.1 hc).2.1.2
  refine ⟨rfl, sumN_nn fun n _ => mx_nonneg _ _, sumN_le fun n _ => mx_le2 fun c hc => (hR n c hc).2.2.2.2.2.1, sumN_le fun n _ => mx_le2 fun c hc => (hR n c hc).2.2.2.2.2.2.1, sumN_nn fun n _ => ?_, sumN_nn fun n _ => (oneIf_bd _).1, ?_⟩
  · have := seqs_mx (L := relL keys p (n : Int) l) fun c hc => (hR n c hc).2.2.1
    show 0 ≤ mx Ct.seq _ - _
    omega
  · show sumN _ _ ≤ _
    rw [← sumN_ones keys.length]; exact sumN_le fun n _ => (oneIf_bd _).2
def MoreE (a b : Evd) : Prop := a.broken ≤ b.broken ∧ a.looked ≤ b.looked ∧ a.seen ≤ b.seen ∧ a.machines ≤ b.machines ∧ b.machines ≤ a.machines + 1
theorem gath_more (keys : List Int) (l : List Ct) (c : Ct) (p : Int) : MoreE (gathS keys l p) (gathS keys (l ++ [c]) p) := by
  rw [gath_eq, gath_eq]
  have hm : ∀ n : Nat, ∀ x ∈ relL keys p (n : Int) l, x ∈ relL keys p (n : Int) (l ++ [c]) := fun n x hx => by
    obtain ⟨h1, h2⟩ := rel_mem.1 hx
    exact rel_mem.2 ⟨by simp [h1], h2⟩
  refine ⟨sumN_le fun n _ => mx_mono (hm n), sumN_le fun n _ => mx_mono (hm n), sumN_le fun n _ => mx_mono (hm n), sumN_le fun n _ => ?_, ?_⟩
  · unfold oneIf
    split
    · split <;> omega
    · rename_i h
      rw [if_neg]; · omega
      intro e
      obtain ⟨x, hx⟩ := List.exists_mem_of_ne_nil _ h
      have := hm n x hx
      rw [e] at this; cases this
  · show sumN _ _ ≤ sumN _ _ + 1
    by_cases hr : RelC keys p c
    · have h1 := hr.2.1
      have h2 := hr.2.2.1
      rw [sumN_congr (h := fun n : Nat => if n = c.machine.toNat then oneIf (relL keys p c.machine (l ++ [c])) else oneIf (relL keys p (n : Int) l)) fun n _ => ?_, sumN_put (by omega)]
      · have e : ((c.machine.toNat : Nat) : Int) = c.machine := by omega
        rw [e]
        have := (oneIf_bd (relL keys p c.machine (l ++ [c]))).2
        have := (oneIf_bd (relL keys p c.machine l)).1
        omega
      · by_cases e : n = c.machine.toNat
        · rw [if_pos e, show (n : Int) = c.machine by omega]
        · rw [if_neg e, rel_no (fun q => e (by omega))]
    · rw [sumN_congr (h := fun n : Nat => oneIf (relL keys p (n : Int) l)) fun n _ => by rw [rel_no (fun q => hr q.1)]]; omega
theorem right_more {keys : List Int} {k : Int} {c : Ct} (h : RightC keys c) : RightC (keys ++ [k]) c := by
  obtain ⟨h1, h2, h3⟩ := h
  refine ⟨h1, by simp; omega, h3.1, h3.2.1, h3.2.2.1, h3.2.2.2.1, h3.2.2.2.2.1, h3.2.2.2.2.2.1, ?_⟩
  rw [List.getD_eq_getElem?_getD, List.getElem?_append_left (by omega), ← List.getD_eq_getElem?_getD]; exact h3.2.2.2.2.2.2
theorem rel_keys {keys : List Int} {k p : Int} {c : Ct} (hc : RightC keys c) : RelC (keys ++ [k]) p c ↔ RelC keys p c := ⟨fun q => ⟨q.1, hc⟩, fun q => ⟨q.1, right_more hc⟩⟩
theorem step_keys {keys : List Int} {k p : Int} {c : Ct} (hc : RightC keys c) (T : List Mc) : stepG (keys ++ [k]) p T c = stepG keys p T c := by
  unfold stepG
  by_cases e : RelC keys p c
  · rw [if_pos e, if_pos ((rel_keys hc).2 e)]
  · rw [if_neg e, if_neg (fun q => e ((rel_keys hc).1 q))]
theorem fold_keys {keys : List Int} {k p : Int} : ∀ (l : List Ct) (T : List Mc), (∀ c ∈ l, RightC keys c) → l.foldl (stepG (keys ++ [k]) p) T = l.foldl (stepG keys p) T
  | [], _, _ => by rw [List.foldl_nil, List.foldl_nil]
  | c :: l, T, h => by
    rw [List.foldl_cons, List.foldl_cons, step_keys (h c (List.mem_cons_self ..))]
    exact fold_keys l _ fun x hx => h x (List.mem_cons_of_mem _ hx)
theorem gath_keys {keys : List Int} {k p : Int} {l : List Ct} (h : ∀ c ∈ l, RightC keys c) : gathS (keys ++ [k]) l p = gathS keys l p :=
  congrArg (evT p) (fold_keys l [] h)
/-! ### Order -/
def backL (l : List Ct) (t : Int) : Nat → List Ct
  | 0 => []
  | i + 1 => [l.getD ((((i : Nat) : Int) + t) % (l.length : Int)).toNat ct0, l.getD i ct0] ++ backL l t i
theorem back_len (l : List Ct) (t : Int) : ∀ i, (backL l t i).length = 2 * i
  | 0 => rfl
  | i + 1 => by rw [backL, List.length_append, back_len l t i]; simp; omega
theorem back_at {l : List Ct} {t : Int} (ht : 0 ≤ t) {i : Nat} (hi : i < l.length) : ((((i : Nat) : Int) + t) % (l.length : Int)).toNat < l.length := by
  have := Int.emod_lt_of_pos (((i : Nat) : Int) + t) (show (0 : Int) < (l.length : Int) by omega)
  have := Int.emod_nonneg (((i : Nat) : Int) + t) (show (l.length : Int) ≠ 0 by omega)
  omega
theorem back_in {l : List Ct} {t : Int} (ht : 0 ≤ t) : ∀ i, i ≤ l.length → ∀ c ∈ backL l t i, c ∈ l
  | 0, _, c, hc => by cases hc
  | i + 1, hi, c, hc => by
    rw [backL] at hc
    rcases List.mem_append.1 hc with h | h
    · simp only [List.mem_cons, List.not_mem_nil, or_false] at h
      rcases h with rfl | rfl
      · exact getD_mem (back_at ht (by omega))
      · exact getD_mem (by omega)
    · exact back_in ht i (by omega) c h
theorem back_has {l : List Ct} {t : Int} : ∀ (i k : Nat), k < i → l.getD k ct0 ∈ backL l t i
  | 0, k, h => by omega
  | i + 1, k, h => by
    rw [backL]
    by_cases e : k = i
    · subst e; simp
    · exact List.mem_append.2 (.inr (back_has i k (by omega)))
theorem back_same {keys : List Int} {p t : Int} {l : List Ct} (ht : 0 ≤ t) : gathS keys (backL l t l.length) p = gathS keys l p :=
  gath_same fun c _ => ⟨back_in ht _ (Nat.le_refl _) c, fun h => by
    obtain ⟨k, hk, rfl⟩ := List.getElem_of_mem h
    have := back_has (l := l) (t := t) l.length k hk
    rw [List.getD_eq_getElem?_getD, List.getElem?_eq_getElem hk] at this; exact this⟩
theorem back_n {l : List Ct} {t : Int} {i : Nat} : 2 + ((((backL l t i).map encK).drop 0).take (2 * i)).length = 2 * (i + 1) := by simp [back_len]; omega
theorem emodB {a n : Int} (h : 0 < n) : 0 ≤ a % n ∧ a % n < n := ⟨Int.emod_nonneg _ (by omega), Int.emod_lt_of_pos _ h⟩
def ownC (l : List Ct) (p : Int) : List Ct := l.filter fun c => decide (c.promise = p)
theorem ownC_len (l : List Ct) (p : Int) : (ownC l p).length ≤ l.length := List.length_filter_le _ _
theorem own_same {keys : List Int} {p : Int} {l : List Ct} : gathS keys (ownC l p) p = gathS keys l p :=
  gath_same fun c hc => by unfold ownC; rw [List.mem_filter]; simp [hc.1]
theorem ownC_yes {l : List Ct} {p : Int} {i : Nat} (h : i < l.length) (e : (l.getD i ct0).promise = p) : ownC (l.take (i + 1)) p = ownC (l.take i) p ++ [l.getD i ct0] := by
  unfold ownC; rw [take_one (d := ct0) h, List.filter_append, List.filter_cons_of_pos (p := fun c : Ct => decide (c.promise = p)) (decide_eq_true e)]; rfl
theorem ownC_no {l : List Ct} {p : Int} {i : Nat} (h : i < l.length) (e : ¬ (l.getD i ct0).promise = p) : ownC (l.take (i + 1)) p = ownC (l.take i) p := by
  unfold ownC; rw [take_one (d := ct0) h, List.filter_append, List.filter_cons_of_neg (p := fun c : Ct => decide (c.promise = p)) (fun h => e (of_decide_eq_true h))]; simp
theorem back_row {l : List Ct} {t : Int} {i n : Nat} (hn : n = 2 * i) : [encK (l.getD ((((i : Nat) : Int) + t) % (l.length : Int)).toNat ct0), encK (l.getD i ct0)] ++ ((backL l t i).map encK).take n = (backL l t (i + 1)).map encK := by
  rw [List.take_of_length_le (by rw [List.length_map, back_len]; omega)]; rfl
theorem ownC_row {l : List Ct} {p : Int} {i n : Nat} (h : i < l.length) (e : (l.getD i ct0).promise = p) (hn : n = (ownC (l.take i) p).length) : ((ownC (l.take i) p).map encK).take n ++ [encK (l.getD i ct0)] = (ownC (l.take (i + 1)) p).map encK := by
  rw [ownC_yes h e, List.take_of_length_le (by rw [List.length_map]; omega), List.map_append]; rfl
/-! ### One more -/
theorem one_row {l : List Ct} {c : Ct} {n : Nat} (hn : n = l.length) : (l.map encK).take n ++ [encK c] = (l ++ [c]).map encK := by
  rw [List.take_of_length_le (by rw [List.length_map]; omega), List.map_append]; rfl
theorem key_row {l : List Int} {k : Int} {n : Nat} (hn : n = l.length) : (l.map encU).take n ++ [.int .u64 k] = (l ++ [k]).map encU := by
  rw [List.take_of_length_le (by rw [List.length_map]; omega), List.map_append]; rfl
theorem one_row2 {l : List Ct} {c : Ct} {n m : Nat} (hn : n = l.length) : (([] : List AV).take m ++ l.map encK).take n ++ [encK c] = (l ++ [c]).map encK := by
  rw [List.take_nil, List.nil_append]; exact one_row hn
theorem key_row2 {l : List Int} {k : Int} {n m : Nat} (hn : n = l.length) : (([] : List AV).take m ++ l.map encU).take n ++ [.int .u64 k] = (l ++ [k]).map encU := by
  rw [List.take_nil, List.nil_append]; exact key_row hn
theorem ev_eq (a b : Evd) : AV.bool (a.promise == b.promise && (a.machines == b.machines && (a.seen == b.seen && (a.looked == b.looked && (a.broken == b.broken && (a.missing == b.missing && true)))))) = AV.bool (decide (a = b)) := by
  congr 1
  rw [Bool.eq_iff_iff]
  cases a; cases b
  simp [Evd.mk.injEq]
theorem gat_cast {keys keys' : List Int} {l l' : List Ct} {p : Int} (hll : l.length ≤ 1000000) (hk : keys' = keys) (hl : l' = l) : FnF Try.prog 19 true [.list (keys'.map encU), .list (l'.map encK), .int .i64 p] (encV (gathS keys l p)) := by
  rw [hk, hl]; exact fd_gather hll
theorem gat_same {keys : List Int} {l l' m : List Ct} {p : Int} (hll : l.length ≤ 1000000) (hs : gathS keys l p = gathS keys m p) (hl : l' = l) : FnF Try.prog 19 true [.list (keys.map encU), .list (l'.map encK), .int .i64 p] (encV (gathS keys m p)) := by
  rw [hl, ← hs]; exact fd_gather hll
theorem gat_key {keys keys' : List Int} {l l' : List Ct} {k p : Int} (hll : l.length ≤ 1000000) (hr : ∀ c ∈ l, RightC keys c) (hk : keys' = keys ++ [k]) (hl : l' = l) : FnF Try.prog 19 true [.list (keys'.map encU), .list (l'.map encK), .int .i64 p] (encV (gathS keys l p)) := by
  rw [hk, hl, ← gath_keys (k := k) hr]; exact fd_gather hll
end Go.Proofs.Ytglfbdicclepcaa
