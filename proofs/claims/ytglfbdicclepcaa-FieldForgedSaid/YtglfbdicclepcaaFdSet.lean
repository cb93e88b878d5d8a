/- What reports say together, machine by machine: their order and repetitions do not matter. Plain mathematics. -/
import Derived.Test.YtglfbdicclepcaaFdM
set_option linter.unusedVariables false
set_option linter.unusedSimpArgs false
namespace Go.Proofs.Ytglfbdicclepcaa
open Go.RowKit
set_option maxRecDepth 100000
def mx (f : Ct → Int) (L : List Ct) : Int := L.foldl (fun a c => max a (f c)) 0
theorem mx_app (f : Ct → Int) (L : List Ct) (c : Ct) : mx f (L ++ [c]) = max (mx f L) (f c) := by unfold mx; rw [List.foldl_append]; rfl
def seqsOf (L : List Ct) : List Int := L.foldl (fun a c => putK a c.seq) []
theorem seqs_app (L : List Ct) (c : Ct) : seqsOf (L ++ [c]) = putK (seqsOf L) c.seq := by unfold seqsOf; rw [List.foldl_append]; rfl
/-- The reports of a machine that count. -/
def relL (keys : List Int) (p n : Int) (l : List Ct) : List Ct := l.filter fun c => decide (RelC keys p c ∧ c.machine = n)
theorem rel_yes {keys : List Int} {p n : Int} {l : List Ct} {c : Ct} (h : RelC keys p c ∧ c.machine = n) : relL keys p n (l ++ [c]) = relL keys p n l ++ [c] := by
  unfold relL; rw [List.filter_append, List.filter_cons_of_pos (p := fun c => decide (RelC keys p c ∧ c.machine = n)) (decide_eq_true h)]; rfl
theorem rel_no {keys : List Int} {p n : Int} {l : List Ct} {c : Ct} (h : ¬ (RelC keys p c ∧ c.machine = n)) : relL keys p n (l ++ [c]) = relL keys p n l := by
  unfold relL; rw [List.filter_append, List.filter_cons_of_neg (p := fun c => decide (RelC keys p c ∧ c.machine = n)) (fun k => h (of_decide_eq_true k))]; simp
def mcOf (n : Int) (L : List Ct) : Mc := ⟨n, mx Ct.seen L, mx Ct.looked L, mx Ct.broken L, mx Ct.seq L, seqsOf L⟩
theorem mc_new (c : Ct) : newM c = mcOf c.machine [] := rfl
theorem mc_hit (n : Int) (L : List Ct) (c : Ct) : hitM (mcOf n L) c = mcOf n (L ++ [c]) := by unfold mcOf hitM; simp only [mx_app, seqs_app]
def getT (T : List Mc) (n : Int) : Option Mc := match T with
  | [] => none
  | m :: T => if m.id = n then some m else getT T n
theorem get_id : ∀ {T : List Mc} {n : Int} {m : Mc}, getT T n = some m → m.id = n
  | y :: T, n, m, h => by
    unfold getT at h
    split at h
    · cases h; assumption
    · exact get_id h
theorem add_get : ∀ (T : List Mc) (c : Ct) (n : Int), getT (addM T c) n = if c.machine = n then some (hitM ((getT T n).getD (newM c)) c) else getT T n
  | [], c, n => by unfold addM; simp only [getT]; rfl
  | m :: T, c, n => by
    unfold addM
    by_cases h : m.id = c.machine
    · rw [if_pos h]
      simp only [getT]
      show (if m.id = n then some (hitM m c) else getT T n) = _
      by_cases h2 : m.id = n
      · rw [if_pos h2, if_pos (by omega), if_pos h2]; rfl
      · rw [if_neg h2, if_neg (by omega), if_neg h2]
    · rw [if_neg h]
      simp only [getT]
      rw [add_get T c n]
      by_cases h2 : m.id = n
      · rw [if_pos h2, if_neg (by omega), if_pos h2]
      · rw [if_neg h2, if_neg h2]
theorem add_ids : ∀ (T : List Mc) (c : Ct), (addM T c).map Mc.id = T.map Mc.id ∨ ((addM T c).map Mc.id = T.map Mc.id ++ [c.machine] ∧ c.machine ∉ T.map Mc.id)
  | [], c => .inr ⟨rfl, by simp⟩
  | m :: T, c => by
    unfold addM
    split
    · exact .inl rfl
    · rename_i h
      rcases add_ids T c with h1 | ⟨h1, h2⟩
      · exact .inl (by simp [h1])
      · refine .inr ⟨by simp [h1], ?_⟩
        rw [List.map_cons, List.mem_cons]
        rintro (e | e)
        · exact h e.symm
        · exact h2 e
structure TabOk (keys : List Int) (p : Int) (l : List Ct) (T : List Mc) : Prop where
  nd : (T.map Mc.id).Nodup
  rng : ∀ m ∈ T, 0 ≤ m.id ∧ m.id < keys.length
  get : ∀ n, getT T n = if relL keys p n l = [] then none else some (mcOf n (relL keys p n l))
theorem tab_ok (keys : List Int) (p : Int) (l : List Ct) : TabOk keys p l (tblG keys p l) := by
  have key : ∀ k, k ≤ l.length → TabOk keys p (l.take k) (tblG keys p (l.take k)) := by
    intro k
    induction k with
    | zero => intro _; exact ⟨by simp [tblG], fun m h => by simp [tblG] at h, fun n => rfl⟩
    | succ k ih =>
      intro hk
      have h := ih (by omega)
      have e : l.take (k + 1) = l.take k ++ [l.getD k ct0] := by rw [List.take_add_one, List.getD_eq_getElem?_getD, List.getElem?_eq_getElem (show k < l.length by omega)]; rfl
      rw [tbl_at (by omega), e]
      unfold stepG
      split
      · rename_i hr
        refine ⟨?_, fun m hm => ?_, fun n => ?_⟩
        · rcases add_ids (tblG keys p (l.take k)) (l.getD k ct0) with h1 | ⟨h1, h2⟩
          · rw [h1]; exact h.nd
          · rw [h1]; exact List.nodup_append.2 ⟨h.nd, by simp, fun a ha b hb => by simp at hb; subst hb; exact fun e => h2 (e ▸ ha)⟩
        · have hid : m.id ∈ (addM (tblG keys p (l.take k)) (l.getD k ct0)).map Mc.id := List.mem_map.2 ⟨m, hm, rfl⟩
          have hold : m.id ∈ (tblG keys p (l.take k)).map Mc.id → 0 ≤ m.id ∧ m.id < keys.length := fun h2 => by
            obtain ⟨q, hq, he⟩ := List.mem_map.1 h2
            rw [← he]; exact h.rng q hq
          rcases add_ids (tblG keys p (l.take k)) (l.getD k ct0) with h1 | ⟨h1, h2⟩
          · rw [h1] at hid; exact hold hid
          · rw [h1] at hid
            rcases List.mem_append.1 hid with h3 | h3
            · exact hold h3
            · rw [List.mem_singleton.1 h3]; exact ⟨hr.2.1, hr.2.2.1⟩
        · rw [add_get]
          by_cases hn : (l.getD k ct0).machine = n
          · rw [if_pos hn, rel_yes ⟨hr, hn⟩, if_neg (by simp), h.get n]
            split
            · rename_i hz
              rw [hz]
              show some (hitM (newM _) _) = _
              rw [mc_new, hn, mc_hit]
            · show some (hitM (mcOf n _) _) = _
              rw [mc_hit]
          · rw [if_neg hn, rel_no (fun q => hn q.2)]; exact h.get n
      · rename_i hr
        exact ⟨h.nd, h.rng, fun n => by rw [rel_no (fun q => hr q.1)]; exact h.get n⟩
  have := key l.length (Nat.le_refl _)
  rw [List.take_length] at this
  exact this
/-! ### Sums over machines -/
def sumN (g : Nat → Int) : Nat → Int
  | 0 => 0
  | n + 1 => sumN g n + g n
theorem sumN_congr {g h : Nat → Int} : ∀ {K : Nat}, (∀ n, n < K → g n = h n) → sumN g K = sumN h K
  | 0, _ => rfl
  | K + 1, e => by rw [sumN, sumN, sumN_congr (K := K) fun n hn => e n (by omega), e K (by omega)]
theorem sumN_le {g h : Nat → Int} : ∀ {K : Nat}, (∀ n, n < K → g n ≤ h n) → sumN g K ≤ sumN h K
  | 0, _ => Int.le_refl _
  | K + 1, e => by rw [sumN, sumN]; have := sumN_le (K := K) fun n hn => e n (by omega); have := e K (by omega); omega
theorem sumN_put {g : Nat → Int} {x : Int} {i : Nat} : ∀ {K : Nat}, i < K → sumN (fun n => if n = i then x else g n) K = sumN g K + x - g i
  | 0, h => by omega
  | K + 1, h => by
    rw [sumN, sumN]
    by_cases e : i = K
    · subst e
      rw [if_pos rfl, sumN_congr (h := g) fun n hn => if_neg (by omega)]; omega
    · rw [if_neg (fun h => e h.symm), sumN_put (K := K) (by omega)]; omega
theorem sumN_zero : ∀ (K : Nat), sumN (fun _ => 0) K = 0
  | 0 => rfl
  | K + 1 => by rw [sumN, sumN_zero K]; rfl
theorem get_none : ∀ {T : List Mc} {n : Int}, n ∉ T.map Mc.id → getT T n = none
  | [], n, _ => rfl
  | m :: T, n, h => by
    simp only [List.map_cons, List.mem_cons, not_or] at h
    unfold getT
    rw [if_neg (fun e => h.1 e.symm), get_none h.2]
theorem sum_tab (f : Mc → Int) : ∀ {T : List Mc} {K : Nat}, (T.map Mc.id).Nodup → (∀ m ∈ T, 0 ≤ m.id ∧ m.id < K) → sumI (T.map f) = sumN (fun n => ((getT T (n : Int)).map f).getD 0) K
  | [], K, _, _ => by rw [show (fun n : Nat => ((getT [] (n : Int)).map f).getD 0) = fun _ => 0 from rfl, sumN_zero]; rfl
  | m :: T, K, hn, hr => by
    rw [List.map_cons] at hn
    obtain ⟨h1, h2⟩ := List.nodup_cons.1 hn
    have ih := sum_tab f (T := T) (K := K) h2 fun x hx => hr x (by simp [hx])
    have hm := hr m (by simp)
    rw [List.map_cons, sumI, ih]
    have e : sumN (fun n => ((getT (m :: T) (n : Int)).map f).getD 0) K = sumN (fun n => if n = m.id.toNat then f m else ((getT T (n : Int)).map f).getD 0) K := sumN_congr fun n _ => by
      simp only [getT]
      by_cases h : m.id = (n : Int)
      · rw [if_pos h, if_pos (by omega)]; rfl
      · rw [if_neg h, if_neg (by omega)]
    rw [e, sumN_put (by omega), show ((m.id.toNat : Nat) : Int) = m.id by omega, get_none h1]
    show f m + _ = _ + f m - 0
    omega
def oneIf (L : List Ct) : Int := if L = [] then 0 else 1
def misL (L : List Ct) : Int := mx Ct.seq L - ((seqsOf L).length : Int)
/-- What reports say together, machine by machine. -/
def gathR (keys : List Int) (l : List Ct) (p : Int) : Evd :=
  ⟨p, sumN (fun n => oneIf (relL keys p (n : Int) l)) keys.length, sumN (fun n => mx Ct.seen (relL keys p (n : Int) l)) keys.length, sumN (fun n => mx Ct.looked (relL keys p (n : Int) l)) keys.length,
    sumN (fun n => mx Ct.broken (relL keys p (n : Int) l)) keys.length, sumN (fun n => misL (relL keys p (n : Int) l)) keys.length⟩
theorem sumI_ones : ∀ (T : List Mc), sumI (T.map fun _ => 1) = (T.length : Int)
  | [] => rfl
  | m :: T => by rw [List.map_cons, sumI, sumI_ones T]; simp; omega
theorem gath_eq (keys : List Int) (l : List Ct) (p : Int) : gathS keys l p = gathR keys l p := by
  have h := tab_ok keys p l
  have key : ∀ (f : Mc → Int) (g : List Ct → Int), g [] = 0 → (∀ n L, f (mcOf n L) = g L ∨ L = []) → sumI ((tblG keys p l).map f) = sumN (fun n => g (relL keys p (n : Int) l)) keys.length := fun f g h0 hf => by
    rw [sum_tab f h.nd h.rng]
    refine sumN_congr fun n _ => ?_
    rw [h.get]
    split
    · rename_i hz; rw [hz, h0]; rfl
    · rename_i hz
      rcases hf (n : Int) (relL keys p (n : Int) l) with e | e
      · exact e
      · exact absurd e hz
  unfold gathS evT gathR
  rw [← sumI_ones, key (fun _ => 1) oneIf rfl fun n L => by
      by_cases h : L = []
      · exact .inr h
      · exact .inl (by unfold oneIf; rw [if_neg h]),
    key Mc.seen (mx Ct.seen) rfl fun n L => .inl rfl, key Mc.looked (mx Ct.looked) rfl fun n L => .inl rfl, key Mc.broken (mx Ct.broken) rfl fun n L => .inl rfl, key misM misL rfl fun n L => .inl rfl]
/-! ### Order and repetition -/
theorem mx_ge (f : Ct → Int) : ∀ (L : List Ct) (a : Int), a ≤ L.foldl (fun a c => max a (f c)) a ∧ ∀ c ∈ L, f c ≤ L.foldl (fun a c => max a (f c)) a
  | [], a => ⟨Int.le_refl _, fun c h => by cases h⟩
  | x :: L, a => by
    have ih := mx_ge f L (max a (f x))
    simp only [List.foldl_cons]
    refine ⟨by omega, fun c hc => ?_⟩
    rcases List.mem_cons.1 hc with rfl | hc
    · omega
    · exact ih.2 c hc
theorem mx_at (f : Ct → Int) : ∀ (L : List Ct) (a : Int), L.foldl (fun a c => max a (f c)) a = a ∨ ∃ c ∈ L, L.foldl (fun a c => max a (f c)) a = f c
  | [], a => .inl rfl
  | x :: L, a => by
    simp only [List.foldl_cons]
    rcases mx_at f L (max a (f x)) with h | ⟨c, hc, h⟩
    · rw [h]
      rcases Int.le_total a (f x) with q | q
      · exact .inr ⟨x, by simp, by omega⟩
      · exact .inl (by omega)
    · exact .inr ⟨c, by simp [hc], h⟩
theorem mx_nonneg (f : Ct → Int) (L : List Ct) : 0 ≤ mx f L := (mx_ge f L 0).1
theorem mx_mono {f : Ct → Int} {L L' : List Ct} (h : ∀ c ∈ L, c ∈ L') : mx f L ≤ mx f L' := by
  rcases mx_at f L 0 with e | ⟨c, hc, e⟩
  · unfold mx; rw [e]; exact (mx_ge f L' 0).1
  · unfold mx; rw [e]; exact (mx_ge f L' 0).2 c (h c hc)
theorem putK_mem {ks : List Int} {k x : Int} : x ∈ putK ks k ↔ x ∈ ks ∨ x = k := by
  unfold putK
  split
  · rename_i h
    exact ⟨.inl, fun q => q.elim id fun e => e ▸ h⟩
  · simp
theorem putK_nd {ks : List Int} {k : Int} (h : ks.Nodup) : (putK ks k).Nodup := by
  unfold putK
  split
  · exact h
  · rename_i hk
    exact List.nodup_append.2 ⟨h, by simp, fun a ha b hb => by simp at hb; subst hb; exact fun e => hk (e ▸ ha)⟩
theorem seqs_gen : ∀ (L : List Ct) (a : List Int), a.Nodup → (L.foldl (fun a c => putK a c.seq) a).Nodup ∧ ∀ x, x ∈ L.foldl (fun a c => putK a c.seq) a ↔ x ∈ a ∨ ∃ c ∈ L, x = c.seq
  | [], a, h => ⟨h, fun x => by simp⟩
  | y :: L, a, h => by
    have ih := seqs_gen L (putK a y.seq) (putK_nd h)
    refine ⟨ih.1, fun x => ?_⟩
    simp only [List.foldl_cons]
    rw [ih.2, putK_mem]
    simp [or_assoc]
theorem seqs_nd (L : List Ct) : (seqsOf L).Nodup := (seqs_gen L [] List.nodup_nil).1
theorem seqs_mem {L : List Ct} {x : Int} : x ∈ seqsOf L ↔ ∃ c ∈ L, x = c.seq := by
  rw [show seqsOf L = _ from rfl]
  unfold seqsOf
  rw [(seqs_gen L [] List.nodup_nil).2]
  simp
theorem nodup_sub : ∀ {l m : List Int}, l.Nodup → (∀ x ∈ l, x ∈ m) → l.length ≤ m.length
  | [], m, _, _ => Nat.zero_le _
  | x :: l, m, hn, h => by
    obtain ⟨h1, h2⟩ := List.nodup_cons.1 hn
    have hx := h x (by simp)
    have := nodup_sub (l := l) (m := m.erase x) h2 fun y hy => by
      have hne : y ≠ x := fun e => h1 (e ▸ hy)
      exact (List.mem_erase_of_ne hne).2 (h y (by simp [hy]))
    rw [List.length_erase_of_mem hx] at this
    have := List.length_pos_of_mem hx
    simp only [List.length_cons]; omega
theorem seqs_mono {L L' : List Ct} (h : ∀ c ∈ L, c ∈ L') : (seqsOf L).length ≤ (seqsOf L').length :=
  nodup_sub (seqs_nd L) fun x hx => by
    obtain ⟨c, hc, rfl⟩ := seqs_mem.1 hx
    exact seqs_mem.2 ⟨c, h c hc, rfl⟩
theorem rel_mem {keys : List Int} {p n : Int} {l : List Ct} {c : Ct} : c ∈ relL keys p n l ↔ c ∈ l ∧ RelC keys p c ∧ c.machine = n := by unfold relL; rw [List.mem_filter]; simp
/-- Reports with the same members say the same. -/
theorem gath_same {keys : List Int} {p : Int} {l l' : List Ct} (h : ∀ c, RelC keys p c → (c ∈ l ↔ c ∈ l')) : gathS keys l p = gathS keys l' p := by
  rw [gath_eq, gath_eq]
  have hm : ∀ n : Int, ∀ c, c ∈ relL keys p n l ↔ c ∈ relL keys p n l' := fun n c => by
    rw [rel_mem, rel_mem]
    exact ⟨fun q => ⟨(h c q.2.1).1 q.1, q.2⟩, fun q => ⟨(h c q.2.1).2 q.1, q.2⟩⟩
  have hx : ∀ (f : Ct → Int) (n : Int), mx f (relL keys p n l) = mx f (relL keys p n l') := fun f n => Int.le_antisymm (mx_mono fun c hc => (hm n c).1 hc) (mx_mono fun c hc => (hm n c).2 hc)
  have hs : ∀ n : Int, (seqsOf (relL keys p n l)).length = (seqsOf (relL keys p n l')).length := fun n => Nat.le_antisymm (seqs_mono fun c hc => (hm n c).1 hc) (seqs_mono fun c hc => (hm n c).2 hc)
  have ho : ∀ n : Int, oneIf (relL keys p n l) = oneIf (relL keys p n l') := fun n => by
    unfold oneIf
    have : relL keys p n l = [] ↔ relL keys p n l' = [] := by
      rw [List.eq_nil_iff_forall_not_mem, List.eq_nil_iff_forall_not_mem]
      exact ⟨fun q c hc => q c ((hm n c).2 hc), fun q c hc => q c ((hm n c).1 hc)⟩
    simp only [this]
  unfold gathR
  simp only [hx, ho, misL, hs]
end Go.Proofs.Ytglfbdicclepcaa
