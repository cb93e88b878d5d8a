/- Rules in use: what is kept, what is used. Plain mathematics. -/
import Derived.Test.YtioiffbnbjalcaaRuSetM
set_option linter.unusedVariables false
set_option linter.unusedSimpArgs false
namespace Go.Proofs.Ytioiffbnbjalcaa
open Go.RowKit
set_option maxRecDepth 100000
theorem inR_in {r : Ru} (h : Lim r) (v : Int) : InS (inR r) v ↔ r.lo ≤ v ∧ v ≤ r.hi := by
  unfold inR
  rw [by_in h.2.1 (.inl (by decide))]
  exact ⟨fun k => ⟨k.1, k.2.1⟩, fun k => ⟨k.1, k.2, Int.one_dvd _⟩⟩
theorem and255' {k : Int} (hk : Mk k) : andS k 255 = k := by rw [andS_comm]; exact and255 hk
theorem met_is {x : Ab} {r : Ru} (hx : Good x) (hr : Lim r) (h : meetI x (inR r) = true) : Good (metA x (inR r)) ∧ (metA x (inR r)).k = x.k ∧ ∀ v, InS (metA x (inR r)) v ↔ InS x v ∧ r.lo ≤ v ∧ v ≤ r.hi := by
  have m := meet_ok hx (inR_good hr) (andS_mk hx.mk' (inR_good hr).mk') h
  refine ⟨m.good, ?_, fun v => ?_⟩
  · have : (metA x (inR r)).k = andS x.k (inR r).k := m.mask
    rw [this, show (inR r).k = 255 from by_k _ _ _ _, and255' hx.mk']
  · rw [show InS (metA x (inR r)) v ↔ _ from m.mem v]
    exact ⟨fun k => ⟨k.1, (inR_in hr v).1 k.2⟩, fun k => ⟨k.1, (inR_in hr v).2 k.2⟩⟩
structure Kept (x0 : Ab) (s : Ab × List Int) : Prop where
  good : Good s.1
  k : s.1.k = x0.k
  sub : ∀ v, InS s.1 v → InS x0 v
theorem Kept.zero {x : Ab} {ks : List Int} (h : Good x) : Kept x (x, ks) := ⟨h, rfl, fun _ h => h⟩
theorem Kept.trans {x y : Ab} {ks : List Int} {s : Ab × List Int} (h : Kept x (y, ks)) (k : Kept y s) : Kept x s := ⟨k.good, k.k.trans h.k, fun v hv => h.sub v (k.sub v hv)⟩
open Classical in
theorem step_kept {op : Int} {a b x0 : Ab} {s : Ab × List Int} {r : Ru} (hr : Lim r) (h : Kept x0 s) : Kept x0 (stepU op a b s r) := by
  unfold stepU
  split
  · rename_i c
    obtain ⟨g, k, m⟩ := met_is h.good hr c.2.1
    exact ⟨g, k.trans h.k, fun v hv => h.sub v ((m v).1 hv).1⟩
  · exact h
theorem app_kept {op : Int} {a b x0 : Ab} : ∀ {l : List Ru} {s : Ab × List Int}, (∀ r ∈ l, Lim r) → Kept x0 s → Kept x0 (appL op a b l s)
  | [], s, _, h => h
  | r :: l, s, hl, h => app_kept (l := l) (fun q hq => hl q (by simp [hq])) (step_kept (hl r (by simp)) h)
theorem app_good {op : Int} {a b x0 : Ab} {ks : List Int} {l : List Ru} (hl : ∀ r ∈ l, Lim r) (h : Good x0) : Good (appL op a b l (x0, ks)).1 := (app_kept hl (Kept.zero h)).good
/-- A rule that is used says the same as the operator. -/
theorem res_in {r : Ru} {p q : Int} (h : okB r = true) (h1 : r.alo ≤ p) (h2 : p ≤ r.ahi) (h3 : r.blo ≤ q) (h4 : q ≤ r.bhi) : r.lo ≤ opV r.op p q ∧ opV r.op p q ≤ r.hi := by
  have hi : (p - r.alo).toNat < naR r := by unfold naR; omega
  have hj : (q - r.blo).toNat < nbR r := by unfold nbR; omega
  have k := okB_iff.1 h _ (idx_in hi hj)
  rw [res_at hj, show r.alo + (((p - r.alo).toNat : Nat) : Int) = p by omega, show r.blo + (((q - r.blo).toNat : Nat) : Int) = q by omega] at k
  exact k
open Classical in
theorem step_has {op p q : Int} {a b x0 : Ab} {s : Ab × List Int} {r : Ru} (hr : Lim r) (ho : okB r = true) (h : Kept x0 s) (hp : InS a p) (hq : InS b q) (hv : InS s.1 (opV op p q)) : InS (stepU op a b s r).1 (opV op p q) := by
  unfold stepU
  split
  · rename_i c
    obtain ⟨g, k, m⟩ := met_is h.good hr c.2.1
    obtain ⟨e, c1, c2, c3, c4⟩ := c.1
    have p1 := hp.1; have p2 := hp.2.1; have q1 := hq.1; have q2 := hq.2.1
    have := res_in ho (p := p) (q := q) (by omega) (by omega) (by omega) (by omega)
    rw [e] at this
    exact (m _).2 ⟨hv, this⟩
  · exact hv
theorem app_has {op p q : Int} {a b x0 : Ab} (hp : InS a p) (hq : InS b q) : ∀ {l : List Ru} {s : Ab × List Int}, (∀ r ∈ l, Lim r ∧ okB r = true) → Kept x0 s → InS s.1 (opV op p q) → InS (appL op a b l s).1 (opV op p q)
  | [], s, _, _, h => h
  | r :: l, s, hl, k, h => app_has (x0 := x0) hp hq (l := l) (fun q hq => hl q (by simp [hq])) (step_kept (hl r (by simp)).1 k) (step_has (hl r (by simp)).1 (hl r (by simp)).2 k hp hq h)
/-- Sound rules. -/
theorem rules_sound {op p q n1 n3 : Int} {a b : Ab} {l : List Ru} (h1 : 4 ≤ op) (h2 : op ≤ 10) (ga : Good a) (gb : Good b) (hp : InS a p) (hq : InS b q) (hl : ∀ r ∈ l, Lim r ∧ okB r = true) :
    Good (appL op a b l (opS op a b, [])).1 ∧ InS (appL op a b l (opS op a b, [])).1 (opV op p q) ∧ notS (orS (andS n1 a.k) (andS n3 b.k)) (appL op a b l (opS op a b, [])).1.k = 0 ∧ leqS (appL op a b l (opS op a b, [])).1 (opS op a b) = true := by
  have g := op_good h1 h2 ga gb
  have k := app_kept (op := op) (a := a) (b := b) (fun r hr => (hl r hr).1) (Kept.zero (ks := []) g)
  refine ⟨k.good, app_has hp hq hl (Kept.zero g) (op_sound h1 h2 ga gb hp hq), ?_, ?_⟩
  · rw [k.k, op_k]
    exact sub_not (sub_or (sub_and _ _) (sub_and _ _))
  · refine decide_eq_true (leq_incl k.good g k.sub ?_)
    rw [k.k]; exact sub_self _
/-! ### What is used -/
theorem app_other {op : Int} {a b : Ab} : ∀ (l : List Ru) (s : Ab × List Int), appL op a b (l.filter fun r => decide (r.op = op)) s = appL op a b l s
  | [], s => rfl
  | r :: l, s => by
    by_cases h : r.op = op
    · rw [List.filter_cons_of_pos (by simpa using h)]
      exact app_other l _
    · rw [List.filter_cons_of_neg (by simpa using h), app_other l s]
      show _ = appL op a b l (stepU op a b s r)
      rw [show stepU op a b s r = s from by unfold stepU; rw [if_neg (fun c => h c.1.1)]]
theorem putK_mem {ks : List Int} {k x : Int} (h : x ∈ ks) : x ∈ putK ks k := by unfold putK; split <;> simp [h]
theorem putK_own {ks : List Int} {k : Int} : k ∈ putK ks k := by unfold putK; split <;> simp [*]
theorem used_mem {op : Int} {a b : Ab} {x : Int} : ∀ {l : List Ru} {s : Ab × List Int}, x ∈ s.2 → x ∈ (appL op a b l s).2
  | [], s, h => h
  | r :: l, s, h => used_mem (l := l) (by unfold stepU; split; exact putK_mem h; exact h)
open Classical in
theorem app_own {op : Int} {a b : Ab} (f : Ru → Bool) : ∀ {l : List Ru} {s : Ab × List Int}, (∀ r ∈ l, f r = false → r.id ∉ (appL op a b l s).2) → appL op a b (l.filter f) s = appL op a b l s
  | [], s, _ => rfl
  | r :: l, s, h => by
    have h2 : ∀ q ∈ l, f q = false → q.id ∉ (appL op a b l (stepU op a b s r)).2 := fun q hq => h q (by simp [hq])
    by_cases c : f r = true
    · rw [List.filter_cons_of_pos c]
      exact app_own f h2
    · rw [List.filter_cons_of_neg c]
      have hn := h r (by simp) (by simpa using c)
      have e : stepU op a b s r = s := by
        unfold stepU
        rw [if_neg]
        intro q
        apply hn
        show r.id ∈ (appL op a b l (stepU op a b s r)).2
        apply used_mem
        unfold stepU
        rw [if_pos q]; exact putK_own
      rw [e] at h2
      show _ = appL op a b l (stepU op a b s r)
      rw [e]
      exact app_own f h2
theorem putK_ne {ks : List Int} {k : Int} : putK ks k ≠ [] := fun h => by have := putK_own (ks := ks) (k := k); rw [h] at this; cases this
open Classical in
theorem app_used {op : Int} {a b : Ab} : ∀ {l : List Ru} {x : Ab} {ks : List Int}, (∀ r ∈ l, Lim r) → Good x → ks = [] → ((appL op a b l (x, ks)).2 = [] ↔ (appL op a b l (x, ks)).1 = x)
  | [], x, ks, _, _, e => ⟨fun _ => rfl, fun _ => e⟩
  | r :: l, x, ks, hl, g, e => by
    by_cases c : appR r op a b ∧ meetI x (inR r) = true ∧ ¬ metA x (inR r) = x
    · have es : stepU op a b (x, ks) r = (metA x (inR r), putK ks r.id) := by unfold stepU; rw [if_pos c]
      have k1 := step_kept (op := op) (a := a) (b := b) (hl r (by simp)) (Kept.zero (ks := ks) g)
      rw [es] at k1
      have k2 := app_kept (op := op) (a := a) (b := b) (l := l) (fun q hq => hl q (by simp [hq])) (Kept.zero (ks := putK ks r.id) k1.good)
      have e2 : appL op a b (r :: l) (x, ks) = appL op a b l (metA x (inR r), putK ks r.id) := by rw [← es]; rfl
      rw [e2]
      constructor
      · intro h
        have := used_mem (op := op) (a := a) (b := b) (l := l) (s := (metA x (inR r), putK ks r.id)) (x := r.id) putK_own
        rw [h] at this; cases this
      · intro h
        refine absurd ?_ c.2.2
        refine good_eq k1.good g (fun v => ⟨k1.sub v, fun hv => k2.sub v ?_⟩) k1.k
        rw [h]; exact hv
    · have es : stepU op a b (x, ks) r = (x, ks) := by unfold stepU; rw [if_neg c]
      have e2 : appL op a b (r :: l) (x, ks) = appL op a b l (x, ks) := by
        show appL op a b l (stepU op a b (x, ks) r) = _
        rw [es]
      rw [e2]
      exact app_used (fun q hq => hl q (by simp [hq])) g e
theorem app_len' {op : Int} {a b : Ab} : ∀ {l : List Ru} {s : Ab × List Int}, (appL op a b l s).2.length ≤ s.2.length + l.length
  | [], s => Nat.le_refl _
  | r :: l, s => by
    have h := app_len' (op := op) (a := a) (b := b) (l := l) (s := stepU op a b s r)
    have h2 : (stepU op a b s r).2.length ≤ s.2.length + 1 := by
      unfold stepU
      split
      · exact putK_len _ _
      · omega
    show (appL op a b l (stepU op a b s r)).2.length ≤ _
    simp only [List.length_cons]; omega
theorem app_len {op : Int} {a b x : Ab} {l : List Ru} : (appL op a b l (x, [])).2.length ≤ l.length := by
  have := app_len' (op := op) (a := a) (b := b) (l := l) (s := (x, []))
  simpa using this
/-! ### Even -/
def evV (x : Rv) : Rv := ⟨x.op, x.a, x.b, x.n, x.m, x.lo, x.hi, x.id, x.sharp - x.sharp % 2⟩
theorem not_one {s : Int} (h : 0 ≤ s ∧ s ≤ 255) : bits .andNot .u8 s 1 = s - s % 2 := by
  have key : (List.range 256).all (fun n => decide (bits .andNot .u8 (n : Int) 1 = (n : Int) - (n : Int) % 2)) = true := by decide
  have := List.all_eq_true.1 key s.toNat (by rw [List.mem_range]; omega)
  have := of_decide_eq_true this
  rwa [show ((s.toNat : Nat) : Int) = s by omega] at this
theorem ev_bv {x : Rv} (h : BV x) : BV (evV x) := by
  obtain ⟨h1, h2, h3, h4, h5, h6, h7, h8, h9⟩ := h
  exact ⟨h1, h2, h3, h4, h5, h6, h7, h8, by show 0 ≤ x.sharp - x.sharp % 2 ∧ x.sharp - x.sharp % 2 ≤ 255; omega⟩
theorem ev_ok (x : Rv) : okB (madeR (evV x)) = true := by
  have hs : ¬ (evV x).sharp % 2 = 1 := by show ¬ (x.sharp - x.sharp % 2) % 2 = 1; omega
  refine okB_iff.2 fun k hk => ?_
  have key : ∀ n k, k < n → loN (basR (evV x)) n ≤ resQat (basR (evV x)) k ∧ resQat (basR (evV x)) k ≤ hiN (basR (evV x)) n := by
    intro n
    induction n with
    | zero => intro k h; omega
    | succ n ih =>
      intro k h
      rw [loN, hiN]
      by_cases e : k = n
      · subst e; omega
      · have := ih k (by omega); omega
  rw [← made_lo0 hs rfl rfl, ← made_hi0 hs rfl rfl]
  have e1 : naR (madeR (evV x)) = naR (basR (evV x)) := by unfold naR; rw [made_ahi, made_alo]
  have e2 : nbR (madeR (evV x)) = nbR (basR (evV x)) := by unfold nbR; rw [made_bhi, made_blo]
  have e3 : resQat (madeR (evV x)) k = resQat (basR (evV x)) k := by unfold resQat; rw [e2, made_op, made_alo, made_blo]
  rw [e3]
  rw [e1, e2] at hk
  exact key _ k hk
theorem made_lim {x : Rv} (h : BV x) : Lim (madeR x) := by
  have := made_bd h
  unfold Lim; omega
theorem mad_end {α β γ : Type} {f : α → β} {g : β → γ} {l : List α} {i n : Nat} (h1 : i ≤ l.length) (h2 : i ≤ n) (h3 : l.length ≤ i ∨ n ≤ i) : ((l.take i).map f).map g = ((l.take n).map f).map g := by
  by_cases e : i = n
  · rw [e]
  · rw [List.take_of_length_le (by omega), List.take_of_length_le (by omega)]
end Go.Proofs.Ytioiffbnbjalcaa
