/- append. For every program. -/
import Derived.Test.YtkijlggnnbdeiaaEvH
set_option linter.unusedVariables false
set_option linter.unusedSimpArgs false
namespace Go.Proofs.Ytkijlggnnbdeiaa
open Go.RowKit

section
variable {P : Program} {A : Nat → Prop} {m : Mem} {ρ : Nat → Nat} {w : World} {a : Act} {o : Oper} {n0 : Nat}

theorem RowR.app {k n : Nat} {es ys : List AV} {vs U vs' : Array Value} (h : RowR A m ρ w k es vs) (hn : n ≤ es.length) (hy : RowR A m ρ w k ys U) (hs : (n + ys.length) * k ≤ vs'.size)
    (h1 : ∀ q, q < n * k → vs'[q]? = vs[q]?) (h2 : ∀ q, q < ys.length * k → vs'[n * k + q]? = U[q]?) : RowR A m ρ w k (es.take n ++ ys) vs' := by
  have hlen : (es.take n).length = n := by simp; omega
  refine ⟨by rw [List.length_append, hlen]; exact hs, fun e he => ?_, fun i e j c he hc => ?_⟩
  · rcases List.mem_append.1 he with he | he
    · exact h.len e (List.mem_of_mem_take he)
    · exact hy.len e he
  · by_cases hi : i < n
    · rw [List.getElem?_append_left (by omega), List.getElem?_take, if_pos hi] at he
      have := (h.lt he hc).2
      rw [Array.getD_eq_getD_getElem?, h1 _ (idx_lt hi this), ← Array.getD_eq_getD_getElem?]
      exact h.at_ i e j c he hc
    · rw [List.getElem?_append_right (by omega), hlen] at he
      have h3 := (hy.lt he hc).2
      have h4 := (List.getElem?_eq_some_iff.1 he).1
      have h5 := idx_lt h4 h3
      have h6 : i * k + j = n * k + ((i - n) * k + j) := by
        rw [← Nat.add_assoc, ← Nat.add_mul, Nat.add_sub_cancel' (by omega)]
      rw [h6, Array.getD_eq_getD_getElem?, h2 _ h5, ← Array.getD_eq_getD_getElem?]
      exact hy.at_ _ e j c he hc

theorem ofRange {n : Nat} (f : Nat → Value) {q : Nat} (h : q < n) : (((List.range n).map f).toArray)[q]? = some (f q) := by simp [h]

theorem firstCells_ok {x : AV} {ys : List AV} {k : Nat} {look : Mem} {v : Value} (hF : Fits A m ρ w) (hl : ∀ id b, look id = some b → m id = some b) (h : elemsOf look x = some ys) (hk : ∀ y ∈ ys, (cellsOf y).length = k) (h0 : 0 < k) (hx : Rep A m ρ w x v) :
    ∃ U : Array Value, (∀ w1, (Builtin.lenOf v).run P w1 = .ok ys.length w1) ∧ (∀ w1 : World, w1.heap = w.heap → (Builtin.firstCells k ys.length v).run P w1 = .ok U w1) ∧ RowR A m ρ w k ys U ∧ U.size = ys.length * k := by
  have cellq : ∀ {w1 : World} {ad : Addr}, w1.heap = w.heap → w1.cell? ad = w.cell? ad := fun h => by simp [World.cell?, h]
  have nil : ∀ (c : Nat) (a' : Option Addr), v = .slice a' 0 c → ys = [] → ∃ U : Array Value, (∀ w1, (Builtin.lenOf v).run P w1 = .ok ys.length w1) ∧ (∀ w1 : World, w1.heap = w.heap → (Builtin.firstCells k ys.length v).run P w1 = .ok U w1) ∧ RowR A m ρ w k ys U ∧ U.size = ys.length * k := fun c a' hv hy => by
    subst hv hy
    refine ⟨#[], fun w1 => rfl, fun w1 _ => ?_, ⟨by simp, by simp, fun i e j c he => by simp at he⟩, by simp⟩
    cases a' with
    | none => rfl
    | some ad => simp [Builtin.firstCells, loadCells, loadCellsFrom]
  unfold elemsOf at h
  split at h
  · rename_i l
    obtain rfl := Option.some.inj h
    by_cases hnil : l = []
    · subst hnil
      obtain ⟨a', cap, rfl, _⟩ := rep_list hx
      exact nil _ _ rfl rfl
    · obtain ⟨b, o', cap, k', x, rfl, hB, hkk, hxx, hr⟩ := rep_list_at hx hnil
      have hke : k' = k := by
        cases l with
        | nil => exact absurd rfl hnil
        | cons e0 l => rw [← hkk e0 (by simp), hk e0 (by simp)]
      subst hke
      have hdiv : ∀ q, q < l.length * k' → q / k' < l.length ∧ q % k' < k' ∧ q = q / k' * k' + q % k' := fun q hq => ⟨(Nat.div_lt_iff_lt_mul h0).2 hq, Nat.mod_lt _ h0, by rw [Nat.mul_comm]; exact (Nat.div_add_mod q k').symm⟩
      refine ⟨((List.range (l.length * k')).map fun q => x (q / k') (q % k')).toArray, fun w1 => rfl, fun w1 hw1 => ?_, ⟨by simp, hk, fun i e j c he hc => ?_⟩, by simp⟩
      · simp only [Builtin.firstCells]
        rw [run_loadCells w1 ⟨b, o', none⟩ (l.length * k') (fun q => x (q / k') (q % k')) (fun q hq => ?_)]
        obtain ⟨h1, h2, h3⟩ := hdiv q hq
        rw [addr_add, cellq hw1]
        have he : l[q / k']? = some l[q / k'] := by simp [h1]
        have hlen := hkk l[q / k'] (List.getElem_mem h1)
        have := hxx (q / k') l[q / k'] (q % k') ((cellsOf l[q / k'])[q % k']'(by omega)) he (by simp)
        rw [← this]
        congr 2
        omega
      · have h1 := (List.getElem?_eq_some_iff.1 he).1
        have h2 := (List.getElem?_eq_some_iff.1 hc).1
        have h3 := hkk e (List.mem_iff_getElem?.2 ⟨i, he⟩)
        have h4 := idx_lt h1 (show j < k' by omega)
        rw [Array.getD_eq_getD_getElem?, ofRange _ h4]
        have h5 : (i * k' + j) / k' = i ∧ (i * k' + j) % k' = j := by
          obtain ⟨e1, e2, e3⟩ := hdiv _ h4
          have := idx_eq (show j < k' by omega) e2 e3
          exact ⟨this.1.symm, this.2.symm⟩
        rw [h5.1, h5.2]
        exact .base (hr i e j c he hc)
  · obtain rfl := Option.some.inj h
    rw [rep_nilslice hx] at nil ⊢
    exact nil _ _ rfl rfl
  · rename_i id lo len ver
    split at h
    · rename_i k' es ver' hlk
      split at h
      · rename_i hc
        obtain rfl := Nat.eq_of_beq_eq_true hc
        obtain rfl := Option.some.inj h
        have hm := hl _ _ hlk
        obtain ⟨h3, o', c, vs, t', rfl, h4, h5, h6, h7⟩ := rep_slice hx hm
        obtain ⟨h8, vs2, t2, h9, hR⟩ := row_of_fits hF hm
        rw [h6] at h9
        cases h9
        have hlen : ((es.drop lo).take len).length = len := by simp; omega
        by_cases hz : len = 0
        · subst hz
          exact nil _ _ rfl (List.length_eq_zero_iff.1 hlen)
        · have ho := h4 (by omega)
          have hkk : k' = k := by
            have h10 : ((es.drop lo).take len)[0]? = some es[lo] := by
              rw [List.getElem?_take, if_pos (by omega), List.getElem?_drop]; simp
            rw [← hk _ (List.mem_iff_getElem?.2 ⟨0, h10⟩), hR.len _ (List.getElem_mem _)]
          subst hkk
          have hsz : (lo + len) * k' ≤ vs.size := by
            have := Nat.mul_le_mul_right k' (show lo + len ≤ lo + c by omega)
            omega
          rw [Nat.add_mul] at hsz
          refine ⟨((List.range (len * k')).map fun q => vs.getD (lo * k' + q) undef).toArray, fun w1 => by rw [hlen]; rfl, fun w1 hw1 => ?_, ⟨by rw [hlen]; simp, hk, fun i e j c' he hc' => ?_⟩, by rw [hlen]; simp⟩
          · rw [hlen]
            simp only [Builtin.firstCells]
            rw [run_loadCells w1 ⟨ρ id, o', none⟩ (len * k') (fun q => vs.getD (lo * k' + q) undef) (fun q hq => ?_)]
            rw [addr_add, cellq hw1, cell_of_cells h6, ho]
            exact getD_of (by omega)
          · rw [List.getElem?_take] at he
            split at he
            · rename_i hi
              rw [List.getElem?_drop] at he
              have h11 := (hR.lt he hc').2
              rw [Array.getD_eq_getD_getElem?, ofRange _ (idx_lt hi h11), Option.getD_some]
              have := hR.at_ _ e j c' he hc'
              rw [Nat.add_mul, Nat.add_assoc] at this
              exact this
            · cases he
      · cases h
    · cases h
  · cases h

theorem zeroCells_size (zero : Array Value) (n : Nat) : (Builtin.zeroCells zero n).size = n * zero.size := by simp [Builtin.zeroCells]

theorem growBy_le (n : Nat) : ∀ (r c : Nat), Builtin.growBy n r c ≤ max c (n + (n + 768) / 4) := by
  intro r
  induction r with
  | zero => intro c; simp [Builtin.growBy]; omega
  | succ r ih =>
    intro c
    simp only [Builtin.growBy]
    split
    · omega
    · have := ih (c + (c + 768) / 4)
      omega
theorem nextcap_le {need c : Nat} (h : c < need) : Builtin.nextslicecap need c ≤ 2 * need + 1024 := by
  unfold Builtin.nextslicecap
  split
  · omega
  · split
    · omega
    · have := growBy_le need 4 c
      omega

theorem exec_append {t t2 : TypeId} {x y : Operand} (ho : o.op = .call { callee := .builtin .append, args := #[x, y], argTypes := #[t, t2] }) {v : Value} {w' : World} (h : (Builtin.append_ #[t, t2] o.type #[a.eval x, a.eval y]).run P w = .ok v w') :
    (execOp a.eval o).run P w = .ok (.value v) w' := by
  unfold execOp
  rw [ho]
  simp [resolve, invoke, builtin, h]

theorem notInt_ok {t : TypeId} (h : notInt (P.underlying t) = true) : ∃ d, P.underlying t = some d ∧ ∀ k, d ≠ .int k := by
  cases hd : P.underlying t with
  | none => rw [hd] at h; cases h
  | some d =>
    rw [hd] at h
    exact ⟨d, rfl, fun k e => by subst e; cases h⟩

section
variable {t t2 ty : TypeId} {e : TypeId} {ei : TypeInfo} {zv : Value} {d2 : TypeDesc} {base : Option Addr} {len cap n : Nat} {vy : Value} {U : Array Value}

theorem append_in (hu : P.underlying t = some (.slice e)) (hi : P.info? e = some ei) (hd2 : P.underlying t2 = some d2) (hd2n : ∀ k, d2 ≠ .int k) (u1 : ∀ w1, (Builtin.lenOf vy).run P w1 = .ok n w1) (h : len + n ≤ cap)
    (u : (Builtin.firstCells ei.size n vy).run P w = .ok U w) {w' : World} (st : match base with | some ad => (storeCells (ad.add (len * ei.size)) U.toList).run P w = .ok () w' | none => w' = w) :
    (Builtin.append_ #[t, t2] ty #[.slice base len cap, vy]).run P w = .ok (.slice base (len + n) cap) w' := by
  cases d2 <;> first
    | exact absurd rfl (hd2n _)
    | (simp only [Builtin.append_, List.getElem?_toArray, List.getElem?_cons_zero, List.getElem?_cons_succ, Sem.run_bind, run_underlying hu, Result.andThen_ok, run_sizeOf hi, run_underlying hd2, Sem.run_pure, Bool.false_eq_true, if_false, u1, Bool.not_false, if_true]
       rw [if_pos h]
       simp only [Sem.run_bind, u, Result.andThen_ok]
       cases base with
       | none => simp only at st; subst st; rfl
       | some ad => simp only at st; simp only [Sem.run_bind, st, Result.andThen_ok]; rfl)

theorem append_out (hu : P.underlying t = some (.slice e)) (hi : P.info? e = some ei) (hd2 : P.underlying t2 = some d2) (hd2n : ∀ k, d2 ≠ .int k) (u1 : ∀ w1, (Builtin.lenOf vy).run P w1 = .ok n w1) (h : ¬ len + n ≤ cap)
    (hz : ∀ w, (zeroValue e).run P w = .ok zv w) (hby : 1 ≤ ei.bytes) (hb : (2 * (len + n) + 1024) * ei.bytes ≤ 2 ^ 48) {O : Array Value} (u : ∀ w1 : World, w1.heap = w.heap → (Builtin.firstCells ei.size n vy).run P w1 = .ok U w1)
    (uo : ∀ w1 : World, w1.heap = w.heap → (Builtin.firstCells ei.size len (.slice base len cap)).run P w1 = .ok O w1) :
    ∃ c rest, len + n ≤ c ∧ rest.size = (c - (len + n)) * zv.cells.size ∧ (Builtin.append_ #[t, t2] ty #[.slice base len cap, vy]).run P w = .ok (.slice (some ⟨w.heap.size, 0, none⟩) (len + n) c) (w.drew.alloc (.cells (O ++ U ++ rest) e)) := by
  refine ⟨(Question.appendCap (len + n) cap e).cut (w.tape w.drawn (Question.appendCap (len + n) cap e)), _, by simp only [Question.cut]; omega, zeroCells_size _ _, ?_⟩
  have hnc : ¬ (Builtin.nextslicecap (len + n) cap * ei.bytes > 2 ^ 48) := by
    have h1 := nextcap_le (show cap < len + n by omega)
    have := Nat.mul_le_mul_right ei.bytes h1
    omega
  have hb0 : ¬ ei.bytes = 0 := by omega
  cases d2 <;> first
    | exact absurd rfl (hd2n _)
    | (simp only [Builtin.append_, List.getElem?_toArray, List.getElem?_cons_zero, List.getElem?_cons_succ, Sem.run_bind, run_underlying hu, Result.andThen_ok, run_sizeOf hi, run_underlying hd2, Sem.run_pure, Bool.false_eq_true, if_false, u1, Bool.not_false, if_true]
       rw [if_neg h]
       simp only [Sem.run_bind, run_typeInfo hi, Result.andThen_ok, hb0, or_self, and_false, if_false, hnc, run_choose, Question.forced, Bool.false_eq_true, run_askRoom]
       rw [uo { w with drawn := w.drawn + 1 } rfl]
       simp only [Result.andThen_ok]
       rw [u { w with drawn := w.drawn + 1 } rfl]
       simp only [Result.andThen_ok, hz, newRow, Sem.run_bind, run_newObj, Sem.run_pure]
       rfl)
end

end
end Go.Proofs.Ytkijlggnnbdeiaa
