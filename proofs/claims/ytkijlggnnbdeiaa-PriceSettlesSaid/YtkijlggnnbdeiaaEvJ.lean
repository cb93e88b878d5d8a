/- append, joined; and every operation without a call. For every program. -/
import Derived.Test.YtkijlggnnbdeiaaEvI
set_option linter.unusedVariables false
set_option linter.unusedSimpArgs false
namespace Go.Proofs.Ytkijlggnnbdeiaa
open Go.RowKit

section
variable {P : Program} {A : Nat → Prop} {m : Mem} {ρ : Nat → Nat} {w : World} {a : Act} {o : Oper} {n0 : Nat}

theorem row_one {k : Nat} {ys : List AV} {U : Array Value} (hk0 : 0 < k) (hU : RowR A m ρ w k ys U) (u3 : U.size = ys.length * k) (hys : ∀ y ∈ ys, (cellsOf y).length = k ∧ ∀ c ∈ cellsOf y, isCell c = true) : ∀ u ∈ U.toList, oneC u = true := fun u hu => by
  obtain ⟨q, hq⟩ := List.mem_iff_getElem?.1 hu
  have hlt := (List.getElem?_eq_some_iff.1 hq).1
  rw [Array.length_toList, u3] at hlt
  have e1 : q / k < ys.length := (Nat.div_lt_iff_lt_mul hk0).2 hlt
  have e2 := Nat.mod_lt q hk0
  have e3 : q / k * k + q % k = q := by rw [Nat.mul_comm]; exact Nat.div_add_mod q k
  have hy0 := hys ys[q / k] (List.getElem_mem e1)
  have hc0 : q % k < (cellsOf ys[q / k]).length := by omega
  have := hU.at_ (q / k) ys[q / k] (q % k) (cellsOf ys[q / k])[q % k] (by simp) (by simp)
  rw [e3, Array.getD_eq_getD_getElem?, ← Array.getElem?_toList, hq] at this
  exact this.oneC (hy0.2 _ (List.getElem_mem hc0))

theorem drew_ext (m : Mem) (ρ : Nat → Nat) (w : World) : Ext m ρ w m ρ w.drew := ⟨rfl, rfl, rfl, Nat.le_refl _, fun _ _ _ => rfl, fun _ h => .inl ⟨h, rfl⟩, fun _ b h => ⟨b, h, .refl b, fun _ => ⟨rfl, fun vs t hv => ⟨vs, hv, rfl⟩⟩⟩⟩
theorem drew_fits (h : Fits A m ρ w) : Fits A m ρ w.drew := ⟨h.inj, fun id b hb => (h.at_ id b hb).mono (drew_ext m ρ w) rfl⟩

theorem append_old {t t2 : TypeId} {x y : Operand} {e : TypeId} {ei : TypeInfo} {z : AV} {ys es : List AV} {look : Mem} {id len ver : Nat} {vx : AV} (hF : Fits A m ρ w) (hl : ∀ id b, look id = some b → m id = some b)
    (ho : o.op = .call { callee := .builtin .append, args := #[x, y], argTypes := #[t, t2] }) (hu : P.underlying t = some (.slice e)) (hi : P.info? e = some ei) (hz : zeroAV P e = some z) (he : elemsOf look vx = some ys)
    (h1 : 1 ≤ ei.size) (h2 : 1 ≤ ei.bytes) (h3 : (cellsOf z).length = ei.size) (h4 : notInt (P.underlying t2) = true) (hm : m id = some (.row ei.size es ver)) (hb : (2 * (len + ys.length) + 1024) * ei.bytes ≤ 2 ^ 48)
    (hys : ∀ y ∈ ys, (cellsOf y).length = ei.size ∧ ∀ c ∈ cellsOf y, isCell c = true) (hx : Rep A m ρ w (.slice id 0 len ver) (a.eval x)) (hy : Rep A m ρ w vx (a.eval y)) (ob : List Prop) :
    OpPost P A m ρ w a o n0 ⟨.slice id 0 (len + ys.length) (ver + 1), some (id, .row ei.size (es.take len ++ ys) (ver + 1)), [], ob⟩ := by
  intro ro K Q hK
  obtain ⟨q1, o', c, vs, t', hxv, q2, q3, q4, q5⟩ := rep_slice hx hm
  obtain ⟨hk0, vs2, t3, q6, hR⟩ := row_of_fits hF hm
  rw [q4] at q6; cases q6
  obtain ⟨U, u1, u2, hU, u3⟩ := firstCells_ok hF hl he (fun y hy => (hys y hy).1) hk0 hy
  obtain ⟨d2, hd2, hd2n⟩ := notInt_ok h4
  obtain ⟨zv, hzr, hz1, hz2⟩ := zero_run hz
  have hUone := row_one hk0 hU u3 hys
  have hlk : len * ei.size ≤ es.length * ei.size := Nat.mul_le_mul_right _ (by omega)
  have hRs := hR.size
  have hlt : (es.take len).length = len := by simp; omega
  by_cases hc : len + ys.length ≤ c
  · have hck : (len + ys.length) * ei.size ≤ vs.size := by
      have := Nat.mul_le_mul_right ei.size (show len + ys.length ≤ 0 + c by omega)
      omega
    rw [Nat.add_mul] at hck
    have hst : ∃ w' vs', (storeCells (Addr.add ⟨ρ id, o', none⟩ (len * ei.size)) U.toList).run P w = .ok () w' ∧ w'.os = w.os ∧ w'.tape = w.tape ∧ w'.output = w.output ∧ w'.heap.size = w.heap.size ∧ w'.heap[ρ id]? = some (.cells vs' t' (0, 0)) ∧ vs'.size = vs.size ∧
        (∀ q, q ≠ ρ id → w'.heap[q]? = w.heap[q]?) ∧ ∀ q, vs'[q]? = if len * ei.size ≤ q ∧ q < len * ei.size + U.toList.length then U.toList[q - len * ei.size]? else vs[q]? := by
      by_cases hc0 : c = 0
      · have hU0 : U = #[] := Array.size_eq_zero_iff.1 (by rw [u3, show ys.length = 0 by omega]; simp)
        subst hU0
        exact ⟨w, vs, by simp [storeCells], rfl, rfl, rfl, rfl, q4, rfl, fun _ _ => rfl, fun q => by rw [if_neg (by rintro ⟨h8, h9⟩; have : q < len * ei.size + 0 := h9; omega)]⟩
      · have ho0 : o' = 0 := by have := q2 (by omega); simpa using this
        subst ho0
        obtain ⟨w', vs', e1, e2, e3, e4, e5, e6, e7, e8, e9⟩ := run_storeCells (P := P) U.toList (ρ id) (len * ei.size) 0 w vs t' q4 (by rw [Array.length_toList, u3]; omega) hUone
        exact ⟨w', vs', by rw [addr_add, Nat.zero_add]; exact e1, e2, e3, e4, e5, e6, e7, e8, e9⟩
    obtain ⟨w', vs', e1, e2, e3, e4, e5, e6, e7, e8, e9⟩ := hst
    have hrow : RowR A m ρ w ei.size (es.take len ++ ys) vs' := by
      refine hR.app (by omega) hU (by rw [e7, Nat.add_mul]; omega) (fun q hq => ?_) (fun q hq => ?_)
      · rw [e9, if_neg (by omega)]
      · rw [e9, if_pos (by rw [Array.length_toList, u3]; omega), Array.getElem?_toList]
        congr 1; omega
    obtain ⟨s1, s2⟩ := step_set (n0 := n0) (blk' := .row ei.size (es.take len ++ ys) (ver + 1)) hF hm ⟨rfl, by omega, fun h => by omega⟩ q4 e2 e3 e4 e5 e6 e7 e8 (fun m' he => (hrow.mono he).fits hk0 e6)
    refine wp_val (exec_append ho (by rw [hxv]; exact append_in hu hi hd2 hd2n u1 hc (u2 w rfl) e1)) (hK _ ρ w' s1 s2 ?_)
    exact .slice id 0 _ _ ei.size (es.take len ++ ys) (ver + 1) _ _ c (by simp [updM]) (Nat.le_refl _) (fun _ => ⟨by rw [List.length_append, hlt]; omega, rfl, o', vs', t', rfl, q2, hc, e6, by rw [e7]; exact q5⟩)
  · have hO : ∀ w1 : World, w1.heap = w.heap → (Builtin.firstCells ei.size len (.slice (some ⟨ρ id, o', none⟩) len c)).run P w1 = .ok ((List.range (len * ei.size)).map fun q => vs.getD q undef).toArray w1 := fun w1 hw1 => by
      simp only [Builtin.firstCells]
      by_cases hl0 : len = 0
      · subst hl0; simp [loadCells, loadCellsFrom]
      · have ho0 : o' = 0 := by have := q2 (by omega); simpa using this
        subst ho0
        rw [run_loadCells w1 ⟨ρ id, 0, none⟩ (len * ei.size) (fun q => vs.getD q undef) (fun q hq => ?_)]
        rw [addr_add, show w1.cell? ⟨ρ id, 0 + q, none⟩ = w.cell? ⟨ρ id, 0 + q, none⟩ by simp [World.cell?, hw1], cell_of_cells q4, Nat.zero_add]
        exact getD_of (by omega)
    obtain ⟨nc, rest, r1, r2, r3⟩ := append_out (ty := o.type) hu hi hd2 hd2n u1 hc hzr h2 hb u2 hO
    have hsz : (((List.range (len * ei.size)).map fun q => vs.getD q undef).toArray ++ U ++ rest).size = nc * ei.size := by
      simp only [Array.size_append, List.size_toArray, List.length_map, List.length_range, u3, r2, hz1, h3]
      rw [← Nat.add_mul, ← Nat.add_mul]; congr 1; omega
    have hrow : RowR A m ρ w ei.size (es.take len ++ ys) (((List.range (len * ei.size)).map fun q => vs.getD q undef).toArray ++ U ++ rest) := by
      refine hR.app (by omega) hU (by rw [hsz]; exact Nat.mul_le_mul_right _ r1) (fun q hq => ?_) (fun q hq => ?_)
      · rw [Array.getElem?_append_left (by simp; omega), Array.getElem?_append_left (by simpa using hq), ofRange _ hq, getD_of (by omega)]
      · rw [Array.getElem?_append_left (by simp; omega), Array.getElem?_append_right (by simp)]
        simp
    have hF1 := drew_fits hF
    have hE1 := drew_ext m ρ w
    obtain ⟨ρ', s0, s1, s2⟩ := step_move (n0 := n0) (blk' := .row ei.size (es.take len ++ ys) (ver + 1)) hF1 (.cells (((List.range (len * ei.size)).map fun q => vs.getD q undef).toArray ++ U ++ rest) e) hm ⟨rfl, by omega, fun h => by omega⟩ (by show ¬ ver = ver + 1; omega)
      (fun m' ρ' he => ((hrow.mono hE1).mono he).fits hk0 (heap_new w.drew _))
    refine wp_val (exec_append ho (by rw [hxv]; exact r3)) (hK _ ρ' _ (hE1.trans s1) s2 ?_)
    refine .slice id 0 _ _ ei.size (es.take len ++ ys) (ver + 1) _ _ nc (by simp [updM]) (Nat.le_refl _) (fun _ => ⟨by rw [List.length_append, hlt]; omega, rfl, 0, _, e, by rw [s0]; rfl, fun _ => by simp, r1, by rw [s0]; exact heap_new w.drew _, by rw [hsz]; simp⟩)

theorem append_new {t t2 : TypeId} {x y : Operand} {e : TypeId} {ei : TypeInfo} {z : AV} {ys : List AV} {look : Mem} {vx : AV} (hF : Fits A m ρ w) (hn : m n0 = none) (hl : ∀ id b, look id = some b → m id = some b)
    (ho : o.op = .call { callee := .builtin .append, args := #[x, y], argTypes := #[t, t2] }) (hu : P.underlying t = some (.slice e)) (hi : P.info? e = some ei) (hz : zeroAV P e = some z) (he : elemsOf look vx = some ys)
    (h1 : 1 ≤ ei.size) (h2 : 1 ≤ ei.bytes) (h3 : (cellsOf z).length = ei.size) (h4 : notInt (P.underlying t2) = true) (hb : (2 * ys.length + 1024) * ei.bytes ≤ 2 ^ 48) (hne : ys ≠ [])
    (hys : ∀ y ∈ ys, (cellsOf y).length = ei.size ∧ ∀ c ∈ cellsOf y, isCell c = true) (hx : Rep A m ρ w .nilslice (a.eval x)) (hy : Rep A m ρ w vx (a.eval y)) (ob : List Prop) :
    OpPost P A m ρ w a o n0 ⟨.slice n0 0 ys.length 0, none, [.row ei.size ys 0], ob⟩ := by
  obtain ⟨U, u1, u2, hU, u3⟩ := firstCells_ok hF hl he (fun y hy => (hys y hy).1) (by omega) hy
  obtain ⟨d2, hd2, hd2n⟩ := notInt_ok h4
  obtain ⟨zv, hzr, hz1, hz2⟩ := zero_run hz
  have hpos : 0 < ys.length := List.length_pos_iff.2 hne
  obtain ⟨nc, rest, r1, r2, r3⟩ := append_out (P := P) (w := w) (ty := o.type) (base := none) (len := 0) (cap := 0) hu hi hd2 hd2n u1 (by omega) hzr h2 (by rw [Nat.zero_add]; exact hb) u2 (O := #[]) (fun w1 _ => rfl)
  rw [Nat.zero_add] at r1 r2 r3
  have hsz : (#[] ++ U ++ rest).size = nc * ei.size := by
    simp only [Array.size_append, u3, r2, hz1, h3]
    rw [show (#[] : Array Value).size = 0 from rfl, Nat.zero_add, ← Nat.add_mul]; congr 1; omega
  refine post_row hF hn (w1 := w.drew) ⟨rfl, rfl, rfl, rfl⟩ (vs := #[] ++ U ++ rest) (t := e) (cap := nc) (exec_append ho (by rw [rep_nilslice hx]; exact r3)) (by omega) ?_ rfl ⟨r1, by rw [hsz]; exact Nat.le_refl _⟩
  refine ⟨by rw [hsz]; exact Nat.mul_le_mul_right _ r1, hU.len, fun i e j c he hc => ?_⟩
  have h5 := (hU.lt he hc).1
  rw [Array.getD_eq_getD_getElem?, Array.getElem?_append_left (by simp; omega), Array.getElem?_append_right (by simp)]
  simpa [Array.getD_eq_getD_getElem?] using hU.at_ i e j c he hc

theorem append_same {t t2 : TypeId} {x y : Operand} {e : TypeId} {ei : TypeInfo} {look : Mem} {vx : AV} (hF : Fits A m ρ w) (hl : ∀ id b, look id = some b → m id = some b)
    (ho : o.op = .call { callee := .builtin .append, args := #[x, y], argTypes := #[t, t2] }) (hu : P.underlying t = some (.slice e)) (hi : P.info? e = some ei) (he : elemsOf look vx = some [])
    (h1 : 1 ≤ ei.size) (h4 : notInt (P.underlying t2) = true) (hx : Rep A m ρ w .nilslice (a.eval x)) (hy : Rep A m ρ w vx (a.eval y)) (ob : List Prop) : OpPost P A m ρ w a o n0 ⟨.nilslice, none, [], ob⟩ := by
  obtain ⟨U, u1, u2, hU, u3⟩ := firstCells_ok (k := ei.size) hF hl he (fun y hy => by simp at hy) (by omega) hy
  obtain ⟨d2, hd2, hd2n⟩ := notInt_ok h4
  refine post_pure hF (exec_append ho ?_) (.base .nilslice)
  rw [rep_nilslice hx]
  exact append_in (base := none) (len := 0) (cap := 0) hu hi hd2 hd2n u1 (by simp) (u2 w rfl) rfl

theorem append_ok {t t2 : TypeId} {x y : Operand} {vs vx : AV} {look : Mem} {r : AppR} {ob : List Prop} (hF : Fits A m ρ w) (hn : (∃ b, r = .new b) → m n0 = none) (hl : ∀ id b, look id = some b → m id = some b)
    (ho : o.op = .call { callee := .builtin .append, args := #[x, y], argTypes := #[t, t2] }) (h : evAppend P t t2 vs vx look = some (r, ob)) (hob : AllP ob) (hx : Rep A m ρ w vs (a.eval x)) (hy : Rep A m ρ w vx (a.eval y)) :
    match r with
    | .same v => OpPost P A m ρ w a o n0 ⟨v, none, [], ob⟩
    | .old id b v => OpPost P A m ρ w a o n0 ⟨v, some (id, b), [], ob⟩
    | .new (.row k es ver) => OpPost P A m ρ w a o n0 ⟨.slice n0 0 es.length 0, none, [.row k es ver], ob⟩
    | .new _ => True := by
  unfold evAppend at h
  split at h
  · rename_i e hu
    split at h
    · rename_i ei z ys hi hz he
      split at h
      · rename_i hc
        simp only [Bool.and_eq_true, Nat.beq_eq] at hc
        obtain ⟨⟨⟨c1, c2⟩, c3⟩, c4⟩ := hc
        have c1 := Nat.le_of_ble_eq_true c1
        have c2 := Nat.le_of_ble_eq_true c2
        split at h
        · rename_i id lo len ver
          split at h
          · rename_i k es ver' hlk
            split at h
            · rename_i hv
              simp only [Bool.and_eq_true, Nat.beq_eq] at hv
              obtain ⟨⟨rfl, rfl⟩, rfl⟩ := hv
              cases h
              exact append_old hF hl ho hu hi hz he c1 c2 c3 c4 (hl _ _ hlk) hob.1 hob.2.1 hx hy _
            · cases h
          · cases h
        · split at h
          · cases h
            exact append_same hF hl ho hu hi he c1 c4 hx hy _
          · cases h
            exact append_new hF (hn ⟨_, rfl⟩) hl ho hu hi hz he c1 c2 c3 c4 hob.1 (by simp) hob.2.1 hx hy _
        · cases h
      · cases h
    · cases h
  · cases h

/-! ### Every operation -/

theorem fin_post {s : Sup} {r : ORes} (h : OpPost P A m ρ w a o n0 r) (hob : AllP (fin s r).ob) : OpPost P A m ρ w a o n0 (fin s r) := by
  unfold fin at hob ⊢
  split
  · have : r.v = _ := hob.1
    intro ro K Q hK
    exact h ro K Q fun v ρ' w' h1 h2 h3 => hK v ρ' w' h1 h2 (this ▸ h3)
  · rename_i l
    have e : reRow l r.wr = r.wr := by
      have h1 : reOb l r.wr := hob.1
      revert h1
      cases r.wr with
      | none => intro _; rfl
      | some x =>
        obtain ⟨id, b⟩ := x
        cases b with
        | cells _ => intro _; rfl
        | row k es ver => intro h1; simp only [reOb] at h1; subst h1; rfl
    show OpPost P A m ρ w a o n0 ⟨r.v, reRow l r.wr, r.ns, _⟩
    rw [e]
    exact h
  · rename_i l
    have e : reRow l r.wr = r.wr := by
      have h1 : reOb l r.wr := hob.1
      revert h1
      cases r.wr with
      | none => intro _; rfl
      | some x =>
        obtain ⟨id, b⟩ := x
        cases b with
        | cells _ => intro _; rfl
        | row k es ver => intro h1; simp only [reOb] at h1; subst h1; rfl
    show OpPost P A m ρ w a o n0 ⟨r.v, reRow l r.wr, r.ns, _⟩
    rw [e]
    exact h
  · exact h
theorem fin_ob {s : Sup} {r : ORes} (hob : AllP (fin s r).ob) : AllP r.ob := by
  unfold fin at hob
  split at hob
  · exact hob.2
  · exact hob.2
  · exact hob.2
  · exact hob

theorem post_p {x : Option AV} {r : ORes} {s : Sem Value} (hF : Fits A m ρ w) (h : x.map (fun v => (⟨v, none, [], []⟩ : ORes)) = some r) (ho : execOp a.eval o = (do pure (.value (← s)))) (hs : ∀ v, x = some v → ∃ u, s.run P w = .ok u w ∧ Rep A m ρ w v u) : OpPost P A m ρ w a o n0 r := by
  obtain ⟨v, h1, rfl⟩ := Option.map_eq_some_iff.1 h
  obtain ⟨u, h2, h3⟩ := hs v h1
  exact post_pure hF (exec_v ho h2) h3
theorem post_q {x : Option (AV × List Prop)} {r : ORes} {s : Sem Value} (hF : Fits A m ρ w) (h : x.map (fun v => (⟨v.1, none, [], v.2⟩ : ORes)) = some r) (ho : execOp a.eval o = (do pure (.value (← s)))) (hob : AllP r.ob)
    (hs : ∀ v ob, x = some (v, ob) → AllP ob → ∃ u, s.run P w = .ok u w ∧ Rep A m ρ w v u) : OpPost P A m ρ w a o n0 r := by
  obtain ⟨⟨v, ob⟩, h1, rfl⟩ := Option.map_eq_some_iff.1 h
  obtain ⟨u, h2, h3⟩ := hs v ob h1 hob
  exact post_pure hF (exec_v ho h2) h3

theorem exec_builtin {b : Builtin} {args : Array Operand} {ts : Array TypeId} {s : Sem Value} (ho : o.op = .call { callee := .builtin b, args := args, argTypes := ts }) (h : ∀ cs, builtin b ts o.type cs (args.map a.eval) = (do pure (.value (← s)))) :
    execOp a.eval o = (do pure (.value (← s))) := by
  unfold execOp
  rw [ho]
  simp only [resolve, pure_bind, invoke, h]

end
end Go.Proofs.Ytkijlggnnbdeiaa
