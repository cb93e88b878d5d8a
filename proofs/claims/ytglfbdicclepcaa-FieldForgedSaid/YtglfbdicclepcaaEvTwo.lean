/- An append whose slice is read again under its old name: two outcomes. -/
import Derived.Test.YtglfbdicclepcaaEvH
set_option linter.unusedVariables false
set_option linter.unusedSimpArgs false
namespace Go.Proofs.Ytglfbdicclepcaa
open Go.RowKit
set_option maxRecDepth 100000
section
variable {P : Program} {A : Nat → Prop} {m : Mem} {ρ : Nat → Nat} {w : World} {a : Act} {o : Oper} {n0 : Nat}
theorem append_two {t t2 : TypeId} {x y : Operand} {e : TypeId} {ei : TypeInfo} {z : AV} {ys es : List AV} {look : Mem} {id len ver : Nat} {vx : AV} (hF : Fits A m ρ w) (hl : ∀ id b, look id = some b → m id = some b)
    (ho : o.op = .call { callee := .builtin .append, args := #[x, y], argTypes := #[t, t2] }) (hu : P.underlying t = some (.slice e)) (hi : P.info? e = some ei) (hz : zeroAV P e = some z) (he : elemsOf look vx = some ys)
    (h1 : 1 ≤ ei.size) (h2 : 1 ≤ ei.bytes) (h3 : (cellsOf z).length = ei.size) (h4 : notInt (P.underlying t2) = true) (hm : m id = some (.row ei.size es ver)) (hb : (5 * (len + ys.length) + 4096) * ei.bytes ≤ 2 ^ 50)
    (hys : ∀ y ∈ ys, (cellsOf y).length = ei.size ∧ ∀ c ∈ cellsOf y, isCell c = true) (hx : Rep A m ρ w (.slice id 0 len ver) (a.eval x)) (hy : Rep A m ρ w vx (a.eval y)) (hlen : len = es.length) (hn : m n0 = none) {ro : Option Nat} {K : Act → World → Prop} {Q : Exit → Act → World → Prop}
    (hK1 : ∀ v ρ' w', Ext m ρ w (updM m (some (id, .row ei.size (es.take len ++ ys) (ver + 1))) n0 []) ρ' w' → Fits A (updM m (some (id, .row ei.size (es.take len ++ ys) (ver + 1))) n0 []) ρ' w' → Rep A (updM m (some (id, .row ei.size (es.take len ++ ys) (ver + 1))) n0 []) ρ' w' (.slice id 0 (len + ys.length) (ver + 1)) v → (∀ u, Rep A m ρ w (.slice id 0 len ver) u → Rep A (updM m (some (id, .row ei.size (es.take len ++ ys) (ver + 1))) n0 []) ρ' w' (.slice id 0 len (ver + 1)) u) → K (a.put o.dst v) w')
    (hK2 : ∀ v ρ' w', Ext m ρ w (updM m none n0 [.row ei.size (es.take len ++ ys) 0]) ρ' w' → Fits A (updM m none n0 [.row ei.size (es.take len ++ ys) 0]) ρ' w' → Rep A (updM m none n0 [.row ei.size (es.take len ++ ys) 0]) ρ' w' (.slice n0 0 (len + ys.length) 0) v → K (a.put o.dst v) w') : o.wpIn (FR ro) 0 P a w K Q := by
  obtain ⟨q1, o', c, vs, t', hxv, q2, q3, q4, q5⟩ := rep_slice hx hm
  obtain ⟨hk0, vs2, t3, q6, hR⟩ := row_of_fits hF hm
  rw [q4] at q6; cases q6
  obtain ⟨U, u1, u2, hU, u3⟩ := firstCells_ok hF hl he (fun y hy => (hys y hy).1) hk0 hy
  obtain ⟨d2, hd2, hd2n⟩ := notInt_ok h4
  obtain ⟨zv, hzr, hz1, hz2⟩ := zero_run hz
  have hUone := row_one hk0 hU u3 hys
  have hlk : len * ei.size ≤ es.length * ei.size := Nat.mul_le_mul_right _ (by omega)
  have hRs := hR.size
  have hlt : (es.take len).length = len := by simp; omega
  by_cases hc : len + ys.length ≤ c
  · have hck : (len + ys.length) * ei.size ≤ vs.size := by
      have := Nat.mul_le_mul_right ei.size (show len + ys.length ≤ 0 + c by omega)
      omega
    rw [Nat.add_mul] at hck
    have hst : ∃ w' vs', (storeCells (Addr.add ⟨ρ id, o', none⟩ (len * ei.size)) U.toList).run P w = .ok () w' ∧ w'.os = w.os ∧ w'.tape = w.tape ∧ w'.output = w.output ∧ w'.heap.size = w.heap.size ∧ w'.heap[ρ id]? = some (.cells vs' t' (0, 0)) ∧ vs'.size = vs.size ∧
        (∀ q, q ≠ ρ id → w'.heap[q]? = w.heap[q]?) ∧ ∀ q, vs'[q]? = if len * ei.size ≤ q ∧ q < len * ei.size + U.toList.length then U.toList[q - len * ei.size]? else vs[q]? := by
      by_cases hc0 : c = 0
      · have hU0 : U = #[] := Array.size_eq_zero_iff.1 (by rw [u3, show ys.length = 0 by omega]; simp)
        subst hU0
        exact ⟨w, vs, by simp [storeCells], rfl, rfl, rfl, rfl, q4, rfl, fun _ _ => rfl, fun q => by rw [if_neg (by rintro ⟨h8, h9⟩; have : q < len * ei.size + 0 := h9; omega)]⟩
      · have ho0 : o' = 0 := by have := q2 (by omega); simpa using this
        subst ho0
        obtain ⟨w', vs', e1, e2, e3, e4, e5, e6, e7, e8, e9⟩ := run_storeCells (P := P) U.toList (ρ id) (len * ei.size) 0 w vs t' q4 (by rw [Array.length_toList, u3]; omega) hUone
        exact ⟨w', vs', by rw [addr_add, Nat.zero_add]; exact e1, e2, e3, e4, e5, e6, e7, e8, e9⟩
    obtain ⟨w', vs', e1, e2, e3, e4, e5, e6, e7, e8, e9⟩ := hst
    have hrow : RowR A m ρ w ei.size (es.take len ++ ys) vs' := by
      refine hR.app (by omega) hU (by rw [e7, Nat.add_mul]; omega) (fun q hq => ?_) (fun q hq => ?_)
      · rw [e9, if_neg (by omega)]
      · rw [e9, if_pos (by rw [Array.length_toList, u3]; omega), Array.getElem?_toList]
        congr 1; omega
    obtain ⟨s1, s2⟩ := step_set (n0 := n0) (blk' := .row ei.size (es.take len ++ ys) (ver + 1)) hF hm ⟨rfl, by omega, fun h => by omega⟩ q4 e2 e3 e4 e5 e6 e7 e8 (fun m' he => (hrow.mono he).fits hk0 e6)
    refine wp_val (exec_append ho (by rw [hxv]; exact append_in hu hi hd2 hd2n u1 hc (u2 w rfl) e1)) (hK1 _ ρ w' s1 s2 ?_ fun u hu => ?_)
    rotate_left
    · obtain ⟨p1, o2, c2, vs2, t2', hxv2, p2, p3, p4, p5⟩ := rep_slice hu hm
      rw [q4] at p4; cases p4
      rw [hxv2]
      exact .slice id 0 _ _ ei.size (es.take len ++ ys) (ver + 1) _ _ c2 (by simp [updM]) (Nat.le_refl _) (fun _ => ⟨by rw [List.length_append, hlt]; omega, rfl, o2, vs', t', rfl, p2, p3, e6, by rw [e7]; exact p5⟩)
    exact .slice id 0 _ _ ei.size (es.take len ++ ys) (ver + 1) _ _ c (by simp [updM]) (Nat.le_refl _) (fun _ => ⟨by rw [List.length_append, hlt]; omega, rfl, o', vs', t', rfl, q2, hc, e6, by rw [e7]; exact q5⟩)
  · have hO : ∀ w1 : World, w1.heap = w.heap → (Builtin.firstCells ei.size len (.slice (some ⟨ρ id, o', none⟩) len c)).run P w1 = .ok ((List.range (len * ei.size)).map fun q => vs.getD q undef).toArray w1 := fun w1 hw1 => by
      simp only [Builtin.firstCells]
      by_cases hl0 : len = 0
      · subst hl0; simp [loadCells, loadCellsFrom]
      · have ho0 : o' = 0 := by have := q2 (by omega); simpa using this
        subst ho0
        rw [run_loadCells w1 ⟨ρ id, 0, none⟩ (len * ei.size) (fun q => vs.getD q undef) (fun q hq => ?_)]
        rw [addr_add, show w1.cell? ⟨ρ id, 0 + q, none⟩ = w.cell? ⟨ρ id, 0 + q, none⟩ by simp [World.cell?, hw1], cell_of_cells q4, Nat.zero_add]
        exact getD_of (by omega)
    obtain ⟨nc, rest, r1, r2, r3⟩ := append_out (ty := o.type) hu hi hd2 hd2n u1 hc hzr h2 hb u2 hO
    have hsz : (((List.range (len * ei.size)).map fun q => vs.getD q undef).toArray ++ U ++ rest).size = nc * ei.size := by
      simp only [Array.size_append, List.size_toArray, List.length_map, List.length_range, u3, r2, hz1, h3]
      rw [← Nat.add_mul, ← Nat.add_mul]; congr 1; omega
    have hrow : RowR A m ρ w ei.size (es.take len ++ ys) (((List.range (len * ei.size)).map fun q => vs.getD q undef).toArray ++ U ++ rest) := by
      refine hR.app (by omega) hU (by rw [hsz]; exact Nat.mul_le_mul_right _ r1) (fun q hq => ?_) (fun q hq => ?_)
      · rw [Array.getElem?_append_left (by simp; omega), Array.getElem?_append_left (by simpa using hq), ofRange _ hq, getD_of (by omega)]
      · rw [Array.getElem?_append_left (by simp; omega), Array.getElem?_append_right (by simp)]
        simp
    exact post_row (ob := []) hF hn (w1 := w.drew) ⟨rfl, rfl, rfl, rfl⟩ (t := e) (cap := nc) (exec_append ho (by rw [hxv]; exact r3)) hk0 hrow (by rw [List.length_append, hlt]) ⟨r1, by rw [hsz]; exact Nat.le_refl _⟩ ro K Q hK2
end
section
variable {P : Program} {Q : EvX → St → Prop} {c : Code} {p : List Nat} {Λ : Lm} {st : St}
theorem OkP.two {ops : Array Oper} {rid : Nat} {l1 l2 : List Oper} {o : Oper} {x y : Operand} {t t2 e : TypeId} {ei : TypeInfo} {z : AV} {es ys : List AV} (id len ver sl : Nat) (ss1 ssa ssb : List Sup) {s1 sa sb : St} {M1 M2 : List Blk} {ob1 oba obb : List Prop}
    (hob1 : AllP ob1) (hoba : AllP oba) (hobb : AllP obb) (hlen : len = es.length) (hb : (5 * (len + ys.length) + 4096) * ei.bytes ≤ 2 ^ 50) (hys : ∀ y ∈ ys, (cellsOf y).length = ei.size ∧ ∀ c ∈ cellsOf y, isCell c = true)
    (ka : OkP 0 P c (some .normal) p Λ sa Q) (kb : OkP 0 P c (some .normal) p Λ sb Q)
    (hc : cE c (rl p) = .region rid ops false) (hops : ops.toList = l1 ++ o :: l2) (h1 : evSeq P ops.toList l1 ss1 st = some (s1, [], ob1)) (hw : wantedAV ops.toList s1.τ o = some true)
    (ho : o.op = .call { callee := .builtin .append, args := #[x, y], argTypes := #[t, t2] }) (hu : P.underlying t = some (.slice e)) (hi : P.info? e = some ei) (hz : zeroAV P e = some z) (g1 : 1 ≤ ei.size) (g2 : 1 ≤ ei.bytes) (g3 : (cellsOf z).length = ei.size) (g4 : notInt (P.underlying t2) = true)
    (hx : opd s1.τ x = .slice id 0 len ver) (hm : memL s1.mem id = some (.row ei.size es ver)) (he : elemsOf (memL s1.mem) (opd s1.τ y) = some ys) (hsl : s1.tmps[sl]? = some (.slice id 0 len ver))
    (hM1 : applyR s1.mem ⟨.slice id 0 (len + ys.length) (ver + 1), some (id, .row ei.size (es.take len ++ ys) (ver + 1)), [], []⟩ = some M1) (hM2 : applyR s1.mem ⟨.slice s1.mem.length 0 (len + ys.length) 0, none, [.row ei.size (es.take len ++ ys) 0], []⟩ = some M2)
    (h2 : evSeq P ops.toList l2 ssa (St.put ⟨s1.tmps.set sl (.slice id 0 len (ver + 1)), M1⟩ o.dst (.slice id 0 (len + ys.length) (ver + 1))) = some (sa, [], oba))
    (h3 : evSeq P ops.toList l2 ssb (St.put ⟨s1.tmps, M2⟩ o.dst (.slice s1.mem.length 0 (len + ys.length) 0)) = some (sb, [], obb)) : OkP 0 P c none p Λ st Q := fun B hB ρ a w hA0 => by
  have hE : Env0 B := ⟨fun id => by
    by_cases h : B.m id = none
    · exact h
    · exact absurd (hB id h) (Nat.not_lt_zero _)⟩
  show (cE c (rl p)).wpIn (FR B.ro) 0 P (postW B 0 P Q (frm c (rl p) (Λ.lst []) [])) a w
  rw [hc]
  refine at_region ?_
  have hsz : ops.size = (l1 ++ o :: l2).length := by rw [← hops, Array.length_toList]
  rw [hsz]
  refine at_ops hE l1 (o :: l2) 0 ss1 st s1 ob1 ρ a w (by rw [List.drop_zero]; exact hops) h1 hob1 hA0 fun a1 ρ1 w1 hA1 _ => ?_
  rw [List.length_cons, List.range'_succ, wpOpsIn_cons]
  obtain ⟨ds, hR, hG⟩ := hA1.ds
  have hk : ops[0 + l1.length]? = some o := by
    rw [← Array.getElem?_toList, hops, Nat.zero_add, List.getElem?_append_right (Nat.le_refl _)]; simp
  have hw' := wanted_ok (ops := ops) (fun _ _ t _ _ => hR.eval t) hw
  have hdr : ops.toList.drop (0 + l1.length + 1) = l2 ++ [] := by rw [hops, Nat.zero_add]; simp
  unfold wpOpIn
  rw [hk]
  simp only [hw', if_true]
  have hn : memL s1.mem s1.mem.length = none := memL_out s1.mem 0
  refine append_two hR.fits (fun _ _ h => h) ho hu hi hz he g1 g2 g3 g4 hm hb hys (by rw [← hx]; exact hR.opd x) (hR.opd y) hlen hn (fun v ρ' w' e1 e2 e3 e4 => ?_) (fun v ρ' w' e1 e2 e3 => ?_)
  · have em := applyR_ok hM1
    rw [← em] at e1 e2 e3
    have hs := hR.step e1 e2
    have hs' : RS (ds ++ B.dd) B.A ρ' ⟨s1.tmps.set sl (.slice id 0 len (ver + 1)), M1⟩ a1 w' := ⟨hs.fits, by rw [List.length_set]; exact hs.size, hs.df, fun t v hv => by
      rw [List.getElem?_set] at hv
      split at hv
      · rename_i h; subst h
        split at hv
        · cases hv
          have := e4 _ (hR.rep _ _ hsl)
          rw [← em] at this; exact this
        · cases hv
      · exact hs.rep t v hv⟩
    have hs2 := hs'.put o.dst e3
    have hA' := At.step hA1.ro hA1.up hR hG hs2 (by
      have : ∀ (s : St) (d : Option Nat) (r : AV), (s.put d r).mem = s.mem := fun s d r => by cases d <;> rfl
      rw [this]; exact e1)
    have q := at_ops hE l2 [] (0 + l1.length + 1) ssa _ sa oba ρ' _ w' hdr h2 hoba hA' (K := postW B 0 P Q (frm c (rl p) (Λ.lst []) [])) fun a2 ρ2 w2 hA2 _ => ka B hB ρ2 a2 w2 hA2
    rw [List.append_nil] at q; exact q
  · have em := applyR_ok hM2
    rw [← em] at e1 e2 e3
    have hs2 := (hR.step e1 e2).put o.dst e3
    have hA' := At.step hA1.ro hA1.up hR hG hs2 (by
      have : ∀ (s : St) (d : Option Nat) (r : AV), (s.put d r).mem = s.mem := fun s d r => by cases d <;> rfl
      rw [this]; exact e1)
    have q := at_ops hE l2 [] (0 + l1.length + 1) ssb _ sb obb ρ' _ w' hdr h3 hobb hA' (K := postW B 0 P Q (frm c (rl p) (Λ.lst []) [])) fun a2 ρ2 w2 hA2 _ => kb B hB ρ2 a2 w2 hA2
    rw [List.append_nil] at q; exact q
/-- Both outcomes, computed. -/
def bothE (P : Program) (c : Code) (i id len ver sl : Nat) (ss1 ssa ssb : List Sup) (st : St) : Option (St × St × List Prop) :=
  match c with
  | .region _ ops false => match ops.toList.drop i with
    | o :: l2 => match evSeq P ops.toList (ops.toList.take i) ss1 st with
      | some (s1, [], ob1) => match wantedAV ops.toList s1.τ o, o.op with
        | some true, .call { callee := .builtin .append, args := ⟨[x, y]⟩, argTypes := ⟨[t, t2]⟩ } => match P.underlying t with
          | some (.slice e) => match P.info? e, zeroAV P e, elemsOf (memL s1.mem) (opd s1.τ y), memL s1.mem id, opd s1.τ x, s1.tmps[sl]? with
            | some ei, some z, some ys, some (.row k es ver1), .slice id2 0 len2 ver2, some (.slice id3 0 len3 ver3) =>
              if Nat.ble 1 ei.size && Nat.ble 1 ei.bytes && Nat.beq (cellsOf z).length ei.size && notInt (P.underlying t2) && Nat.beq k ei.size && Nat.beq ver1 ver && Nat.beq id2 id && Nat.beq ver2 ver && Nat.beq id3 id && Nat.beq ver3 ver then
                match applyR s1.mem ⟨.slice id 0 (len + ys.length) (ver + 1), some (id, .row ei.size (es.take len ++ ys) (ver + 1)), [], []⟩, applyR s1.mem ⟨.slice s1.mem.length 0 (len + ys.length) 0, none, [.row ei.size (es.take len ++ ys) 0], []⟩ with
                | some M1, some M2 => match evSeq P ops.toList l2 ssa (St.put ⟨s1.tmps.set sl (.slice id 0 len (ver + 1)), M1⟩ o.dst (.slice id 0 (len + ys.length) (ver + 1))), evSeq P ops.toList l2 ssb (St.put ⟨s1.tmps, M2⟩ o.dst (.slice s1.mem.length 0 (len + ys.length) 0)) with
                  | some (sa, [], oba), some (sb, [], obb) => some (sa, sb, [len = es.length, len2 = len, len3 = len, (5 * (len + ys.length) + 4096) * ei.bytes ≤ 2 ^ 50, ∀ y ∈ ys, (cellsOf y).length = ei.size ∧ ∀ c ∈ cellsOf y, isCell c = true] ++ (ob1 ++ (oba ++ obb)))
                  | _, _ => none
                | _, _ => none
              else none
            | _, _, _, _, _, _ => none
          | _ => none
        | _, _ => none
      | _ => none
    | _ => none
  | _ => none
theorem OkP.both (i id len ver sl : Nat) (ss1 ssa ssb : List Sup) {sa sb : St} {ob : List Prop} (hob : AllP ob) (ka : OkP 0 P c (some .normal) p Λ sa Q) (kb : OkP 0 P c (some .normal) p Λ sb Q) (h : bothE P (cE c (rl p)) i id len ver sl ss1 ssa ssb st = some (sa, sb, ob) := by kernel_rfl) : OkP 0 P c none p Λ st Q := by
  generalize hc : cE c (rl p) = C at h
  unfold bothE at h
  split at h
  · rename_i rid ops
    split at h
    · rename_i o l2 hd
      split at h
      · rename_i s1 ob1 h1
        split at h
        · rename_i x y t t2 hw ho
          split at h
          · rename_i e hu
            split at h
            · rename_i ei z ys k es ver1 id2 len2 ver2 id3 len3 ver3 hi hz he hm hx hsl
              split at h
              · rename_i hcc
                simp only [Bool.and_eq_true, Nat.beq_eq] at hcc
                obtain ⟨⟨⟨⟨⟨⟨⟨⟨⟨c1, c2⟩, c3⟩, c4⟩, c5⟩, c6⟩, c7⟩, c8⟩, c9⟩, c10⟩ := hcc
                have c1 := Nat.le_of_ble_eq_true c1
                have c2 := Nat.le_of_ble_eq_true c2
                split at h
                · rename_i M1 M2 hM1 hM2
                  split at h
                  · rename_i sa1 oba sb1 obb h2 h3
                    cases h
                    obtain ⟨q1, q2, q3, q4, q5, q6⟩ := hob
                    obtain ⟨hob1, hob2⟩ := AllP.append (l := ob1) (l' := oba ++ obb) q6
                    obtain ⟨hoba, hobb⟩ := AllP.append (l := oba) (l' := obb) hob2
                    subst c5 c6 c7 c8 c9 c10 q2 q3
                    have hops : ops.toList = ops.toList.take i ++ o :: l2 := by rw [← hd, List.take_append_drop]
                    exact OkP.two _ _ _ sl ss1 ssa ssb hob1 hoba hobb q1 q4 q5 ka kb hc hops h1 hw ho hu hi hz c1 c2 c3 c4 hx hm he hsl hM1 hM2 h2 h3
                  · cases h
                · cases h
              · cases h
            · cases h
          · cases h
        · cases h
      · cases h
    · cases h
  · cases h
end
end Go.Proofs.Ytglfbdicclepcaa
