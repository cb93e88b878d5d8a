/- Expressions and conditions that were read: how they lie in a world. For every program that has them. -/
import Derived.Test.YtfhfdenmcneamaaRows
import Derived.Test.YtfhfdenmcneamaaTr
import Derived.Test.YtfhfdenmcneamaaEvV
set_option linter.unusedVariables false
set_option linter.unusedSimpArgs false
namespace Go.Proofs.Ytfhfdenmcneamaa
open Go.RowKit Go.WideShapes Go.ChangeShapes
set_option maxRecDepth 100000

theorem bulk_pos {H : Type} (d : DataW H) : 1 ≤ Rows.uptoBulk d := by
  cases d with
  | lit l => cases l <;> simp [Rows.uptoBulk]
  | _ => simp [Rows.uptoBulk]
theorem bulk_sum {H : Type} {α : Type} (f : α → Nat) (g : List α → Nat) (g0 : g [] = 0) (g1 : ∀ x l, g (x :: l) = f x + g l) : ∀ (l : List α) (ds : List (DataW H)), l.length = ds.length → (∀ i (h : i < l.length) (h' : i < ds.length), f l[i] ≤ Rows.uptoBulk ds[i]) → g l ≤ Rows.uptoBulkAll ds
  | [], _, _, _ => by rw [g0]; omega
  | x :: l, [], h, _ => by simp at h
  | x :: l, d :: ds, h, hp => by
    rw [g1]
    simp only [Rows.uptoBulkAll]
    have h0 := hp 0 (by simp) (by simp)
    have h1 := bulk_sum f g g0 g1 l ds (by simpa using h) (fun i hi hi' => by have := hp (i + 1) (by simp; omega) (by simp; omega); simpa only [List.getElem_cons_succ] using this)
    simp at h0
    omega
section
variable {P : Program} {H : Type} {enc : TypeId × Value → H} {w : World} {base : Nat} {spare : Nat → Bool} {held : Bool}
/-- A slice whose elements lie lies. -/
theorem slice_lies {α : Type} (f : α → AV) (p : α → DataW H → Prop) {t e : TypeId} (hu : P.underlying t = some (.slice e)) (hoc : 1 ≤ P.cellsOf e) (hk : ∀ a, (cellsOf (f a)).length = P.cellsOf e) {fuel : Nat} {cs : List Value} {x : DataW H × List MemPlace}
    (h : DataW.trod enc P w base spare held fuel t cs = some x) (elem : ∀ (d : Nat) (cs' : List Value) (y : DataW H × List MemPlace), d < fuel → DataW.trod enc P w base spare held d e cs' = some y → ∃ a : α, LiesC w (cellsOf (f a)) cs' ∧ p a y.1) :
    ∃ (l : List α) (ds : List (DataW H)), LiesC w [.list (l.map f)] cs ∧ l.length ≤ maxLen ∧ ds.length = l.length ∧ (∀ (i : Nat) (h : i < l.length) (h' : i < ds.length), p l[i] ds[i]) ∧ Rows.uptoBulkAll ds + 1 ≤ Rows.uptoBulk x.1 := by
  rcases DataW.trod_slice hu h with ⟨rfl, rfl⟩ | ⟨a, len, cap, elems, rest, n, hn, rfl, hx1, hb, hl, hm, hlen, hel, _, _⟩
  · exact ⟨[], [], .one (.lnil none 0 (fun _ => rfl)), Nat.zero_le _, rfl, fun i h => by simp at h, by simp [Rows.uptoBulk, Rows.uptoBulkAll]⟩
  · have hone : ∀ i, i < len → ∃ a' : α, ∀ hi : i < elems.length, (∀ j c, (cellsOf (f a'))[j]? = some c → ∃ v, w.cell? ((a.add (i * P.cellsOf e)).add j) = some v ∧ RI w (fun b => b < w.heap.size) c v) ∧ p a' elems[i].1 := fun i hi => by
      have h1 := hel i hi
      have h2 : elems[i]? = some (elems[i]'(by omega)) := List.getElem?_eq_getElem (by omega)
      rw [h2] at h1
      obtain ⟨cs', h3, h4⟩ := Option.bind_eq_some_iff.1 h1
      obtain ⟨h5, h6⟩ := cells_get h3
      obtain ⟨a', h7, h8⟩ := elem n cs' _ (by omega) h4
      refine ⟨a', fun _ => ⟨fun j c hc => ?_, h8⟩⟩
      have hj := (List.getElem?_eq_some_iff.1 hc).1
      rw [hk] at hj
      refine ⟨cs'.getD j undef, ?_, h7.2 j c hc⟩
      rw [h6 j hj, List.getD_eq_getElem?_getD, List.getElem?_eq_getElem (by omega)]; rfl
    obtain ⟨l, hll, hlp⟩ := ex_list len hone
    have hget : ∀ i (hi : i < l.length), (∀ j c, (cellsOf (f l[i]))[j]? = some c → ∃ v, w.cell? ((a.add (i * P.cellsOf e)).add j) = some v ∧ RI w (fun b => b < w.heap.size) c v) ∧ p l[i] (elems[i]'(by omega)).1 := fun i hi => hlp i l[i] (List.getElem?_eq_getElem hi) (by omega)
    refine ⟨l, elems.map (·.1), .one ?_, by omega, by simp [hlen, hll], fun i hi hi' => by simpa using (hget i hi).2, ?_⟩
    · by_cases h0 : len = 0
      · have : l = [] := List.length_eq_zero_iff.1 (by omega)
        subst this h0
        exact .lnil _ _ (fun h => by cases h)
      · have first : ∃ v, w.cell? ((a.add (0 * P.cellsOf e)).add 0) = some v := by
          have hl0 : 0 < l.length := by rw [hll]; exact Nat.pos_of_ne_zero h0
          obtain ⟨p3, _⟩ := hget 0 hl0
          have hq : 0 < (cellsOf (f l[0])).length := by rw [hk (l[0])]; exact hoc
          obtain ⟨c, hc⟩ : ∃ c, (cellsOf (f l[0]))[0]? = some c := ⟨_, List.getElem?_eq_getElem hq⟩
          obtain ⟨v, hv, _⟩ := p3 0 c hc
          exact ⟨v, hv⟩
        obtain ⟨v0, hv0⟩ := first
        have hsp : a.spot = none := spot_plain (o := 0) (by simpa [Addr.add] using hv0) rfl
        obtain ⟨b, o, sp⟩ := a
        obtain rfl : sp = none := hsp
        have hblk : b < w.heap.size := by
          have := World.block_lt_of_cell? w _ hv0
          simpa [Addr.add] using this
        rw [show len = (l.map f).length by simp [hll]]
        have hval : ∀ i e' j c, (l.map f)[i]? = some e' → (cellsOf e')[j]? = some c → w.cell? ⟨b, o + i * P.cellsOf e + j, none⟩ = some ((w.cell? ⟨b, o + i * P.cellsOf e + j, none⟩).getD undef) ∧ RI w (fun b => b < w.heap.size) c ((w.cell? ⟨b, o + i * P.cellsOf e + j, none⟩).getD undef) := fun i e' j c he hc => by
          rw [List.getElem?_map] at he
          obtain ⟨q, hq, rfl⟩ := Option.map_eq_some_iff.1 he
          obtain ⟨hi, hq2⟩ := List.getElem?_eq_some_iff.1 hq
          subst hq2
          obtain ⟨v, hv, hr⟩ := (hget i hi).1 j c hc
          rw [addr_add, addr_add] at hv
          rw [hv]; exact ⟨rfl, hr⟩
        refine .list (l.map f) b o cap (P.cellsOf e) (fun i j => (w.cell? ⟨b, o + i * P.cellsOf e + j, none⟩).getD undef) (by rw [List.length_map]; omega) (fun _ => hblk) (fun y hy => ?_) (fun i e' j c he hc => (hval i e' j c he hc).1) (fun i e' j c he hc => (hval i e' j c he hc).2)
        obtain ⟨q, _, rfl⟩ := List.mem_map.1 hy
        exact hk q
    · rw [show x = _ from hx1]
      show _ + 1 ≤ Rows.uptoBulk (DataW.slice _ _)
      rw [Rows.uptoBulk]
      omega
theorem lies_agg {t : TypeId} {fs : Array Field} {r : Reach} {b0 : Nat} {v : Value} {acs : List AV} (hu : P.underlying t = some (.struct fs)) (hv : Value.okWide P w r b0 t v) (h : LiesC w acs v.cells.toList) : RI w (fun b => b < w.heap.size) (.agg acs) v := by
  simp only [Value.okWide, hu] at hv
  obtain ⟨cs, hc, _⟩ := hv
  subst hc
  refine .agg acs cs (by have := h.1; simp [Value.cells] at this; omega) fun i c hc => ?_
  have := h.2 i c hc
  simpa [Value.cells, List.getD_eq_getElem?_getD, Array.getD_eq_getD_getElem?] using this
end
section
variable {H : Type} {enc : TypeId × Value → H} {w : World} {base : Nat} {spare : Nat → Bool} {held : Bool}
theorem tr_int : Try.prog.cellsOf 3 = 1 := by kernel_rfl
theorem tr_expr : Try.prog.cellsOf 29 = 4 := by kernel_rfl
theorem tr_cond : Try.prog.cellsOf 34 = 3 := by kernel_rfl
theorem tr_exprs : Try.prog.cellsOf 27 = 1 := by kernel_rfl
theorem tr_conds : Try.prog.cellsOf 32 = 1 := by kernel_rfl
theorem bd64 {a : Int} (h : (Lit.int .i64 a).wf = true) : In64 a := by
  unfold In64; simpa [Lit.wf, IntKind.min, IntKind.max, IntKind.signed, IntKind.bits] using h
theorem four_of {α : Type} {cs : List α} (h : cs.length = 4) : ∃ a b c d, cs = [a, b, c, d] := by
  match cs, h with
  | [a, b, c, d], _ => exact ⟨a, b, c, d, rfl⟩
theorem three_of {α : Type} {cs : List α} (h : cs.length = 3) : ∃ a b c, cs = [a, b, c] := by
  match cs, h with
  | [a, b, c], _ => exact ⟨a, b, c, rfl⟩
theorem maxLen_le : maxLen ≤ 9223372036854775807 := by decide
theorem read_exl : ∀ (fuel : Nat) {cs : List Value} {x : DataW H × List MemPlace}, DataW.trod enc Try.prog w base spare held fuel 27 cs = some x →
    ∃ l : List Ex, LiesC w [.list (l.map encE)] cs ∧ l.length ≤ maxLen ∧ (∀ e ∈ l, OkE e) ∧ Ex.nodesL l + 1 ≤ Rows.uptoBulk x.1 := by
  intro fuel
  induction fuel using Nat.strongRecOn with
  | _ fuel ih =>
    intro cs x h
    obtain ⟨l, ds, h1, h2, h3, h4, h5⟩ := slice_lies encE (fun e d => OkE e ∧ e.nodes ≤ Rows.uptoBulk d) Try.underlying27 (by rw [tr_expr]; omega) (fun a => by rw [tr_expr]; rfl) h (fun d cs' y hd ht => by
      obtain ⟨xs, m, hnm, hx, hl4, hxl, hf⟩ := DataW.trod_struct Try.underlying29 ht
      rw [tr_expr] at hl4
      obtain ⟨c0, c1, c2, c3, rfl⟩ := four_of hl4
      have f0 : DataW.trod enc Try.prog w base spare held m 3 [c0] = xs[0]? := by have f := hf 0; simpa [tr_int, tr_exprs] using f
      have f1 : DataW.trod enc Try.prog w base spare held m 3 [c1] = xs[1]? := by have f := hf 1; simpa [tr_int, tr_exprs] using f
      have f2 : DataW.trod enc Try.prog w base spare held m 3 [c2] = xs[2]? := by have f := hf 2; simpa [tr_int, tr_exprs] using f
      have f3 : DataW.trod enc Try.prog w base spare held m 27 [c3] = xs[3]? := by have f := hf 3; simpa [tr_int, tr_exprs] using f
      match xs, hxl, hx, f0, f1, f2, f3 with
      | [x0, x1, x2, x3], _, hx, f0, f1, f2, f3 =>
        obtain ⟨o, e0, _, w0⟩ := DataW.trod_int Try.underlying3 f0
        obtain ⟨nn, e1, _, w1⟩ := DataW.trod_int Try.underlying3 f1
        obtain ⟨v, e2, _, w2⟩ := DataW.trod_int Try.underlying3 f2
        obtain ⟨l3, hl3, hm3, ho3, hb3⟩ := ih m (by omega) f3
        simp only [List.cons.injEq, and_true] at e0 e1 e2
        subst e0 e1 e2
        refine ⟨.mk o nn v l3, ?_, ?_, ?_⟩
        · show LiesC w [.int .i64 o, .int .i64 nn, .int .i64 v, .list (encA (.mk o nn v l3))] _
          rw [encA_eq]
          exact (LiesC.one (.int _ _)).app ((LiesC.one (.int _ _)).app ((LiesC.one (.int _ _)).app hl3))
        · unfold OkE
          exact ⟨bd64 w0, bd64 w1, bd64 w2, Nat.le_trans hm3 maxLen_le, okEs_iff.2 ho3⟩
        · rw [hx]
          simp only [List.map_cons, List.map_nil, Rows.uptoBulk, Rows.uptoBulkAll, Ex.nodes]
          omega)
    refine ⟨l, h1, h2, fun e he => ?_, ?_⟩
    · obtain ⟨i, hi, rfl⟩ := List.getElem_of_mem he
      exact (h4 i hi (by omega)).1
    · have := bulk_sum Ex.nodes Ex.nodesL (by simp [Ex.nodesL]) (by simp [Ex.nodesL]) l ds (by omega) (fun i q1 q2 => (h4 i q1 q2).2)
      omega
theorem read_col : ∀ (fuel : Nat) {cs : List Value} {x : DataW H × List MemPlace}, DataW.trod enc Try.prog w base spare held fuel 32 cs = some x →
    ∃ l : List Co, LiesC w [.list (l.map encC)] cs ∧ l.length ≤ maxLen ∧ (∀ e ∈ l, OkC e) ∧ Co.nodesL l + 1 ≤ Rows.uptoBulk x.1 := by
  intro fuel
  induction fuel using Nat.strongRecOn with
  | _ fuel ih =>
    intro cs x h
    obtain ⟨l, ds, h1, h2, h3, h4, h5⟩ := slice_lies encC (fun e d => OkC e ∧ e.nodes ≤ Rows.uptoBulk d) Try.underlying32 (by rw [tr_cond]; omega) (fun a => by rw [tr_cond]; rfl) h (fun d cs' y hd ht => by
      obtain ⟨xs, m, hnm, hx, hl4, hxl, hf⟩ := DataW.trod_struct Try.underlying34 ht
      rw [tr_cond] at hl4
      obtain ⟨c0, c1, c2, rfl⟩ := three_of hl4
      have f0 : DataW.trod enc Try.prog w base spare held m 3 [c0] = xs[0]? := by have f := hf 0; simpa [tr_int, tr_exprs, tr_conds] using f
      have f1 : DataW.trod enc Try.prog w base spare held m 27 [c1] = xs[1]? := by have f := hf 1; simpa [tr_int, tr_exprs, tr_conds] using f
      have f2 : DataW.trod enc Try.prog w base spare held m 32 [c2] = xs[2]? := by have f := hf 2; simpa [tr_int, tr_exprs, tr_conds] using f
      match xs, hxl, hx, f0, f1, f2 with
      | [x0, x1, x2], _, hx, f0, f1, f2 =>
        obtain ⟨o, e0, _, w0⟩ := DataW.trod_int Try.underlying3 f0
        obtain ⟨l1, hl1, hm1, ho1, hb1⟩ := read_exl m f1
        obtain ⟨l2, hl2, hm2, ho2, hb2⟩ := ih m (by omega) f2
        simp only [List.cons.injEq, and_true] at e0
        subst e0
        refine ⟨.mk o l1 l2, ?_, ?_, ?_⟩
        · show LiesC w [.int .i64 o, .list (l1.map encE), .list (encB (.mk o l1 l2))] _
          rw [encB_eq]
          exact (LiesC.one (.int _ _)).app (hl1.app hl2)
        · unfold OkC
          exact ⟨bd64 w0, ho1, Nat.le_trans hm1 maxLen_le, Nat.le_trans hm2 maxLen_le, okCs_iff.2 ho2⟩
        · rw [hx]
          simp only [List.map_cons, List.map_nil, Rows.uptoBulk, Rows.uptoBulkAll, Co.nodes]
          omega)
    refine ⟨l, h1, h2, fun e he => ?_, ?_⟩
    · obtain ⟨i, hi, rfl⟩ := List.getElem_of_mem he
      exact (h4 i hi (by omega)).1
    · have := bulk_sum Co.nodes Co.nodesL (by simp [Co.nodesL]) (by simp [Co.nodesL]) l ds (by omega) (fun i q1 q2 => (h4 i q1 q2).2)
      omega
theorem trod_expr {fuel : Nat} {cs : List Value} {x : DataW H × List MemPlace} (ht : DataW.trod enc Try.prog w base spare held fuel 29 cs = some x) : ∃ e : Ex, LiesC w (cellsOf (encE e)) cs ∧ OkE e ∧ e.nodes ≤ Rows.uptoBulk x.1 := by
  obtain ⟨xs, m, hnm, hx, hl4, hxl, hf⟩ := DataW.trod_struct Try.underlying29 ht
  rw [tr_expr] at hl4
  obtain ⟨c0, c1, c2, c3, rfl⟩ := four_of hl4
  have f0 : DataW.trod enc Try.prog w base spare held m 3 [c0] = xs[0]? := by have f := hf 0; simpa [tr_int, tr_exprs] using f
  have f1 : DataW.trod enc Try.prog w base spare held m 3 [c1] = xs[1]? := by have f := hf 1; simpa [tr_int, tr_exprs] using f
  have f2 : DataW.trod enc Try.prog w base spare held m 3 [c2] = xs[2]? := by have f := hf 2; simpa [tr_int, tr_exprs] using f
  have f3 : DataW.trod enc Try.prog w base spare held m 27 [c3] = xs[3]? := by have f := hf 3; simpa [tr_int, tr_exprs] using f
  match xs, hxl, hx, f0, f1, f2, f3 with
  | [x0, x1, x2, x3], _, hx, f0, f1, f2, f3 =>
    obtain ⟨o, e0, _, w0⟩ := DataW.trod_int Try.underlying3 f0
    obtain ⟨nn, e1, _, w1⟩ := DataW.trod_int Try.underlying3 f1
    obtain ⟨v, e2, _, w2⟩ := DataW.trod_int Try.underlying3 f2
    obtain ⟨l3, hl3, hm3, ho3, hb3⟩ := read_exl m f3
    simp only [List.cons.injEq, and_true] at e0 e1 e2
    subst e0 e1 e2
    refine ⟨.mk o nn v l3, ?_, ?_, ?_⟩
    · show LiesC w [.int .i64 o, .int .i64 nn, .int .i64 v, .list (encA (.mk o nn v l3))] _
      rw [encA_eq]
      exact (LiesC.one (.int _ _)).app ((LiesC.one (.int _ _)).app ((LiesC.one (.int _ _)).app hl3))
    · unfold OkE
      exact ⟨bd64 w0, bd64 w1, bd64 w2, Nat.le_trans hm3 maxLen_le, okEs_iff.2 ho3⟩
    · rw [hx]
      simp only [List.map_cons, List.map_nil, Rows.uptoBulk, Rows.uptoBulkAll, Ex.nodes]
      omega
theorem trod_cond {fuel : Nat} {cs : List Value} {x : DataW H × List MemPlace} (ht : DataW.trod enc Try.prog w base spare held fuel 34 cs = some x) : ∃ c : Co, LiesC w (cellsOf (encC c)) cs ∧ OkC c ∧ c.nodes ≤ Rows.uptoBulk x.1 := by
  obtain ⟨xs, m, hnm, hx, hl4, hxl, hf⟩ := DataW.trod_struct Try.underlying34 ht
  rw [tr_cond] at hl4
  obtain ⟨c0, c1, c2, rfl⟩ := three_of hl4
  have f0 : DataW.trod enc Try.prog w base spare held m 3 [c0] = xs[0]? := by have f := hf 0; simpa [tr_int, tr_exprs, tr_conds] using f
  have f1 : DataW.trod enc Try.prog w base spare held m 27 [c1] = xs[1]? := by have f := hf 1; simpa [tr_int, tr_exprs, tr_conds] using f
  have f2 : DataW.trod enc Try.prog w base spare held m 32 [c2] = xs[2]? := by have f := hf 2; simpa [tr_int, tr_exprs, tr_conds] using f
  match xs, hxl, hx, f0, f1, f2 with
  | [x0, x1, x2], _, hx, f0, f1, f2 =>
    obtain ⟨o, e0, _, w0⟩ := DataW.trod_int Try.underlying3 f0
    obtain ⟨l1, hl1, hm1, ho1, hb1⟩ := read_exl m f1
    obtain ⟨l2, hl2, hm2, ho2, hb2⟩ := read_col m f2
    simp only [List.cons.injEq, and_true] at e0
    subst e0
    refine ⟨.mk o l1 l2, ?_, ?_, ?_⟩
    · show LiesC w [.int .i64 o, .list (l1.map encE), .list (encB (.mk o l1 l2))] _
      rw [encB_eq]
      exact (LiesC.one (.int _ _)).app (hl1.app hl2)
    · unfold OkC
      exact ⟨bd64 w0, ho1, Nat.le_trans hm1 maxLen_le, Nat.le_trans hm2 maxLen_le, okCs_iff.2 ho2⟩
    · rw [hx]
      simp only [List.map_cons, List.map_nil, Rows.uptoBulk, Rows.uptoBulkAll, Co.nodes]
      omega
/-- An expression, a condition by value, as it was read. -/
theorem read_ex {r : Reach} {b0 : Nat} {v : Value} {d : DataW H} {ps : List MemPlace} (hv : Value.okWide Try.prog w r b0 29 v) (hd : DataW.Trod enc Try.prog w base spare held 29 v d ps) :
    ∃ e : Ex, RI w (fun b => b < w.heap.size) (encE e) v ∧ OkE e ∧ e.nodes ≤ Rows.uptoBulk d := by
  obtain ⟨fuel, hf⟩ := hd
  obtain ⟨e, h1, h2, h3⟩ := trod_expr hf
  exact ⟨e, lies_agg Try.underlying29 hv h1, h2, h3⟩
theorem read_co {r : Reach} {b0 : Nat} {v : Value} {d : DataW H} {ps : List MemPlace} (hv : Value.okWide Try.prog w r b0 34 v) (hd : DataW.Trod enc Try.prog w base spare held 34 v d ps) :
    ∃ c : Co, RI w (fun b => b < w.heap.size) (encC c) v ∧ OkC c ∧ c.nodes ≤ Rows.uptoBulk d := by
  obtain ⟨fuel, hf⟩ := hd
  obtain ⟨c, h1, h2, h3⟩ := trod_cond hf
  exact ⟨c, lies_agg Try.underlying34 hv h1, h2, h3⟩
end
end Go.Proofs.Ytfhfdenmcneamaa
