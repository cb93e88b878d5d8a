/- From the reading of an argument to expressions, conditions and whole numbers that lie in memory. -/
import Derived.Test.YtfhfdenmcneamaaRows
import Derived.Test.YtfhfdenmcneamaaTree
import Derived.ChangeArms
import Derived.DataReads
import Derived.Lib.SmallJoins
set_option linter.unusedVariables false
namespace Go.Proofs.Ytfhfdenmcneamaa
open Go.ChangeShapes Go.WideShapes Go.RowKit

/-- From a choice at each place to a list. -/
theorem exists_list {α : Type} {P : Nat → α → Prop} : ∀ (n : Nat), (∀ i, i < n → ∃ a, P i a) → ∃ l : List α, l.length = n ∧ ∀ i (h : i < l.length), P i l[i]
  | 0, _ => ⟨[], rfl, fun i h => by simp at h⟩
  | n + 1, h => by
    obtain ⟨l, hl, hp⟩ := exists_list n (fun i hi => h i (by omega))
    obtain ⟨a, ha⟩ := h n (by omega)
    refine ⟨l ++ [a], by simp [hl], fun i hi => ?_⟩
    by_cases hn : i < l.length
    · rw [List.getElem_append_left hn]; exact hp i hn
    · have : i = n := by simp at hi; omega
      subst this
      rw [List.getElem_append_right (by omega)]
      simpa using ha

theorem bulk_pos {H : Type} (d : DataW H) : 1 ≤ Rows.uptoBulk d := by
  cases d with
  | lit l => cases l <;> simp [Rows.uptoBulk]
  | _ => simp [Rows.uptoBulk]

theorem bulk_mem {H : Type} {d : DataW H} {l : List (DataW H)} (h : d ∈ l) : Rows.uptoBulk d ≤ Rows.uptoBulkAll l := by
  induction l with
  | nil => cases h
  | cons x r ih =>
    simp only [Rows.uptoBulkAll]
    rcases List.mem_cons.1 h with e | e
    · subst e; omega
    · have := ih e; omega

theorem bulk_sum {H : Type} {α : Type} (f : α → Nat) (g : List α → Nat) (g0 : g [] = 0) (g1 : ∀ x l, g (x :: l) = f x + g l) : ∀ (l : List α) (ds : List (DataW H)), l.length = ds.length → (∀ i (h : i < l.length) (h' : i < ds.length), f l[i] ≤ Rows.uptoBulk ds[i]) → g l ≤ Rows.uptoBulkAll ds
  | [], _, _, _ => by rw [g0]; omega
  | x :: l, [], h, _ => by simp at h
  | x :: l, d :: ds, h, hp => by
    rw [g1]
    simp only [Rows.uptoBulkAll]
    have h0 := hp 0 (by simp) (by simp)
    have h1 := bulk_sum f g g0 g1 l ds (by simpa using h) (fun i hi hi' => by have := hp (i + 1) (by simp; omega) (by simp; omega); simpa only [List.getElem_cons_succ] using this)
    simp at h0
    omega

section
variable {H : Type} {enc : TypeId × Value → H} {w : World} {base : Nat} {spare : Nat → Bool} {held : Bool}

theorem addr_spot {w : World} {a : Addr} {v : Value} (h : w.cell? a = some v) : a.spot = none := by
  unfold World.cell? at h
  split at h
  · split at h
    · cases h
    · rename_i hs
      simpa using hs
  · cases h

theorem addr_add (b off i : Nat) : (⟨b, off, none⟩ : Addr).add i = ⟨b, off + i, none⟩ := by
  unfold Addr.add
  split
  · subst_vars; rfl
  · rfl

theorem cells_two1 : Try.prog.cellsOf 3 = 1 := by kernel_rfl
theorem cells_expr : Try.prog.cellsOf 29 = 4 := by kernel_rfl
theorem cells_cond : Try.prog.cellsOf 34 = 3 := by kernel_rfl
theorem cells_exprs : Try.prog.cellsOf 27 = 1 := by kernel_rfl
theorem cells_conds : Try.prog.cellsOf 32 = 1 := by kernel_rfl


theorem drop_take4 {α : Type} {cs : List α} (h : cs.length = 4) : ∃ a b c d, cs = [a, b, c, d] := by
  match cs, h with
  | [a, b, c, d], _ => exact ⟨a, b, c, d, rfl⟩
theorem drop_take3 {α : Type} {cs : List α} (h : cs.length = 3) : ∃ a b c, cs = [a, b, c] := by
  match cs, h with
  | [a, b, c], _ => exact ⟨a, b, c, rfl⟩

/-- Four cells in a row, at an address that is some element's. -/
theorem cells4 {a : Addr} {k : Nat} {v0 v1 v2 v3 : Value} (h : w.cells? base (a.add k) 4 = some [v0, v1, v2, v3]) :
    a.spot = none ∨ 0 < k → w.cell? ⟨a.block, a.off + k, none⟩ = some v0 ∧ w.cell? ⟨a.block, a.off + k + 1, none⟩ = some v1 ∧ w.cell? ⟨a.block, a.off + k + 2, none⟩ = some v2 ∧ w.cell? ⟨a.block, a.off + k + 3, none⟩ = some v3 := by
  intro hs
  obtain ⟨_, _, hc⟩ := World.cells?_some h
  have e : a.add k = ⟨a.block, a.off + k, none⟩ := by
    obtain ⟨b, off, sp⟩ := a
    rcases hs with hs | hs
    · simp only at hs; subst hs; exact addr_add b off k
    · unfold Addr.add; rw [if_neg (by omega)]
  rw [e] at hc
  have h0 := hc 0 (by omega)
  have h1 := hc 1 (by omega)
  have h2 := hc 2 (by omega)
  have h3 := hc 3 (by omega)
  simp only [addr_add] at h0 h1 h2 h3
  exact ⟨by simpa using h0, by simpa using h1, by simpa using h2, by simpa using h3⟩

theorem cells3 {a : Addr} {k : Nat} {v0 v1 v2 : Value} (h : w.cells? base (a.add k) 3 = some [v0, v1, v2]) :
    a.spot = none ∨ 0 < k → w.cell? ⟨a.block, a.off + k, none⟩ = some v0 ∧ w.cell? ⟨a.block, a.off + k + 1, none⟩ = some v1 ∧ w.cell? ⟨a.block, a.off + k + 2, none⟩ = some v2 := by
  intro hs
  obtain ⟨_, _, hc⟩ := World.cells?_some h
  have e : a.add k = ⟨a.block, a.off + k, none⟩ := by
    obtain ⟨b, off, sp⟩ := a
    rcases hs with hs | hs
    · simp only at hs; subst hs; exact addr_add b off k
    · unfold Addr.add; rw [if_neg (by omega)]
  rw [e] at hc
  have h0 := hc 0 (by omega)
  have h1 := hc 1 (by omega)
  have h2 := hc 2 (by omega)
  simp only [addr_add] at h0 h1 h2
  exact ⟨by simpa using h0, by simpa using h1, by simpa using h2⟩

/-- The first element's cell tells that the address is plain. -/
theorem spot_of_cells {a : Addr} {n : Nat} {cs : List Value} (hn : 0 < n) (h : w.cells? base (a.add 0) n = some cs) : a.spot = none := by
  obtain ⟨_, hl, hc⟩ := World.cells?_some h
  have h0 := hc 0 hn
  have : cs[0]? = some (cs[0]'(by omega)) := List.getElem?_eq_getElem (by omega)
  rw [this] at h0
  have := addr_spot h0
  simpa [Addr.add] using this

theorem read_exs : ∀ (fuel : Nat) {cs : List Value} {x : DataW H × List MemPlace}, DataW.trod enc Try.prog w base spare held fuel 27 cs = some x →
    ∃ (l : List Ex) (a : Option Addr) (cap : Nat), cs = [.slice a l.length cap] ∧ ExsV w l a cap ∧ Ex.nodesL l + 1 ≤ Rows.uptoBulk x.1 := by
  intro fuel
  induction fuel using Nat.strongRecOn with
  | _ fuel ih =>
    intro cs x h
    rcases DataW.trod_slice Try.underlying27 h with ⟨rfl, rfl⟩ | ⟨a, len, cap, elems, rest, n, rfl, rfl, rfl, hb, hl, hm, hlen, hel, _, _⟩
    · exact ⟨[], none, 0, rfl, ExsV.nilv w, by simp [Ex.nodesL, Rows.uptoBulk]⟩
    · subst hlen
      have hone : ∀ i, i < elems.length → ∃ y : Ex × Option Addr × Nat, (∀ hi : i < elems.length, w.cells? base (a.add (i * 4)) 4 = some [.int .i64 y.1.op, .int .i64 y.1.n, .int .i64 y.1.v, .slice y.2.1 y.1.a.length y.2.2] ∧
          ExsV w y.1.a y.2.1 y.2.2 ∧ y.1.nodes ≤ Rows.uptoBulk (elems[i].1)) := by
        intro i hi
        have he := hel i hi
        rw [List.getElem?_eq_getElem hi, cells_expr] at he
        obtain ⟨cs', hcs, ht⟩ := Option.bind_eq_some_iff.1 he
        obtain ⟨xs, m, hnm, hx, hl4, hxl, hf⟩ := DataW.trod_struct Try.underlying29 ht
        rw [cells_expr] at hl4
        obtain ⟨c0, c1, c2, c3, rfl⟩ := drop_take4 hl4
        have f0 : DataW.trod enc Try.prog w base spare held m 3 [c0] = xs[0]? := by have f := hf 0; simpa [cells_two1, cells_exprs, cells_conds] using f
        have f1 : DataW.trod enc Try.prog w base spare held m 3 [c1] = xs[1]? := by have f := hf 1; simpa [cells_two1, cells_exprs, cells_conds] using f
        have f2 : DataW.trod enc Try.prog w base spare held m 3 [c2] = xs[2]? := by have f := hf 2; simpa [cells_two1, cells_exprs, cells_conds] using f
        have f3 : DataW.trod enc Try.prog w base spare held m 27 [c3] = xs[3]? := by have f := hf 3; simpa [cells_two1, cells_exprs, cells_conds] using f
        match xs, hxl, hx, f0, f1, f2, f3 with
        | [x0, x1, x2, x3], _, hx, f0, f1, f2, f3 =>
          obtain ⟨o, e0, _, _⟩ := DataW.trod_int Try.underlying3 f0
          obtain ⟨nn, e1, _, _⟩ := DataW.trod_int Try.underlying3 f1
          obtain ⟨v, e2, _, _⟩ := DataW.trod_int Try.underlying3 f2
          obtain ⟨l3, a3, k3, e3, hv3, hb3⟩ := ih m (by omega) f3
          simp only [List.cons.injEq, and_true] at e0 e1 e2 e3
          subst e0 e1 e2 e3
          refine ⟨(.mk o nn v l3, a3, k3), fun _ => ⟨hcs, hv3, ?_⟩⟩
          rw [hx]
          simp only [List.map_cons, List.map_nil, Rows.uptoBulk, Rows.uptoBulkAll, Ex.nodes]
          omega
      obtain ⟨ys, hy, hp⟩ := exists_list elems.length hone
      refine ⟨ys.map (·.1), some a, cap, by simp [hy], ?_, ?_⟩
      · by_cases h0 : elems.length = 0
        · have : ys = [] := List.length_eq_zero_iff.1 (by omega)
          subst this
          exact .empty _ _ hm (by simp)
        · have hsp : a.spot = none := by
            have := (hp 0 (by omega) (by omega)).1
            rw [Nat.zero_mul] at this
            exact spot_of_cells (by omega) this
          obtain ⟨b, off, sp⟩ := a
          obtain rfl : sp = none := hsp
          refine .row _ b off cap (fun i => (ys[i]?.map (·.2.1)).getD none) (fun i => (ys[i]?.map (·.2.2)).getD 0) (by simp [hy]; exact hl) hm ?_ ?_
          · intro i hi
            have hi' : i < ys.length := by simpa using hi
            have := cells4 (hp i hi' (by omega)).1 (Or.inl rfl)
            simpa [List.getElem?_eq_getElem hi', ExCells] using this
          · intro i hi
            have hi' : i < ys.length := by simpa using hi
            have := (hp i hi' (by omega)).2.1
            simpa [List.getElem?_eq_getElem hi'] using this
      · have := bulk_sum Ex.nodes Ex.nodesL (by simp [Ex.nodesL]) (by simp [Ex.nodesL]) (ys.map (·.1)) (elems.map (·.1)) (by simp [hy]) (fun i h1 h2 => by
          have hi' : i < ys.length := by simpa using h1
          have := (hp i hi' (by omega)).2.2
          simpa using this)
        show Ex.nodesL _ + 1 ≤ Rows.uptoBulk (DataW.slice _ _)
        rw [Rows.uptoBulk]
        omega

theorem read_cos : ∀ (fuel : Nat) {cs : List Value} {x : DataW H × List MemPlace}, DataW.trod enc Try.prog w base spare held fuel 32 cs = some x →
    ∃ (l : List Co) (a : Option Addr) (cap : Nat), cs = [.slice a l.length cap] ∧ CosV w l a cap ∧ Co.nodesL l + 1 ≤ Rows.uptoBulk x.1 := by
  intro fuel
  induction fuel using Nat.strongRecOn with
  | _ fuel ih =>
    intro cs x h
    rcases DataW.trod_slice Try.underlying32 h with ⟨rfl, rfl⟩ | ⟨a, len, cap, elems, rest, n, rfl, rfl, rfl, hb, hl, hm, hlen, hel, _, _⟩
    · exact ⟨[], none, 0, rfl, CosV.nilv w, by simp [Co.nodesL, Rows.uptoBulk]⟩
    · subst hlen
      have hone : ∀ i, i < elems.length → ∃ y : Co × (Option Addr × Nat) × (Option Addr × Nat), (∀ hi : i < elems.length, w.cells? base (a.add (i * 3)) 3 = some [.int .i64 y.1.op, .slice y.2.1.1 y.1.a.length y.2.1.2, .slice y.2.2.1 y.1.c.length y.2.2.2] ∧
          ExsV w y.1.a y.2.1.1 y.2.1.2 ∧ CosV w y.1.c y.2.2.1 y.2.2.2 ∧ y.1.nodes ≤ Rows.uptoBulk (elems[i].1)) := by
        intro i hi
        have he := hel i hi
        rw [List.getElem?_eq_getElem hi, cells_cond] at he
        obtain ⟨cs', hcs, ht⟩ := Option.bind_eq_some_iff.1 he
        obtain ⟨xs, m, hnm, hx, hl4, hxl, hf⟩ := DataW.trod_struct Try.underlying34 ht
        rw [cells_cond] at hl4
        obtain ⟨c0, c1, c2, rfl⟩ := drop_take3 hl4
        have f0 : DataW.trod enc Try.prog w base spare held m 3 [c0] = xs[0]? := by have f := hf 0; simpa [cells_two1, cells_exprs, cells_conds] using f
        have f1 : DataW.trod enc Try.prog w base spare held m 27 [c1] = xs[1]? := by have f := hf 1; simpa [cells_two1, cells_exprs, cells_conds] using f
        have f2 : DataW.trod enc Try.prog w base spare held m 32 [c2] = xs[2]? := by have f := hf 2; simpa [cells_two1, cells_exprs, cells_conds] using f
        match xs, hxl, hx, f0, f1, f2 with
        | [x0, x1, x2], _, hx, f0, f1, f2 =>
          obtain ⟨o, e0, _, _⟩ := DataW.trod_int Try.underlying3 f0
          obtain ⟨l1, a1, k1, e1, hv1, hb1⟩ := read_exs m f1
          obtain ⟨l2, a2, k2, e2, hv2, hb2⟩ := ih m (by omega) f2
          simp only [List.cons.injEq, and_true] at e0 e1 e2
          subst e0 e1 e2
          refine ⟨(.mk o l1 l2, (a1, k1), (a2, k2)), fun _ => ⟨hcs, hv1, hv2, ?_⟩⟩
          rw [hx]
          simp only [List.map_cons, List.map_nil, Rows.uptoBulk, Rows.uptoBulkAll, Co.nodes]
          omega
      obtain ⟨ys, hy, hp⟩ := exists_list elems.length hone
      refine ⟨ys.map (·.1), some a, cap, by simp [hy], ?_, ?_⟩
      · by_cases h0 : elems.length = 0
        · have : ys = [] := List.length_eq_zero_iff.1 (by omega)
          subst this
          exact .empty _ _ hm (by simp)
        · have hsp : a.spot = none := by
            have := (hp 0 (by omega) (by omega)).1
            rw [Nat.zero_mul] at this
            exact spot_of_cells (by omega) this
          obtain ⟨b, off, sp⟩ := a
          obtain rfl : sp = none := hsp
          refine .row _ b off cap (fun i => (ys[i]?.map (·.2.1.1)).getD none) (fun i => (ys[i]?.map (·.2.2.1)).getD none) (fun i => (ys[i]?.map (·.2.1.2)).getD 0) (fun i => (ys[i]?.map (·.2.2.2)).getD 0) (by simp [hy]; exact hl) hm ?_ ?_ ?_
          · intro i hi
            have hi' : i < ys.length := by simpa using hi
            have := cells3 (hp i hi' (by omega)).1 (Or.inl rfl)
            simpa [List.getElem?_eq_getElem hi', CoCells] using this
          · intro i hi
            have hi' : i < ys.length := by simpa using hi
            have := (hp i hi' (by omega)).2.1
            simpa [List.getElem?_eq_getElem hi'] using this
          · intro i hi
            have hi' : i < ys.length := by simpa using hi
            have := (hp i hi' (by omega)).2.2.1
            simpa [List.getElem?_eq_getElem hi'] using this
      · have := bulk_sum Co.nodes Co.nodesL (by simp [Co.nodesL]) (by simp [Co.nodesL]) (ys.map (·.1)) (elems.map (·.1)) (by simp [hy]) (fun i h1 h2 => by
          have hi' : i < ys.length := by simpa using h1
          have := (hp i hi' (by omega)).2.2.2
          simpa using this)
        show Co.nodesL _ + 1 ≤ Rows.uptoBulk (DataW.slice _ _)
        rw [Rows.uptoBulk]
        omega

theorem cell1 {a : Addr} {k : Nat} {v0 : Value} (h : w.cells? base (a.add k) 1 = some [v0]) : a.spot = none ∨ 0 < k → w.cell? ⟨a.block, a.off + k, none⟩ = some v0 := by
  intro hs
  obtain ⟨_, _, hc⟩ := World.cells?_some h
  have e : a.add k = ⟨a.block, a.off + k, none⟩ := by
    obtain ⟨b, off, sp⟩ := a
    rcases hs with hs | hs
    · simp only at hs; subst hs; exact addr_add b off k
    · unfold Addr.add; rw [if_neg (by omega)]
  rw [e] at hc
  have h0 := hc 0 (by omega)
  simp only [addr_add] at h0
  simpa using h0

theorem bd_i64 {a : Int} (h : (Lit.int .i64 a).wf = true) : -9223372036854775808 ≤ a ∧ a ≤ 9223372036854775807 := by
  simpa [Lit.wf, IntKind.min, IntKind.max, IntKind.signed, IntKind.bits] using h

/-- A slice of whole numbers, as it was read. -/
theorem read_ints (fuel : Nat) {cs : List Value} {x : DataW H × List MemPlace} (h : DataW.trod enc Try.prog w base spare held fuel 36 cs = some x) :
    ∃ (l : List Int) (a : Option Addr) (cap : Nat), cs = [.slice a l.length cap] ∧ IntsV w l a cap ∧ l.length + 1 ≤ Rows.uptoBulk x.1 ∧ ∀ n ∈ l, -9223372036854775808 ≤ n ∧ n ≤ 9223372036854775807 := by
  rcases DataW.trod_slice Try.underlying36 h with ⟨rfl, rfl⟩ | ⟨a, len, cap, elems, rest, n, rfl, rfl, rfl, hb, hl, hm, hlen, hel, _, _⟩
  · exact ⟨[], none, 0, rfl, IntsV.nil w, by simp [Rows.uptoBulk], by simp⟩
  · subst hlen
    have hone : ∀ i, i < elems.length → ∃ y : Int, (w.cells? base (a.add i) 1 = some [.int .i64 y] ∧ -9223372036854775808 ≤ y ∧ y ≤ 9223372036854775807) := by
      intro i hi
      have he := hel i hi
      rw [List.getElem?_eq_getElem hi, cells_two1, Nat.mul_one] at he
      obtain ⟨cs', hcs, ht⟩ := Option.bind_eq_some_iff.1 he
      obtain ⟨o, rfl, _, hw⟩ := DataW.trod_int Try.underlying3 ht
      exact ⟨o, hcs, bd_i64 hw⟩
    obtain ⟨ys, hy, hp⟩ := exists_list elems.length hone
    refine ⟨ys, some a, cap, by simp [hy], ⟨by omega, hm, by simp, fun h0 => ?_⟩, ?_, ?_⟩
    · have hsp : a.spot = none := spot_of_cells (by omega) (hp 0 (by omega)).1
      obtain ⟨b, off, sp⟩ := a
      obtain rfl : sp = none := hsp
      exact ⟨b, off, rfl, fun i hi => cell1 (hp i hi).1 (Or.inl rfl)⟩
    · have := bulk_sum (fun _ : Int => 1) List.length (by simp) (by simp; omega) ys (elems.map (·.1)) (by simp [hy]) (fun i h1 h2 => bulk_pos _)
      show ys.length + 1 ≤ Rows.uptoBulk (DataW.slice _ _)
      rw [Rows.uptoBulk]
      omega
    · intro n hn
      obtain ⟨i, hi, rfl⟩ := List.getElem_of_mem hn
      exact (hp i hi).2

end
end Go.Proofs.Ytfhfdenmcneamaa
