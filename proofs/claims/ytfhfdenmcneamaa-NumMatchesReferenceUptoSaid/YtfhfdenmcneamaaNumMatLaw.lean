/- parolelaw01.NumMatchesReference answers true for all expressions, conditions and values that are of bulk at most 1048576 (what can be read; see Upto). -/
import Derived.Test.YtfhfdenmcneamaaRows
import Derived.Test.YtfhfdenmcneamaaNumMat
import Derived.Test.YtfhfdenmcneamaaTrR
import Derived.Test.YtfhfdenmcneamaaEvV
import Derived.Test.YtfhfdenmcneamaaLaw
import Derived.Lib.SmallJoins
set_option linter.unusedVariables false
set_option linter.unusedSimpArgs false
namespace Go.Proofs.Ytfhfdenmcneamaa
open Go.ChangeShapes Go.WideShapes Go.ChangeAt Go.RowKit
set_option maxRecDepth 100000

theorem tr_li3 : Try.prog.cellsOf 50 = 3 := by kernel_rfl
theorem tr_li : Try.prog.cellsOf 36 = 1 := by kernel_rfl
section
variable {H : Type} {enc : TypeId × Value → H} {w : World} {base : Nat} {spare : Nat → Bool} {held : Bool}
theorem all_len {l : List Int} {ds : List (DataW H)} (h : l.length = ds.length) : l.length ≤ Rows.uptoBulkAll ds := by
  have := bulk_sum (H := H) (fun _ : Int => 1) List.length rfl (fun x l => by simp; omega) l ds h (fun i _ _ => bulk_pos _)
  exact this
theorem trod_li {fuel : Nat} {cs : List Value} {x : DataW H × List MemPlace} (h : DataW.trod enc Try.prog w base spare held fuel 36 cs = some x) :
    ∃ l : List Int, LiesC w [.list (l.map encI)] cs ∧ (∀ a ∈ l, -9223372036854775808 ≤ a ∧ a ≤ 9223372036854775807) ∧ l.length + 1 ≤ Rows.uptoBulk x.1 := by
  obtain ⟨l, ds, h1, h2, h3, h4, h5⟩ := slice_lies encI (fun a d => -9223372036854775808 ≤ a ∧ a ≤ 9223372036854775807) Try.underlying36 (by rw [tr_int]; omega) (fun a => by rw [tr_int]; rfl) h (fun d cs' y hd ht => by
    obtain ⟨o, e0, _, w0⟩ := DataW.trod_int Try.underlying3 ht
    subst e0
    exact ⟨o, LiesC.one (.int _ _), bd64 w0⟩)
  refine ⟨l, h1, fun a ha => ?_, ?_⟩
  · obtain ⟨i, hi, rfl⟩ := List.getElem_of_mem ha
    exact h4 i hi (by omega)
  · have := all_len (l := l) (ds := ds) (by omega)
    omega
/-- Three lists of whole numbers by value, as they were read. -/
theorem read_li3 {r : Reach} {b0 : Nat} {v : Value} {d : DataW H} {ps : List MemPlace} (hv : Value.okWide Try.prog w r b0 50 v) (hd : DataW.Trod enc Try.prog w base spare held 50 v d ps) :
    ∃ u x z : List Int, RI w (fun b => b < w.heap.size) (.agg [.list (u.map encI), .list (x.map encI), .list (z.map encI)]) v ∧ (∀ a ∈ u, -9223372036854775808 ≤ a ∧ a ≤ 9223372036854775807) ∧ (∀ a ∈ x, -9223372036854775808 ≤ a ∧ a ≤ 9223372036854775807) ∧ (∀ a ∈ z, -9223372036854775808 ≤ a ∧ a ≤ 9223372036854775807) ∧ u.length + x.length + z.length ≤ Rows.uptoBulk d := by
  obtain ⟨fuel, hf⟩ := hd
  obtain ⟨xs, m, hm, hx, hcl, hxl, hi⟩ := DataW.trod_array Try.underlying50 hf
  have f0 := hi 0 (by omega)
  have f1 := hi 1 (by omega)
  have f2 := hi 2 (by omega)
  rw [tr_li3] at hcl
  rw [tr_li] at f0 f1 f2
  match xs, hxl, hx, f0, f1, f2 with
  | [x0, x1, x2], _, hx, f0, f1, f2 =>
    obtain ⟨u, h1, h2, h3⟩ := trod_li f0
    obtain ⟨x, k1, k2, k3⟩ := trod_li f1
    obtain ⟨z, l1, l2, l3⟩ := trod_li f2
    refine ⟨u, x, z, ?_, h2, k2, l2, ?_⟩
    · have hl : LiesC w [.list (u.map encI), .list (x.map encI), .list (z.map encI)] v.cells.toList := by
        have := h1.app (k1.app l1)
        obtain ⟨c0, c1, c2, e⟩ := three_of hcl
        rw [e] at this ⊢
        exact this
      simp only [Value.okWide, Try.underlying50] at hv
      obtain ⟨cs, hc, _⟩ := hv
      subst hc
      refine .agg _ cs (by have := hl.1; simpa [Value.cells] using this.symm) fun i c hc => ?_
      have := hl.2 i c (by simpa using hc)
      simpa [Value.cells, List.getD_eq_getElem?_getD, Array.getD_eq_getD_getElem?] using this
    · have hd : d = _ := congrArg Prod.fst hx
      rw [hd]
      simp only [List.map_cons, List.map_nil, Rows.uptoBulk, Rows.uptoBulkAll]
      omega
end
theorem own : ownKnob Try.prog.godebug = none := by kernel_rfl
theorem NumMatchesReference_read (H : Type) (enc : TypeId × Value → H) (W : World) (base : Nat) (args : Array Value) (ds : List (DataW H)) (p : List MemPlace)
    (hval : ∀ (j : Nat) t v, Try.f9.params[j]? = some t → args[j]? = some v → Value.okWide Try.prog W .any base t v)
    (hA : DataW.TrodAll enc Try.prog W 0 (fun _ => true) true Try.f9.params.toList args.toList ds p) (hk : Rows.uptoSmall H ds = true) :
    Calls Try.prog 9 args W fun e w' => e = .returned (.bool true) ∧ Below W.heap.size W w' := by
  rw [Try.params9] at hA hval
  obtain ⟨v0, vs0, d0, ds0, p0, q0, hargs, rfl, rfl, h0, r0⟩ := trodAll_cons hA
  obtain ⟨v1, vs1, d1, ds1, p1, q1, rfl, rfl, rfl, h1, r1⟩ := trodAll_cons r0
  obtain ⟨v2, vs2, d2, ds2, p2, q2, rfl, rfl, rfl, h2, r2⟩ := trodAll_cons r1
  obtain ⟨rfl, rfl, rfl⟩ := trodAll_nil r2
  obtain rfl : args = #[v0, v1, v2] := by cases args; simp_all
  have hk2 : Rows.uptoBulkAll [d0, d1, d2] ≤ 1048576 := of_decide_eq_true hk
  simp only [Rows.uptoBulkAll] at hk2
  obtain ⟨g, l0, he, b0⟩ := read_ex (hval 0 _ v0 rfl rfl) h0
  obtain ⟨c, l1, hc, b1⟩ := read_co (hval 1 _ v1 rfl rfl) h1
  obtain ⟨u, v, z, l2, ub, vb, zb, b2⟩ := read_li3 (hval 2 _ v2 rfl rfl) h2
  exact law_calls (vs := [v0, v1, v2]) (nmat_law he hc (by omega) (by omega) (by omega) (by omega) (by omega) ub vb zb) ⟨l0, l1, l2, trivial⟩

theorem NumMatchesReference_contract (H : Type) (enc : TypeId × Value → H) (W : World) (base : Nat) (args : Array Value) (ds gs : List (DataW H)) (before : List MemPlace)
    (hval : ∀ (j : Nat) t v, Try.f9.params[j]? = some t → args[j]? = some v → Value.okWide Try.prog W .any base t v)
    (hW : DataW.Whole enc Try.prog Try.f9.params.toList Rows.numMatchesReferenceSpec.vars false W args.toList ds gs before) (hk : Rows.uptoSmall H (ds ++ gs) = true) :
    Calls Try.prog 9 args W fun e W' => ∃ v, e = .returned v ∧ Rows.numMatchesReferenceSpec.post enc Try.prog Try.f9 false true false false W args v W' := by
  have hW' := hW
  obtain ⟨p, q, hA, hV, rfl, hfz, hnd⟩ := hW
  have hlen : ∃ d0 d1 d2, ds = [d0, d1, d2] := by
    have hA2 := hA
    rw [Try.params9] at hA2
    obtain ⟨_, _, d0, ds0, _, _, _, hd0, _, _, hA2⟩ := trodAll_cons hA2
    obtain ⟨_, _, d1, ds1, _, _, _, hd1, _, _, hA2⟩ := trodAll_cons hA2
    obtain ⟨_, _, d2, ds2, _, _, _, hd2, _, _, hA2⟩ := trodAll_cons hA2
    obtain ⟨_, hdn, _⟩ := trodAll_nil hA2
    exact ⟨d0, d1, d2, by rw [hd0, hd1, hd2, hdn]⟩
  have hfn : Rows.numMatchesReferenceSpec.fn H ds = { results := [.lit (.bool true)], args := ds } := by
    obtain ⟨d0, d1, d2, rfl⟩ := hlen
    rfl
  obtain ⟨rfl, rfl⟩ := trodVars_none hV
  refine (NumMatchesReference_read H enc W base args ds p hval hA (by simpa using hk)).mono fun e W' ⟨he, hb⟩ => ⟨_, he, ?_⟩
  exact law_post (by kernel_rfl) (by kernel_rfl) rfl rfl Try.underlying4 hW' hfn hb

set_option maxRecDepth 100000 in
theorem NumMatchesReference_lifted (os : Os) (started : os.Started) (H : Type) (enc : TypeId × Value → H) (F : Stop.Interp) :
    ReturnsInHanded {} Try.checked os 9 .any ((Rows.OpenSpec.upto Rows.numMatchesReferenceSpec).pre6 enc Try.prog Try.f9 Rows.numMatchesReferenceUptoRow.domain false) (((Rows.OpenSpec.upto Rows.numMatchesReferenceSpec).at F).post enc Try.prog Try.f9 false true false false) := by
  refine returnsInHanded_of_cond (C := Try.checked) (s := Rows.OpenSpec.upto Rows.numMatchesReferenceSpec) (k := Rows.uptoSmall) rfl own started (by kernel_rfl) Try.func9
    (OpenSpec.witness (enc := enc) (C := Try.checked) (s := Rows.OpenSpec.upto Rows.numMatchesReferenceSpec) (k := Rows.uptoSmall) rfl false ⟨#[], #[.agg #[.int .i64 0, .int .i64 0, .int .i64 0, .slice none 0 0], .agg #[.int .i64 0, .slice none 0 0, .slice none 0 0], .agg #[.slice none 0 0, .slice none 0 0, .slice none 0 0]], []⟩ 8 (by kernel_rfl) (by kernel_rfl) (by kernel_rfl)
      (x := ([.agg [.lit (.int .i64 0), .lit (.int .i64 0), .lit (.int .i64 0), .nil], .agg [.lit (.int .i64 0), .nil, .nil], .agg [.nil, .nil, .nil]], [], [])) (by kernel_rfl) rfl (by kernel_rfl)) ?_
  intro W base args ds gs before hval hW _ hk _
  exact NumMatchesReference_contract H enc W base args ds gs before hval hW hk

theorem NumMatchesReference_over : Rows.numMatchesReferenceUptoRow.holds Try.pinned (Rows.OpenSpec.upto Rows.numMatchesReferenceSpec) :=
  OpenClaim.holds_of_cond 9 Try.f9 rfl rfl rfl rfl rfl rfl rfl ⟨rfl, rfl, rfl, rfl, rfl⟩ rfl rfl rfl rfl rfl (by kernel_rfl) Try.func9 (by kernel_rfl)
    (of_decide_eq_true (by kernel_rfl)) (by unfold Func.isWrapper; first | (rw [if_pos (by decide +kernel)]; kernel_rfl) | (rw [if_neg (by decide +kernel)]; exact ⟨rfl, rfl⟩))
    (fun os started H enc _ F => NumMatchesReference_lifted os started H enc F)

/-- The statement. -/
theorem NumMatchesReference_proved : Rows.NumMatchesReferenceUptoSaid := NumMatchesReference_over


end Go.Proofs.Ytfhfdenmcneamaa
