/- parolelaw01.NumSubstitutes answers true for all expressions and values that are of bulk at most 1048576 (what can be read; see Upto). -/
import Derived.Test.YtfhfdenmcneamaaRows
import Derived.Test.YtfhfdenmcneamaaNumSub
import Derived.Test.YtfhfdenmcneamaaTrR
import Derived.Test.YtfhfdenmcneamaaEvV
import Derived.Test.YtfhfdenmcneamaaLaw
import Derived.Lib.SmallJoins
set_option linter.unusedVariables false
set_option linter.unusedSimpArgs false
namespace Go.Proofs.Ytfhfdenmcneamaa
open Go.ChangeShapes Go.WideShapes Go.ChangeAt Go.RowKit
set_option maxRecDepth 100000

theorem tr_ex2 : Try.prog.cellsOf 35 = 8 := by kernel_rfl
section
variable {H : Type} {enc : TypeId × Value → H} {w : World} {base : Nat} {spare : Nat → Bool} {held : Bool}
/-- Two expressions by value, as they were read. -/
theorem read_ex2 {r : Reach} {b0 : Nat} {v : Value} {d : DataW H} {ps : List MemPlace} (hv : Value.okWide Try.prog w r b0 35 v) (hd : DataW.Trod enc Try.prog w base spare held 35 v d ps) :
    ∃ g x : Ex, RI w (fun b => b < w.heap.size) (.agg [.int .i64 g.op, .int .i64 g.n, .int .i64 g.v, .list (encA g), .int .i64 x.op, .int .i64 x.n, .int .i64 x.v, .list (encA x)]) v ∧ OkE g ∧ OkE x ∧ g.nodes + x.nodes ≤ Rows.uptoBulk d := by
  obtain ⟨fuel, hf⟩ := hd
  obtain ⟨xs, m, hm, hx, hcl, hxl, hi⟩ := DataW.trod_array Try.underlying35 hf
  have f0 := hi 0 (by omega)
  have f1 := hi 1 (by omega)
  match xs, hxl, hx, f0, f1 with
  | [x0, x1], _, hx, f0, f1 =>
    obtain ⟨g, h1, h2, h3⟩ := trod_expr f0
    obtain ⟨x, k1, k2, k3⟩ := trod_expr f1
    refine ⟨g, x, ?_, h2, k2, ?_⟩
    · have hl : LiesC w (cellsOf (encE g) ++ cellsOf (encE x)) v.cells.toList := by
        have := h1.app k1
        have e1 : ((v.cells.toList.drop (0 * 4)).take 4) ++ ((v.cells.toList.drop (1 * 4)).take 4) = v.cells.toList := by
          rw [tr_ex2] at hcl
          rw [Nat.zero_mul, List.drop_zero, Nat.one_mul, List.take_of_length_le (l := v.cells.toList.drop 4) (by rw [List.length_drop]; omega), List.take_append_drop]
        rw [tr_expr, e1] at this
        exact this
      simp only [Value.okWide, Try.underlying35] at hv
      obtain ⟨cs, hc, _⟩ := hv
      subst hc
      refine .agg _ cs (by have := hl.1; simpa [Value.cells, cellsOf, encE] using this.symm) fun i c hc => ?_
      have := hl.2 i c (by simpa [cellsOf, encE] using hc)
      simpa [Value.cells, List.getD_eq_getElem?_getD, Array.getD_eq_getD_getElem?] using this
    · have hd : d = _ := congrArg Prod.fst hx
      rw [hd]
      simp only [List.map_cons, List.map_nil, Rows.uptoBulk, Rows.uptoBulkAll]
      omega
end
theorem sh_u8 {x : AV} (h : ShV (.int .u8) x) : ∃ n0 : Int, x = .int .u8 n0 ∧ (0 ≤ n0 ∧ n0 ≤ 255) := by
  simp only [ShV] at h
  obtain ⟨n, rfl, a, b⟩ := h
  exact ⟨n, rfl, a, b⟩
theorem own : ownKnob Try.prog.godebug = none := by kernel_rfl
theorem NumSubstitutes_read (H : Type) (enc : TypeId × Value → H) (W : World) (base : Nat) (args : Array Value) (ds : List (DataW H)) (p : List MemPlace)
    (hval : ∀ (j : Nat) t v, Try.f6.params[j]? = some t → args[j]? = some v → Value.okWide Try.prog W .any base t v)
    (hA : DataW.TrodAll enc Try.prog W 0 (fun _ => true) true Try.f6.params.toList args.toList ds p) (hk : Rows.uptoSmall H ds = true) :
    Calls Try.prog 6 args W fun e w' => e = .returned (.bool true) ∧ Below W.heap.size W w' := by
  rw [Try.params6] at hA hval
  obtain ⟨v0, vs0, d0, ds0, p0, q0, hargs, rfl, rfl, h0, r0⟩ := trodAll_cons hA
  obtain ⟨v1, vs1, d1, ds1, p1, q1, rfl, rfl, rfl, h1, r1⟩ := trodAll_cons r0
  obtain ⟨v2, vs2, d2, ds2, p2, q2, rfl, rfl, rfl, h2, r2⟩ := trodAll_cons r1
  obtain ⟨rfl, rfl, rfl⟩ := trodAll_nil r2
  obtain rfl : args = #[v0, v1, v2] := by cases args; simp_all
  have hk2 : Rows.uptoBulkAll [d0, d1, d2] ≤ 1048576 := of_decide_eq_true hk
  simp only [Rows.uptoBulkAll] at hk2
  obtain ⟨g, x, l0, hg, hx, b0⟩ := read_ex2 (hval 0 _ v0 rfl rfl) h0
  obtain ⟨y1, l1, s1⟩ := read_sh (P := Try.prog) (S := [5, 36, 3]) (by kernel_rfl) (by kernel_rfl) (s := .int .u8) (by kernel_rfl) (hval 1 _ v1 rfl rfl) h1
  obtain ⟨n, rfl, hn⟩ := sh_u8 s1
  obtain ⟨y2, l2, s2⟩ := read_sh (P := Try.prog) (S := [5, 36, 3]) (by kernel_rfl) (by kernel_rfl) (s := .slice (.int .i64)) (by kernel_rfl) (hval 2 _ v2 rfl rfl) h2
  obtain ⟨vs, rfl, hv, _⟩ := list_enc (f := encI) (p := fun a => -9223372036854775808 ≤ a ∧ a ≤ 9223372036854775807) (fun z hz => by simp only [ShV] at hz; obtain ⟨n, rfl, a, b⟩ := hz; exact ⟨n, rfl, a, b⟩) s2
  exact law_calls (vs := [v0, v1, v2]) (nsb_law hg hx (by omega) (by omega) (Nat.le_trans hv maxLen_le) hn) ⟨l0, l1, l2, trivial⟩

theorem NumSubstitutes_contract (H : Type) (enc : TypeId × Value → H) (W : World) (base : Nat) (args : Array Value) (ds gs : List (DataW H)) (before : List MemPlace)
    (hval : ∀ (j : Nat) t v, Try.f6.params[j]? = some t → args[j]? = some v → Value.okWide Try.prog W .any base t v)
    (hW : DataW.Whole enc Try.prog Try.f6.params.toList Rows.numSubstitutesSpec.vars false W args.toList ds gs before) (hk : Rows.uptoSmall H (ds ++ gs) = true) :
    Calls Try.prog 6 args W fun e W' => ∃ v, e = .returned v ∧ Rows.numSubstitutesSpec.post enc Try.prog Try.f6 false true false false W args v W' := by
  have hW' := hW
  obtain ⟨p, q, hA, hV, rfl, hfz, hnd⟩ := hW
  have hlen : ∃ d0 d1 d2, ds = [d0, d1, d2] := by
    have hA2 := hA
    rw [Try.params6] at hA2
    obtain ⟨_, _, d0, ds0, _, _, _, hd0, _, _, hA2⟩ := trodAll_cons hA2
    obtain ⟨_, _, d1, ds1, _, _, _, hd1, _, _, hA2⟩ := trodAll_cons hA2
    obtain ⟨_, _, d2, ds2, _, _, _, hd2, _, _, hA2⟩ := trodAll_cons hA2
    obtain ⟨_, hdn, _⟩ := trodAll_nil hA2
    exact ⟨d0, d1, d2, by rw [hd0, hd1, hd2, hdn]⟩
  have hfn : Rows.numSubstitutesSpec.fn H ds = { results := [.lit (.bool true)], args := ds } := by
    obtain ⟨d0, d1, d2, rfl⟩ := hlen
    rfl
  obtain ⟨rfl, rfl⟩ := trodVars_none hV
  refine (NumSubstitutes_read H enc W base args ds p hval hA (by simpa using hk)).mono fun e W' ⟨he, hb⟩ => ⟨_, he, ?_⟩
  exact law_post (by kernel_rfl) (by kernel_rfl) rfl rfl Try.underlying4 hW' hfn hb

set_option maxRecDepth 100000 in
theorem NumSubstitutes_lifted (os : Os) (started : os.Started) (H : Type) (enc : TypeId × Value → H) (F : Stop.Interp) :
    ReturnsInHanded {} Try.checked os 6 .any ((Rows.OpenSpec.upto Rows.numSubstitutesSpec).pre6 enc Try.prog Try.f6 Rows.numSubstitutesUptoRow.domain false) (((Rows.OpenSpec.upto Rows.numSubstitutesSpec).at F).post enc Try.prog Try.f6 false true false false) := by
  refine returnsInHanded_of_cond (C := Try.checked) (s := Rows.OpenSpec.upto Rows.numSubstitutesSpec) (k := Rows.uptoSmall) rfl own started (by kernel_rfl) Try.func6
    (OpenSpec.witness (enc := enc) (C := Try.checked) (s := Rows.OpenSpec.upto Rows.numSubstitutesSpec) (k := Rows.uptoSmall) rfl false ⟨#[], #[.agg #[.int .i64 0, .int .i64 0, .int .i64 0, .slice none 0 0, .int .i64 0, .int .i64 0, .int .i64 0, .slice none 0 0], .int .u8 0, .slice none 0 0], []⟩ 8 (by kernel_rfl) (by kernel_rfl) (by kernel_rfl)
      (x := ([.agg [.agg [.lit (.int .i64 0), .lit (.int .i64 0), .lit (.int .i64 0), .nil], .agg [.lit (.int .i64 0), .lit (.int .i64 0), .lit (.int .i64 0), .nil]], .lit (.int .u8 0), .nil], [], [])) (by kernel_rfl) rfl (by kernel_rfl)) ?_
  intro W base args ds gs before hval hW _ hk _
  exact NumSubstitutes_contract H enc W base args ds gs before hval hW hk

theorem NumSubstitutes_over : Rows.numSubstitutesUptoRow.holds Try.pinned (Rows.OpenSpec.upto Rows.numSubstitutesSpec) :=
  OpenClaim.holds_of_cond 6 Try.f6 rfl rfl rfl rfl rfl rfl rfl ⟨rfl, rfl, rfl, rfl, rfl⟩ rfl rfl rfl rfl rfl (by kernel_rfl) Try.func6 (by kernel_rfl)
    (of_decide_eq_true (by kernel_rfl)) (by unfold Func.isWrapper; first | (rw [if_pos (by decide +kernel)]; kernel_rfl) | (rw [if_neg (by decide +kernel)]; exact ⟨rfl, rfl⟩))
    (fun os started H enc _ F => NumSubstitutes_lifted os started H enc F)

/-- The statement. -/
theorem NumSubstitutes_proved : Rows.NumSubstitutesUptoSaid := NumSubstitutes_over


end Go.Proofs.Ytfhfdenmcneamaa
