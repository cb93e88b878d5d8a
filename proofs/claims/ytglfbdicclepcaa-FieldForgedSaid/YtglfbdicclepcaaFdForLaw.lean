/- parolelaw32.FieldForged answers true for all values. -/
import Derived.Test.YtglfbdicclepcaaRows
import Derived.Test.YtglfbdicclepcaaFdFor
import Derived.Test.YtglfbdicclepcaaEvV
import Derived.Test.YtglfbdicclepcaaLaw
import Derived.Lib.SmallJoins
set_option linter.unusedVariables false
set_option linter.unusedSimpArgs false
namespace Go.Proofs.Ytglfbdicclepcaa
open Go.ChangeShapes Go.WideShapes Go.ChangeAt Go.RowKit
set_option maxRecDepth 100000

theorem sh_rr {x : AV} (h : ShV (.agg [.int .u8, .int .u8, .int .u8, .int .u8, .int .u8, .int .u8]) x) : ∃ q : Rr, x = encRr q ∧ BRr q := by
  simp only [ShV, ShW] at h
  obtain ⟨cs, rfl, _, _, rfl, ⟨n0, rfl, a0, b0⟩, _, _, rfl, ⟨n1, rfl, a1, b1⟩, _, _, rfl, ⟨n2, rfl, a2, b2⟩, _, _, rfl, ⟨n3, rfl, a3, b3⟩, _, _, rfl, ⟨n4, rfl, a4, b4⟩, _, _, rfl, ⟨n5, rfl, a5, b5⟩, rfl⟩ := h
  exact ⟨⟨n0, n1, n2, n3, n4, n5⟩, rfl, ⟨⟨a0, b0⟩, ⟨a1, b1⟩, ⟨a2, b2⟩, ⟨a3, b3⟩, ⟨a4, b4⟩, ⟨a5, b5⟩⟩⟩
theorem sh_in {x : AV} (h : ShV (.agg [.int .u8, .slice (.agg [.int .u8, .int .u8, .int .u8, .int .u8, .int .u8, .int .u8]), .int .u8]) x) : ∃ q : In32, x = encN q ∧ BIn q := by
  obtain ⟨cs, rfl, c0, cs0, rfl, ⟨n0, rfl, a0, b0⟩, c1, cs1, rfl, h1, c2, cs2, rfl, ⟨n2, rfl, a2, b2⟩, rfl⟩ := h
  obtain ⟨l, rfl, _, hl⟩ := list_enc (fun y h => sh_rr h) h1
  exact ⟨⟨n0, l, n2⟩, rfl, ⟨a0, b0⟩, hl, a2, b2⟩
theorem sh_two {x : AV} (h : ShV (.agg [.int .u8, .int .u8]) x) : ∃ (n0 : Int) (n1 : Int), x = .agg [.int .u8 n0, .int .u8 n1] ∧ (0 ≤ n0 ∧ n0 ≤ 255) ∧ (0 ≤ n1 ∧ n1 ≤ 255) := by
  simp only [ShV, ShW] at h
  obtain ⟨cs, rfl, _, _, rfl, ⟨n0, rfl, a0, b0⟩, _, _, rfl, ⟨n1, rfl, a1, b1⟩, rfl⟩ := h
  exact ⟨n0, n1, rfl, ⟨a0, b0⟩, ⟨a1, b1⟩⟩
theorem sh_i64 {x : AV} (h : ShV (.int .i64) x) : ∃ n0 : Int, x = .int .i64 n0 ∧ (-9223372036854775808 ≤ n0 ∧ n0 ≤ 9223372036854775807) := by
  simp only [ShV] at h
  obtain ⟨n, rfl, a, b⟩ := h
  exact ⟨n, rfl, a, b⟩
theorem own : ownKnob Try.prog.godebug = none := by kernel_rfl
theorem FieldForged_read (H : Type) (enc : TypeId × Value → H) (W : World) (base : Nat) (args : Array Value) (ds : List (DataW H)) (p : List MemPlace)
    (hval : ∀ (j : Nat) t v, Try.f5.params[j]? = some t → args[j]? = some v → Value.okWide Try.prog W .any base t v)
    (hA : DataW.TrodAll enc Try.prog W 0 (fun _ => true) true Try.f5.params.toList args.toList ds p) :
    Calls Try.prog 5 args W fun e w' => e = .returned (.bool true) ∧ Below W.heap.size W w' := by
  rw [Try.params5] at hA hval
  obtain ⟨v0, vs0, d0, ds0, p0, q0, hargs, rfl, rfl, h0, r0⟩ := trodAll_cons hA
  obtain ⟨v1, vs1, d1, ds1, p1, q1, rfl, rfl, rfl, h1, r1⟩ := trodAll_cons r0
  obtain ⟨v2, vs2, d2, ds2, p2, q2, rfl, rfl, rfl, h2, r2⟩ := trodAll_cons r1
  obtain ⟨rfl, rfl, rfl⟩ := trodAll_nil r2
  obtain rfl : args = #[v0, v1, v2] := by cases args; simp_all
  obtain ⟨y0, l0, s0⟩ := read_sh (P := Try.prog) (S := [24, 5, 22, 58, 56, 49, 3]) (by kernel_rfl) (by kernel_rfl) (s := .agg [.int .u8, .slice (.agg [.int .u8, .int .u8, .int .u8, .int .u8, .int .u8, .int .u8]), .int .u8]) (by kernel_rfl) (hval 0 _ v0 rfl rfl) h0
  obtain ⟨x, rfl, hx⟩ := sh_in s0
  obtain ⟨y1, l1, s1⟩ := read_sh (P := Try.prog) (S := [24, 5, 22, 58, 56, 49, 3]) (by kernel_rfl) (by kernel_rfl) (s := .agg [.int .u8, .int .u8]) (by kernel_rfl) (hval 1 _ v1 rfl rfl) h1
  obtain ⟨z0, z1, rfl, hz⟩ := sh_two s1
  obtain ⟨y2, l2, s2⟩ := read_sh (P := Try.prog) (S := [24, 5, 22, 58, 56, 49, 3]) (by kernel_rfl) (by kernel_rfl) (s := .int .i64) (by kernel_rfl) (hval 2 _ v2 rfl rfl) h2
  obtain ⟨n, rfl, hn⟩ := sh_i64 s2
  exact law_calls (vs := [v0, v1, v2]) (ff_law hx hz hn) ⟨l0, l1, l2, trivial⟩

theorem FieldForged_contract (H : Type) (enc : TypeId × Value → H) (W : World) (base : Nat) (args : Array Value) (ds gs : List (DataW H)) (before : List MemPlace)
    (hval : ∀ (j : Nat) t v, Try.f5.params[j]? = some t → args[j]? = some v → Value.okWide Try.prog W .any base t v)
    (hW : DataW.Whole enc Try.prog Try.f5.params.toList Rows.fieldForgedSpec.vars false W args.toList ds gs before) :
    Calls Try.prog 5 args W fun e W' => ∃ v, e = .returned v ∧ Rows.fieldForgedSpec.post enc Try.prog Try.f5 false true false false W args v W' := by
  have hW' := hW
  obtain ⟨p, q, hA, hV, rfl, hfz, hnd⟩ := hW
  have hlen : ∃ d0 d1 d2, ds = [d0, d1, d2] := by
    have hA2 := hA
    rw [Try.params5] at hA2
    obtain ⟨_, _, d0, ds0, _, _, _, hd0, _, _, hA2⟩ := trodAll_cons hA2
    obtain ⟨_, _, d1, ds1, _, _, _, hd1, _, _, hA2⟩ := trodAll_cons hA2
    obtain ⟨_, _, d2, ds2, _, _, _, hd2, _, _, hA2⟩ := trodAll_cons hA2
    obtain ⟨_, hdn, _⟩ := trodAll_nil hA2
    exact ⟨d0, d1, d2, by rw [hd0, hd1, hd2, hdn]⟩
  have hfn : Rows.fieldForgedSpec.fn H ds = { results := [.lit (.bool true)], args := ds } := by
    obtain ⟨d0, d1, d2, rfl⟩ := hlen
    rfl
  obtain ⟨rfl, rfl⟩ := trodVars_none hV
  refine (FieldForged_read H enc W base args ds p hval hA).mono fun e W' ⟨he, hb⟩ => ⟨_, he, ?_⟩
  exact law_post (by kernel_rfl) (by kernel_rfl) rfl rfl Try.underlying4 hW' hfn hb

set_option maxRecDepth 100000 in
theorem FieldForged_lifted (os : Os) (started : os.Started) (H : Type) (enc : TypeId × Value → H) :
    ReturnsInHanded {} Try.checked os 5 .any (Rows.fieldForgedSpec.pre6 enc Try.prog Try.f5 Rows.fieldForgedRow.domain false) (Rows.fieldForgedSpec.post enc Try.prog Try.f5 false true false false) := by
  refine returnsInHanded_of_change (C := Try.checked) own started (by kernel_rfl) Try.func5
    (ChangeSpec.witness6 (enc := enc) (C := Try.checked) false ⟨#[], #[.agg #[.int .u8 0, .slice none 0 0, .int .u8 0], .agg #[.int .u8 0, .int .u8 0], .int .i64 0], []⟩ 8 (by kernel_rfl) (by kernel_rfl) (by kernel_rfl) (by kernel_rfl)) ?_
  intro W base args ds gs before hval hW _ _
  exact FieldForged_contract H enc W base args ds gs before hval hW

theorem FieldForged_over : Rows.fieldForgedRow.holds Try.pinned (OpenSpec.ofChange Rows.fieldForgedSpec) :=
  OpenClaim.holds_of_wide 5 Try.f5 rfl rfl rfl rfl rfl rfl rfl ⟨rfl, rfl, rfl, rfl, rfl⟩ rfl rfl rfl rfl rfl (by kernel_rfl) Try.func5 (by kernel_rfl)
    (of_decide_eq_true (by kernel_rfl)) (by unfold Func.isWrapper; first | (rw [if_pos (by decide +kernel)]; kernel_rfl) | (rw [if_neg (by decide +kernel)]; exact ⟨rfl, rfl⟩))
    (fun os started H enc _ => FieldForged_lifted os started H enc)

/-- The statement. -/
theorem FieldForged_proved : Rows.FieldForgedSaid := FieldForged_over


end Go.Proofs.Ytglfbdicclepcaa
