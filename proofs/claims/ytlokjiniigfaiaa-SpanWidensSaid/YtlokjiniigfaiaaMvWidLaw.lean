/- parolelaw10.SpanWidens answers true for every description of a set and every list of them, and leaves its arguments as they were: no condition. -/
import Derived.Test.YtlokjiniigfaiaaRows
import Derived.Test.YtlokjiniigfaiaaMvWidL
import Derived.Test.YtlokjiniigfaiaaEvV
import Derived.Test.YtlokjiniigfaiaaLaw
import Derived.Lib.SmallJoins
set_option linter.unusedVariables false
set_option linter.unusedSimpArgs false
namespace Go.Proofs.Ytlokjiniigfaiaa
open Go.ChangeShapes Go.WideShapes Go.ChangeAt Go.RowKit

theorem sh_Rw {x : AV} (h : ShV (.agg [.int .i64, .int .i64, .int .i64, .int .i64]) x) : ∃ q : Rw, x = encR q ∧ (-9223372036854775808 ≤ q.a ∧ q.a ≤ 9223372036854775807) ∧ (-9223372036854775808 ≤ q.b ∧ q.b ≤ 9223372036854775807) ∧ (-9223372036854775808 ≤ q.c ∧ q.c ≤ 9223372036854775807) ∧ (-9223372036854775808 ≤ q.d ∧ q.d ≤ 9223372036854775807) := by
  simp only [ShV, ShW] at h
  obtain ⟨cs, rfl, _, _, rfl, ⟨n0, rfl, a0, b0⟩, _, _, rfl, ⟨n1, rfl, a1, b1⟩, _, _, rfl, ⟨n2, rfl, a2, b2⟩, _, _, rfl, ⟨n3, rfl, a3, b3⟩, rfl⟩ := h
  exact ⟨⟨n0, n1, n2, n3⟩, rfl, ⟨⟨a0, b0⟩, ⟨a1, b1⟩, ⟨a2, b2⟩, ⟨a3, b3⟩⟩⟩
theorem own : ownKnob Try.prog.godebug = none := by kernel_rfl
theorem SpanWidens_read (H : Type) (enc : TypeId × Value → H) (W : World) (base : Nat) (args : Array Value) (ds : List (DataW H)) (p : List MemPlace)
    (hval : ∀ (j : Nat) t v, Try.f6.params[j]? = some t → args[j]? = some v → Value.okWide Try.prog W .any base t v)
    (hA : DataW.TrodAll enc Try.prog W 0 (fun _ => true) true Try.f6.params.toList args.toList ds p) :
    Calls Try.prog 6 args W fun e w' => e = .returned (.bool true) ∧ Below W.heap.size W w' := by
  rw [Try.params6] at hA hval
  obtain ⟨v0, vs0, d0, ds0, p0, q0, hargs, rfl, rfl, h0, r0⟩ := trodAll_cons hA
  obtain ⟨v1, vs1, d1, ds1, p1, q1, rfl, rfl, rfl, h1, r1⟩ := trodAll_cons r0
  obtain ⟨rfl, rfl, rfl⟩ := trodAll_nil r1
  obtain rfl : args = #[v0, v1] := by cases args; simp_all
  obtain ⟨y0, l0, s0⟩ := read_sh (P := Try.prog) (S := [23, 3, 40]) (by kernel_rfl) (by kernel_rfl) (s := .agg [.int .i64, .int .i64, .int .i64, .int .i64]) (by kernel_rfl) (hval 0 _ v0 rfl rfl) h0
  obtain ⟨x, rfl, hx⟩ := sh_Rw s0
  obtain ⟨y1, l1, s1⟩ := read_sh (P := Try.prog) (S := [23, 3, 40]) (by kernel_rfl) (by kernel_rfl) (s := .slice (.agg [.int .i64, .int .i64, .int .i64, .int .i64])) (by kernel_rfl) (hval 1 _ v1 rfl rfl) h1
  obtain ⟨l, rfl, hll, hl⟩ := list_enc (fun y h => sh_Rw h) s1
  exact law_calls (vs := [v0, v1]) (widens_all hx.1.1 hx.1.2 (fun n hn => (getD_all hl rw0 n hn).1) hll) ⟨l0, l1, trivial⟩

theorem SpanWidens_contract (H : Type) (enc : TypeId × Value → H) (W : World) (base : Nat) (args : Array Value) (ds gs : List (DataW H)) (before : List MemPlace)
    (hval : ∀ (j : Nat) t v, Try.f6.params[j]? = some t → args[j]? = some v → Value.okWide Try.prog W .any base t v)
    (hW : DataW.Whole enc Try.prog Try.f6.params.toList Rows.spanWidensSpec.vars false W args.toList ds gs before) :
    Calls Try.prog 6 args W fun e W' => ∃ v, e = .returned v ∧ Rows.spanWidensSpec.post enc Try.prog Try.f6 false true false false W args v W' := by
  have hW' := hW
  obtain ⟨p, q, hA, hV, rfl, hfz, hnd⟩ := hW
  have hlen : ∃ d0 d1, ds = [d0, d1] := by
    have hA2 := hA
    rw [Try.params6] at hA2
    obtain ⟨_, _, d0, ds0, _, _, _, hd0, _, _, hA2⟩ := trodAll_cons hA2
    obtain ⟨_, _, d1, ds1, _, _, _, hd1, _, _, hA2⟩ := trodAll_cons hA2
    obtain ⟨_, hdn, _⟩ := trodAll_nil hA2
    exact ⟨d0, d1, by rw [hd0, hd1, hdn]⟩
  have hfn : Rows.spanWidensSpec.fn H ds = { results := [.lit (.bool true)], args := ds } := by
    obtain ⟨d0, d1, rfl⟩ := hlen
    rfl
  obtain ⟨rfl, rfl⟩ := trodVars_none hV
  refine (SpanWidens_read H enc W base args ds p hval hA).mono fun e W' ⟨he, hb⟩ => ⟨_, he, ?_⟩
  exact law_post (by kernel_rfl) (by kernel_rfl) rfl rfl Try.underlying4 hW' hfn hb

set_option maxRecDepth 100000 in
theorem SpanWidens_lifted (os : Os) (started : os.Started) (H : Type) (enc : TypeId × Value → H) :
    ReturnsInHanded {} Try.checked os 6 .any (Rows.spanWidensSpec.pre6 enc Try.prog Try.f6 Rows.spanWidensRow.domain false) (Rows.spanWidensSpec.post enc Try.prog Try.f6 false true false false) := by
  refine returnsInHanded_of_change (C := Try.checked) own started (by kernel_rfl) Try.func6
    (ChangeSpec.witness6 (enc := enc) (C := Try.checked) false ⟨#[], #[.agg #[.int .i64 0, .int .i64 0, .int .i64 0, .int .i64 0], .slice none 0 0], []⟩ 8 (by kernel_rfl) (by kernel_rfl) (by kernel_rfl) (by kernel_rfl)) ?_
  intro W base args ds gs before hval hW _ _
  exact SpanWidens_contract H enc W base args ds gs before hval hW

theorem SpanWidens_over : Rows.spanWidensRow.holds Try.pinned (OpenSpec.ofChange Rows.spanWidensSpec) :=
  OpenClaim.holds_of_wide 6 Try.f6 rfl rfl rfl rfl rfl rfl rfl ⟨rfl, rfl, rfl, rfl, rfl⟩ rfl rfl rfl rfl rfl (by kernel_rfl) Try.func6 (by kernel_rfl)
    (of_decide_eq_true (by kernel_rfl)) (by unfold Func.isWrapper; first | (rw [if_pos (by decide +kernel)]; kernel_rfl) | (rw [if_neg (by decide +kernel)]; exact ⟨rfl, rfl⟩))
    (fun os started H enc _ => SpanWidens_lifted os started H enc)

/-- The statement. -/
theorem SpanWidens_proved : Rows.SpanWidensSaid := SpanWidens_over


end Go.Proofs.Ytlokjiniigfaiaa
