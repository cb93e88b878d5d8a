/- parolelaw13.RulesRefuses answers true for all values. -/
import Derived.Test.YtioiffbnbjalcaaRows
import Derived.Test.YtioiffbnbjalcaaRuRef
import Derived.Test.YtioiffbnbjalcaaEvV
import Derived.Test.YtioiffbnbjalcaaLaw
import Derived.Lib.SmallJoins
set_option linter.unusedVariables false
set_option linter.unusedSimpArgs false
namespace Go.Proofs.Ytioiffbnbjalcaa
open Go.ChangeShapes Go.WideShapes Go.ChangeAt Go.RowKit
set_option maxRecDepth 100000

theorem sh_rv {y : AV} (h : ShV (.agg [.int .u8, .int .u8, .int .u8, .int .u8, .int .u8, .int .i16, .int .i16, .int .u8, .int .u8]) y) : ∃ x : Rv, y = encV x ∧ BV x := by
  unfold ShV at h
  obtain ⟨cs, rfl, h⟩ := h
  simp only [ShW, ShV] at h
  obtain ⟨c0, _, rfl, ⟨x0, rfl, a0, b0⟩, c1, _, rfl, ⟨x1, rfl, a1, b1⟩, c2, _, rfl, ⟨x2, rfl, a2, b2⟩, c3, _, rfl, ⟨x3, rfl, a3, b3⟩, c4, _, rfl, ⟨x4, rfl, a4, b4⟩, c5, _, rfl, ⟨x5, rfl, a5, b5⟩, c6, _, rfl, ⟨x6, rfl, a6, b6⟩, c7, _, rfl, ⟨x7, rfl, a7, b7⟩, c8, _, rfl, ⟨x8, rfl, a8, b8⟩, rfl⟩ := h
  exact ⟨⟨x0, x1, x2, x3, x4, x5, x6, x7, x8⟩, rfl, by unfold BV; exact ⟨⟨a0, b0⟩, ⟨a1, b1⟩, ⟨a2, b2⟩, ⟨a3, b3⟩, ⟨a4, b4⟩, ⟨a5, b5⟩, ⟨a6, b6⟩, ⟨a7, b7⟩, a8, b8⟩⟩
theorem own : ownKnob Try.prog.godebug = none := by kernel_rfl
theorem RulesRefuses_read (H : Type) (enc : TypeId × Value → H) (W : World) (base : Nat) (args : Array Value) (ds : List (DataW H)) (p : List MemPlace)
    (hval : ∀ (j : Nat) t v, Try.f5.params[j]? = some t → args[j]? = some v → Value.okWide Try.prog W .any base t v)
    (hA : DataW.TrodAll enc Try.prog W 0 (fun _ => true) true Try.f5.params.toList args.toList ds p) :
    Calls Try.prog 5 args W fun e w' => e = .returned (.bool true) ∧ Below W.heap.size W w' := by
  rw [Try.params5] at hA hval
  obtain ⟨v0, vs0, d0, ds0, p0, q0, hargs, rfl, rfl, h0, r0⟩ := trodAll_cons hA
  obtain ⟨v1, vs1, d1, ds1, p1, q1, rfl, rfl, rfl, h1, r1⟩ := trodAll_cons r0
  obtain ⟨v2, vs2, d2, ds2, p2, q2, rfl, rfl, rfl, h2, r2⟩ := trodAll_cons r1
  obtain ⟨rfl, rfl, rfl⟩ := trodAll_nil r2
  obtain rfl : args = #[v0, v1, v2] := by cases args; simp_all
  obtain ⟨y0, l0, s0⟩ := read_sh (P := Try.prog) (S := [24, 5, 22, 3]) (by kernel_rfl) (by kernel_rfl) (s := .agg [.int .u8, .int .u8, .int .u8, .int .u8, .int .u8, .int .i16, .int .i16, .int .u8, .int .u8]) (by kernel_rfl) (hval 0 _ v0 rfl rfl) h0
  obtain ⟨x, rfl, hx⟩ := sh_rv s0
  obtain ⟨y1, l1, s1⟩ := read_sh (P := Try.prog) (S := [24, 5, 22, 3]) (by kernel_rfl) (by kernel_rfl) (s := .int .u8) (by kernel_rfl) (hval 1 _ v1 rfl rfl) h1
  simp only [ShV] at s1; obtain ⟨f, rfl, f1, f2⟩ := s1
  obtain ⟨y2, l2, s2⟩ := read_sh (P := Try.prog) (S := [24, 5, 22, 3]) (by kernel_rfl) (by kernel_rfl) (s := .int .i64) (by kernel_rfl) (hval 2 _ v2 rfl rfl) h2
  simp only [ShV] at s2; obtain ⟨n, rfl, n1, n2⟩ := s2
  exact law_calls (vs := [v0, v1, v2]) (rr_law hx ⟨f1, f2⟩ ⟨n1, n2⟩) ⟨l0, l1, l2, trivial⟩

theorem RulesRefuses_contract (H : Type) (enc : TypeId × Value → H) (W : World) (base : Nat) (args : Array Value) (ds gs : List (DataW H)) (before : List MemPlace)
    (hval : ∀ (j : Nat) t v, Try.f5.params[j]? = some t → args[j]? = some v → Value.okWide Try.prog W .any base t v)
    (hW : DataW.Whole enc Try.prog Try.f5.params.toList Rows.rulesRefusesSpec.vars false W args.toList ds gs before) :
    Calls Try.prog 5 args W fun e W' => ∃ v, e = .returned v ∧ Rows.rulesRefusesSpec.post enc Try.prog Try.f5 false true false false W args v W' := by
  have hW' := hW
  obtain ⟨p, q, hA, hV, rfl, hfz, hnd⟩ := hW
  have hlen : ∃ d0 d1 d2, ds = [d0, d1, d2] := by
    have hA2 := hA
    rw [Try.params5] at hA2
    obtain ⟨_, _, d0, ds0, _, _, _, hd0, _, _, hA2⟩ := trodAll_cons hA2
    obtain ⟨_, _, d1, ds1, _, _, _, hd1, _, _, hA2⟩ := trodAll_cons hA2
    obtain ⟨_, _, d2, ds2, _, _, _, hd2, _, _, hA2⟩ := trodAll_cons hA2
    obtain ⟨_, hdn, _⟩ := trodAll_nil hA2
    exact ⟨d0, d1, d2, by rw [hd0, hd1, hd2, hdn]⟩
  have hfn : Rows.rulesRefusesSpec.fn H ds = { results := [.lit (.bool true)], args := ds } := by
    obtain ⟨d0, d1, d2, rfl⟩ := hlen
    rfl
  obtain ⟨rfl, rfl⟩ := trodVars_none hV
  refine (RulesRefuses_read H enc W base args ds p hval hA).mono fun e W' ⟨he, hb⟩ => ⟨_, he, ?_⟩
  exact law_post (by kernel_rfl) (by kernel_rfl) rfl rfl Try.underlying4 hW' hfn hb

set_option maxRecDepth 100000 in
theorem RulesRefuses_lifted (os : Os) (started : os.Started) (H : Type) (enc : TypeId × Value → H) :
    ReturnsInHanded {} Try.checked os 5 .any (Rows.rulesRefusesSpec.pre6 enc Try.prog Try.f5 Rows.rulesRefusesRow.domain false) (Rows.rulesRefusesSpec.post enc Try.prog Try.f5 false true false false) := by
  refine returnsInHanded_of_change (C := Try.checked) own started (by kernel_rfl) Try.func5
    (ChangeSpec.witness6 (enc := enc) (C := Try.checked) false ⟨#[], #[.agg #[.int .u8 0, .int .u8 0, .int .u8 0, .int .u8 0, .int .u8 0, .int .i16 0, .int .i16 0, .int .u8 0, .int .u8 0], .int .u8 0, .int .i64 0], []⟩ 8 (by kernel_rfl) (by kernel_rfl) (by kernel_rfl) (by kernel_rfl)) ?_
  intro W base args ds gs before hval hW _ _
  exact RulesRefuses_contract H enc W base args ds gs before hval hW

theorem RulesRefuses_over : Rows.rulesRefusesRow.holds Try.pinned (OpenSpec.ofChange Rows.rulesRefusesSpec) :=
  OpenClaim.holds_of_wide 5 Try.f5 rfl rfl rfl rfl rfl rfl rfl ⟨rfl, rfl, rfl, rfl, rfl⟩ rfl rfl rfl rfl rfl (by kernel_rfl) Try.func5 (by kernel_rfl)
    (of_decide_eq_true (by kernel_rfl)) (by unfold Func.isWrapper; first | (rw [if_pos (by decide +kernel)]; kernel_rfl) | (rw [if_neg (by decide +kernel)]; exact ⟨rfl, rfl⟩))
    (fun os started H enc _ => RulesRefuses_lifted os started H enc)

/-- The statement. -/
theorem RulesRefuses_proved : Rows.RulesRefusesSaid := RulesRefuses_over


end Go.Proofs.Ytioiffbnbjalcaa
