/- parolelaw42.PriceMatchesReference answers true for all descriptions of offices, risks and numbers: no condition. -/
import Derived.Test.YtkijlggnnbdeiaaRows
import Derived.Test.YtkijlggnnbdeiaaPrMat
import Derived.Test.YtkijlggnnbdeiaaEvV
import Derived.Test.YtkijlggnnbdeiaaLaw
import Derived.Lib.SmallJoins
set_option linter.unusedVariables false
set_option linter.unusedSimpArgs false
namespace Go.Proofs.Ytkijlggnnbdeiaa
open Go.ChangeShapes Go.WideShapes Go.ChangeAt Go.RowKit
set_option maxRecDepth 100000

theorem ShV.aggD {ss : List Sh} {x : AV} (h : ShV (.agg ss) x) : ∃ cs : List AV, x = .agg cs ∧ ShW ss cs := by unfold ShV at h; exact h
theorem ShW.consD {s : Sh} {ss : List Sh} {cs : List AV} (h : ShW (s :: ss) cs) : ∃ c r, cs = c :: r ∧ ShV s c ∧ ShW ss r := by unfold ShW at h; exact h
theorem ShW.nilD {cs : List AV} (h : ShW [] cs) : cs = [] := by unfold ShW at h; exact h
theorem sh_b8 {x : AV} (h : ShV (.int .u8) x) : ∃ n0 : Int, x = .int .u8 n0 ∧ (0 ≤ n0 ∧ n0 ≤ 255) := by
  simp only [ShV] at h
  obtain ⟨n, rfl, a, b⟩ := h
  exact ⟨n, rfl, a, b⟩
theorem sh_b16 {x : AV} (h : ShV (.int .u16) x) : ∃ n0 : Int, x = .int .u16 n0 ∧ (0 ≤ n0 ∧ n0 ≤ 65535) := by
  simp only [ShV] at h
  obtain ⟨n, rfl, a, b⟩ := h
  exact ⟨n, rfl, a, b⟩
theorem sh_i64 {x : AV} (h : ShV (.int .i64) x) : ∃ n0 : Int, x = .int .i64 n0 ∧ (-9223372036854775808 ≤ n0 ∧ n0 ≤ 9223372036854775807) := by
  simp only [ShV] at h
  obtain ⟨n, rfl, a, b⟩ := h
  exact ⟨n, rfl, a, b⟩
theorem sh_office {x : AV} (h : ShV (.agg [.slice (.int .u8), .slice (.int .u8), .int .u16]) x) : ∃ (B R : List Int) (bs : Int), x = .agg [.list (B.map enc8), .list (R.map enc8), .int .u16 bs] ∧ (B.length ≤ 9223372036854775807 ∧ U8L B) ∧ (R.length ≤ 9223372036854775807 ∧ U8L R) ∧ 0 ≤ bs ∧ bs ≤ 65535 := by
  obtain ⟨cs, rfl, k⟩ := ShV.aggD h
  obtain ⟨c0, r0, rfl, h0, k1⟩ := ShW.consD k
  obtain ⟨c1, r1, rfl, h1, k2⟩ := ShW.consD k1
  obtain ⟨c2, r2, rfl, h2, k3⟩ := ShW.consD k2
  obtain rfl := ShW.nilD k3
  obtain ⟨L0, rfl, a0, b0⟩ := list_enc (fun y h => sh_b8 h) h0
  obtain ⟨L1, rfl, a1, b1⟩ := list_enc (fun y h => sh_b8 h) h1
  obtain ⟨n0, rfl, a2⟩ := sh_b16 h2
  exact ⟨L0, L1, n0, rfl, ⟨a0, b0⟩, ⟨a1, b1⟩, a2⟩
theorem sh_rsk {x : AV} (h : ShV (.agg [.int .i64, .int .i64, .int .i64]) x) : ∃ (n0 : Int) (n1 : Int) (n2 : Int), x = .agg [.int .i64 n0, .int .i64 n1, .int .i64 n2] ∧ (-9223372036854775808 ≤ n0 ∧ n0 ≤ 9223372036854775807) ∧ (-9223372036854775808 ≤ n1 ∧ n1 ≤ 9223372036854775807) ∧ (-9223372036854775808 ≤ n2 ∧ n2 ≤ 9223372036854775807) := by
  simp only [ShV, ShW] at h
  obtain ⟨cs, rfl, _, _, rfl, ⟨n0, rfl, a0, b0⟩, _, _, rfl, ⟨n1, rfl, a1, b1⟩, _, _, rfl, ⟨n2, rfl, a2, b2⟩, rfl⟩ := h
  exact ⟨n0, n1, n2, rfl, ⟨a0, b0⟩, ⟨a1, b1⟩, ⟨a2, b2⟩⟩
theorem sh_n3 {x : AV} (h : ShV (.agg [.int .i64, .int .i64, .int .i64]) x) : ∃ (n0 : Int) (n1 : Int) (n2 : Int), x = .agg [.int .i64 n0, .int .i64 n1, .int .i64 n2] ∧ (-9223372036854775808 ≤ n0 ∧ n0 ≤ 9223372036854775807) ∧ (-9223372036854775808 ≤ n1 ∧ n1 ≤ 9223372036854775807) ∧ (-9223372036854775808 ≤ n2 ∧ n2 ≤ 9223372036854775807) := by
  simp only [ShV, ShW] at h
  obtain ⟨cs, rfl, _, _, rfl, ⟨n0, rfl, a0, b0⟩, _, _, rfl, ⟨n1, rfl, a1, b1⟩, _, _, rfl, ⟨n2, rfl, a2, b2⟩, rfl⟩ := h
  exact ⟨n0, n1, n2, rfl, ⟨a0, b0⟩, ⟨a1, b1⟩, ⟨a2, b2⟩⟩
theorem own : ownKnob Try.prog.godebug = none := by kernel_rfl
theorem PriceMatchesReference_read (H : Type) (enc : TypeId × Value → H) (W : World) (base : Nat) (args : Array Value) (ds : List (DataW H)) (p : List MemPlace)
    (hval : ∀ (j : Nat) t v, Try.f7.params[j]? = some t → args[j]? = some v → Value.okWide Try.prog W .any base t v)
    (hA : DataW.TrodAll enc Try.prog W 0 (fun _ => true) true Try.f7.params.toList args.toList ds p) :
    Calls Try.prog 7 args W fun e w' => e = .returned (.bool true) ∧ Below W.heap.size W w' := by
  rw [Try.params7] at hA hval
  obtain ⟨v0, vs0, d0, ds0, p0, q0, hargs, rfl, rfl, h0, r0⟩ := trodAll_cons hA
  obtain ⟨v1, vs1, d1, ds1, p1, q1, rfl, rfl, rfl, h1, r1⟩ := trodAll_cons r0
  obtain ⟨v2, vs2, d2, ds2, p2, q2, rfl, rfl, rfl, h2, r2⟩ := trodAll_cons r1
  obtain ⟨rfl, rfl, rfl⟩ := trodAll_nil r2
  obtain rfl : args = #[v0, v1, v2] := by cases args; simp_all
  obtain ⟨y0, l0, s0⟩ := read_sh (P := Try.prog) (S := [41, 22, 5, 39, 29, 3, 68]) (by kernel_rfl) (by kernel_rfl) (s := .agg [.slice (.int .u8), .slice (.int .u8), .int .u16]) (by kernel_rfl) (hval 0 _ v0 rfl rfl) h0
  obtain ⟨B, R, bs, rfl, ⟨hBl, hB⟩, ⟨hRl, hR⟩, hbs⟩ := sh_office s0
  obtain ⟨y1, l1, s1⟩ := read_sh (P := Try.prog) (S := [41, 22, 5, 39, 29, 3, 68]) (by kernel_rfl) (by kernel_rfl) (s := .agg [.int .i64, .int .i64, .int .i64]) (by kernel_rfl) (hval 1 _ v1 rfl rfl) h1
  obtain ⟨rf, rk, rc, rfl, hrf, hrk, hrc⟩ := sh_rsk s1
  obtain ⟨y2, l2, s2⟩ := read_sh (P := Try.prog) (S := [41, 22, 5, 39, 29, 3, 68]) (by kernel_rfl) (by kernel_rfl) (s := .agg [.int .i64, .int .i64, .int .i64]) (by kernel_rfl) (hval 2 _ v2 rfl rfl) h2
  obtain ⟨a, b, c, rfl, ha, hb, hc⟩ := sh_n3 s2
  exact law_calls (vs := [v0, v1, v2]) (matches_all hB hBl hR hRl hbs hrf hrk hrc ha hb hc) ⟨l0, l1, l2, trivial⟩

theorem PriceMatchesReference_contract (H : Type) (enc : TypeId × Value → H) (W : World) (base : Nat) (args : Array Value) (ds gs : List (DataW H)) (before : List MemPlace)
    (hval : ∀ (j : Nat) t v, Try.f7.params[j]? = some t → args[j]? = some v → Value.okWide Try.prog W .any base t v)
    (hW : DataW.Whole enc Try.prog Try.f7.params.toList Rows.priceMatchesReferenceSpec.vars false W args.toList ds gs before) :
    Calls Try.prog 7 args W fun e W' => ∃ v, e = .returned v ∧ Rows.priceMatchesReferenceSpec.post enc Try.prog Try.f7 false true false false W args v W' := by
  have hW' := hW
  obtain ⟨p, q, hA, hV, rfl, hfz, hnd⟩ := hW
  have hlen : ∃ d0 d1 d2, ds = [d0, d1, d2] := by
    have hA2 := hA
    rw [Try.params7] at hA2
    obtain ⟨_, _, d0, ds0, _, _, _, hd0, _, _, hA2⟩ := trodAll_cons hA2
    obtain ⟨_, _, d1, ds1, _, _, _, hd1, _, _, hA2⟩ := trodAll_cons hA2
    obtain ⟨_, _, d2, ds2, _, _, _, hd2, _, _, hA2⟩ := trodAll_cons hA2
    obtain ⟨_, hdn, _⟩ := trodAll_nil hA2
    exact ⟨d0, d1, d2, by rw [hd0, hd1, hd2, hdn]⟩
  have hfn : Rows.priceMatchesReferenceSpec.fn H ds = { results := [.lit (.bool true)], args := ds } := by
    obtain ⟨d0, d1, d2, rfl⟩ := hlen
    rfl
  obtain ⟨rfl, rfl⟩ := trodVars_none hV
  refine (PriceMatchesReference_read H enc W base args ds p hval hA).mono fun e W' ⟨he, hb⟩ => ⟨_, he, ?_⟩
  exact law_post (by kernel_rfl) (by kernel_rfl) rfl rfl Try.underlying4 hW' hfn hb

set_option maxRecDepth 100000 in
theorem PriceMatchesReference_lifted (os : Os) (started : os.Started) (H : Type) (enc : TypeId × Value → H) :
    ReturnsInHanded {} Try.checked os 7 .any (Rows.priceMatchesReferenceSpec.pre6 enc Try.prog Try.f7 Rows.priceMatchesReferenceRow.domain false) (Rows.priceMatchesReferenceSpec.post enc Try.prog Try.f7 false true false false) := by
  refine returnsInHanded_of_change (C := Try.checked) own started (by kernel_rfl) Try.func7
    (ChangeSpec.witness6 (enc := enc) (C := Try.checked) false ⟨#[], #[.agg #[.slice none 0 0, .slice none 0 0, .int .u16 0], .agg #[.int .i64 0, .int .i64 0, .int .i64 0], .agg #[.int .i64 0, .int .i64 0, .int .i64 0]], []⟩ 8 (by kernel_rfl) (by kernel_rfl) (by kernel_rfl) (by kernel_rfl)) ?_
  intro W base args ds gs before hval hW _ _
  exact PriceMatchesReference_contract H enc W base args ds gs before hval hW

theorem PriceMatchesReference_over : Rows.priceMatchesReferenceRow.holds Try.pinned (OpenSpec.ofChange Rows.priceMatchesReferenceSpec) :=
  OpenClaim.holds_of_wide 7 Try.f7 rfl rfl rfl rfl rfl rfl rfl ⟨rfl, rfl, rfl, rfl, rfl⟩ rfl rfl rfl rfl rfl (by kernel_rfl) Try.func7 (by kernel_rfl)
    (of_decide_eq_true (by kernel_rfl)) (by unfold Func.isWrapper; first | (rw [if_pos (by decide +kernel)]; kernel_rfl) | (rw [if_neg (by decide +kernel)]; exact ⟨rfl, rfl⟩))
    (fun os started H enc _ => PriceMatchesReference_lifted os started H enc)

/-- The statement. -/
theorem PriceMatchesReference_proved : Rows.PriceMatchesReferenceSaid := PriceMatchesReference_over


end Go.Proofs.Ytkijlggnnbdeiaa
