/- parolelaw37.OddsMatchesReference answers true for all lists, descriptions of books and numbers: no condition. -/
import Derived.Test.YtlhmionefjopiaaRows
import Derived.Test.YtlhmionefjopiaaOdMat
import Derived.Test.YtlhmionefjopiaaEvV
import Derived.Test.YtlhmionefjopiaaLaw
import Derived.Lib.SmallJoins
set_option linter.unusedVariables false
set_option linter.unusedSimpArgs false
namespace Go.Proofs.Ytlhmionefjopiaa
open Go.ChangeShapes Go.WideShapes Go.ChangeAt Go.RowKit
set_option maxRecDepth 100000

theorem ShV.aggD {ss : List Sh} {x : AV} (h : ShV (.agg ss) x) : ∃ cs : List AV, x = .agg cs ∧ ShW ss cs := by unfold ShV at h; exact h
theorem ShW.consD {s : Sh} {ss : List Sh} {cs : List AV} (h : ShW (s :: ss) cs) : ∃ c r, cs = c :: r ∧ ShV s c ∧ ShW ss r := by unfold ShW at h; exact h
theorem ShW.nilD {cs : List AV} (h : ShW [] cs) : cs = [] := by unfold ShW at h; exact h
theorem sh_An {x : AV} (h : ShV (.agg [.int .i64, .int .i64, .int .i64]) x) : ∃ q : An, x = encQ q ∧ (-9223372036854775808 ≤ q.kind ∧ q.kind ≤ 9223372036854775807) ∧ (-9223372036854775808 ≤ q.right ∧ q.right ≤ 9223372036854775807) ∧ (-9223372036854775808 ≤ q.wrong ∧ q.wrong ≤ 9223372036854775807) := by
  simp only [ShV, ShW] at h
  obtain ⟨cs, rfl, _, _, rfl, ⟨n0, rfl, a0, b0⟩, _, _, rfl, ⟨n1, rfl, a1, b1⟩, _, _, rfl, ⟨n2, rfl, a2, b2⟩, rfl⟩ := h
  exact ⟨⟨n0, n1, n2⟩, rfl, ⟨⟨a0, b0⟩, ⟨a1, b1⟩, ⟨a2, b2⟩⟩⟩
theorem sh_Rq {x : AV} (h : ShV (.agg [.int .u8, .int .u8, .int .u16, .int .u16]) x) : ∃ q : Rq, x = encW q ∧ (0 ≤ q.kind ∧ q.kind ≤ 255) ∧ (0 ≤ q.far ∧ q.far ≤ 255) ∧ (0 ≤ q.right ∧ q.right ≤ 65535) ∧ (0 ≤ q.wrong ∧ q.wrong ≤ 65535) := by
  simp only [ShV, ShW] at h
  obtain ⟨cs, rfl, _, _, rfl, ⟨n0, rfl, a0, b0⟩, _, _, rfl, ⟨n1, rfl, a1, b1⟩, _, _, rfl, ⟨n2, rfl, a2, b2⟩, _, _, rfl, ⟨n3, rfl, a3, b3⟩, rfl⟩ := h
  exact ⟨⟨n0, n1, n2, n3⟩, rfl, ⟨⟨a0, b0⟩, ⟨a1, b1⟩, ⟨a2, b2⟩, ⟨a3, b3⟩⟩⟩
theorem sh_two {x : AV} (h : ShV (.agg [.int .i64, .int .i64]) x) : ∃ (n0 : Int) (n1 : Int), x = .agg [.int .i64 n0, .int .i64 n1] ∧ (-9223372036854775808 ≤ n0 ∧ n0 ≤ 9223372036854775807) ∧ (-9223372036854775808 ≤ n1 ∧ n1 ≤ 9223372036854775807) := by
  simp only [ShV, ShW] at h
  obtain ⟨cs, rfl, _, _, rfl, ⟨n0, rfl, a0, b0⟩, _, _, rfl, ⟨n1, rfl, a1, b1⟩, rfl⟩ := h
  exact ⟨n0, n1, rfl, ⟨a0, b0⟩, ⟨a1, b1⟩⟩
theorem sh_books {x : AV} (h : ShV (.agg [.slice (.agg [.int .u8, .int .u8, .int .u16, .int .u16]), .slice (.agg [.int .u8, .int .u8, .int .u16, .int .u16])]) x) : ∃ L0 L1 : List Rq, x = .agg [.list (L0.map encW), .list (L1.map encW)] ∧ (L0.length ≤ maxLen ∧ ∀ q ∈ L0, BdW q) ∧ L1.length ≤ maxLen ∧ ∀ q ∈ L1, BdW q := by
  obtain ⟨cs, rfl, k⟩ := ShV.aggD h
  obtain ⟨c0, r0, rfl, h0, k1⟩ := ShW.consD k
  obtain ⟨c1, r1, rfl, h1, k2⟩ := ShW.consD k1
  obtain rfl := ShW.nilD k2
  obtain ⟨L0, rfl, a0, b0⟩ := list_enc (fun y h => sh_Rq h) h0
  obtain ⟨L1, rfl, a1, b1⟩ := list_enc (fun y h => sh_Rq h) h1
  exact ⟨L0, L1, rfl, ⟨a0, b0⟩, a1, b1⟩
theorem own : ownKnob Try.prog.godebug = none := by kernel_rfl
theorem OddsMatchesReference_read (H : Type) (enc : TypeId × Value → H) (W : World) (base : Nat) (args : Array Value) (ds : List (DataW H)) (p : List MemPlace)
    (hval : ∀ (j : Nat) t v, Try.f3.params[j]? = some t → args[j]? = some v → Value.okWide Try.prog W .any base t v)
    (hA : DataW.TrodAll enc Try.prog W 0 (fun _ => true) true Try.f3.params.toList args.toList ds p) :
    Calls Try.prog 3 args W fun e w' => e = .returned (.bool true) ∧ Below W.heap.size W w' := by
  rw [Try.params3] at hA hval
  obtain ⟨v0, vs0, d0, ds0, p0, q0, hargs, rfl, rfl, h0, r0⟩ := trodAll_cons hA
  obtain ⟨v1, vs1, d1, ds1, p1, q1, rfl, rfl, rfl, h1, r1⟩ := trodAll_cons r0
  obtain ⟨v2, vs2, d2, ds2, p2, q2, rfl, rfl, rfl, h2, r2⟩ := trodAll_cons r1
  obtain ⟨rfl, rfl, rfl⟩ := trodAll_nil r2
  obtain rfl : args = #[v0, v1, v2] := by cases args; simp_all
  obtain ⟨y0, l0, s0⟩ := read_sh (P := Try.prog) (S := [22, 46, 3, 24, 23, 61, 5, 59, 25]) (by kernel_rfl) (by kernel_rfl) (s := .slice (.agg [.int .i64, .int .i64, .int .i64])) (by kernel_rfl) (hval 0 _ v0 rfl rfl) h0
  obtain ⟨od, rfl, hod, _⟩ := list_enc (fun y h => sh_An h) s0
  obtain ⟨y1, l1, s1⟩ := read_sh (P := Try.prog) (S := [22, 46, 3, 24, 23, 61, 5, 59, 25]) (by kernel_rfl) (by kernel_rfl) (s := .agg [.slice (.agg [.int .u8, .int .u8, .int .u16, .int .u16]), .slice (.agg [.int .u8, .int .u8, .int .u16, .int .u16])]) (by kernel_rfl) (hval 1 _ v1 rfl rfl) h1
  obtain ⟨L0, L1, rfl, ⟨hn0, hL0⟩, hn1, hL1⟩ := sh_books s1
  obtain ⟨y2, l2, s2⟩ := read_sh (P := Try.prog) (S := [22, 46, 3, 24, 23, 61, 5, 59, 25]) (by kernel_rfl) (by kernel_rfl) (s := .agg [.int .i64, .int .i64]) (by kernel_rfl) (hval 2 _ v2 rfl rfl) h2
  obtain ⟨n0, n1, rfl, h0, h1⟩ := sh_two s2
  exact law_calls (vs := [v0, v1, v2]) (matches_all hL0 hL1 h0 h1 hod hn0 hn1) ⟨l0, l1, l2, trivial⟩

theorem OddsMatchesReference_contract (H : Type) (enc : TypeId × Value → H) (W : World) (base : Nat) (args : Array Value) (ds gs : List (DataW H)) (before : List MemPlace)
    (hval : ∀ (j : Nat) t v, Try.f3.params[j]? = some t → args[j]? = some v → Value.okWide Try.prog W .any base t v)
    (hW : DataW.Whole enc Try.prog Try.f3.params.toList Rows.oddsMatchesReferenceSpec.vars false W args.toList ds gs before) :
    Calls Try.prog 3 args W fun e W' => ∃ v, e = .returned v ∧ Rows.oddsMatchesReferenceSpec.post enc Try.prog Try.f3 false true false false W args v W' := by
  have hW' := hW
  obtain ⟨p, q, hA, hV, rfl, hfz, hnd⟩ := hW
  have hlen : ∃ d0 d1 d2, ds = [d0, d1, d2] := by
    have hA2 := hA
    rw [Try.params3] at hA2
    obtain ⟨_, _, d0, ds0, _, _, _, hd0, _, _, hA2⟩ := trodAll_cons hA2
    obtain ⟨_, _, d1, ds1, _, _, _, hd1, _, _, hA2⟩ := trodAll_cons hA2
    obtain ⟨_, _, d2, ds2, _, _, _, hd2, _, _, hA2⟩ := trodAll_cons hA2
    obtain ⟨_, hdn, _⟩ := trodAll_nil hA2
    exact ⟨d0, d1, d2, by rw [hd0, hd1, hd2, hdn]⟩
  have hfn : Rows.oddsMatchesReferenceSpec.fn H ds = { results := [.lit (.bool true)], args := ds } := by
    obtain ⟨d0, d1, d2, rfl⟩ := hlen
    rfl
  obtain ⟨rfl, rfl⟩ := trodVars_none hV
  refine (OddsMatchesReference_read H enc W base args ds p hval hA).mono fun e W' ⟨he, hb⟩ => ⟨_, he, ?_⟩
  exact law_post (by kernel_rfl) (by kernel_rfl) rfl rfl Try.underlying4 hW' hfn hb

set_option maxRecDepth 100000 in
theorem OddsMatchesReference_lifted (os : Os) (started : os.Started) (H : Type) (enc : TypeId × Value → H) :
    ReturnsInHanded {} Try.checked os 3 .any (Rows.oddsMatchesReferenceSpec.pre6 enc Try.prog Try.f3 Rows.oddsMatchesReferenceRow.domain false) (Rows.oddsMatchesReferenceSpec.post enc Try.prog Try.f3 false true false false) := by
  refine returnsInHanded_of_change (C := Try.checked) own started (by kernel_rfl) Try.func3
    (ChangeSpec.witness6 (enc := enc) (C := Try.checked) false ⟨#[], #[.slice none 0 0, .agg #[.slice none 0 0, .slice none 0 0], .agg #[.int .i64 0, .int .i64 0]], []⟩ 8 (by kernel_rfl) (by kernel_rfl) (by kernel_rfl) (by kernel_rfl)) ?_
  intro W base args ds gs before hval hW _ _
  exact OddsMatchesReference_contract H enc W base args ds gs before hval hW

theorem OddsMatchesReference_over : Rows.oddsMatchesReferenceRow.holds Try.pinned (OpenSpec.ofChange Rows.oddsMatchesReferenceSpec) :=
  OpenClaim.holds_of_wide 3 Try.f3 rfl rfl rfl rfl rfl rfl rfl ⟨rfl, rfl, rfl, rfl, rfl⟩ rfl rfl rfl rfl rfl (by kernel_rfl) Try.func3 (by kernel_rfl)
    (of_decide_eq_true (by kernel_rfl)) (by unfold Func.isWrapper; first | (rw [if_pos (by decide +kernel)]; kernel_rfl) | (rw [if_neg (by decide +kernel)]; exact ⟨rfl, rfl⟩))
    (fun os started H enc _ => OddsMatchesReference_lifted os started H enc)

/-- The statement. -/
theorem OddsMatchesReference_proved : Rows.OddsMatchesReferenceSaid := OddsMatchesReference_over


end Go.Proofs.Ytlhmionefjopiaa
