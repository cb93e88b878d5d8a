/- parolelaw32.FieldLost answers true for all values. -/
import Derived.Test.YtglfbdicclepcaaRows
import Derived.Test.YtglfbdicclepcaaFdLst
import Derived.Test.YtglfbdicclepcaaEvV
import Derived.Test.YtglfbdicclepcaaLaw
import Derived.Lib.SmallJoins
set_option linter.unusedVariables false
set_option linter.unusedSimpArgs false
namespace Go.Proofs.Ytglfbdicclepcaa
open Go.ChangeShapes Go.WideShapes Go.ChangeAt Go.RowKit
set_option maxRecDepth 100000

theorem sh_t3 {x : AV} (h : ShV (.agg [.int .u8, .int .u8, .int .u8]) x) : ∃ q : T3, x = encT q ∧ BT q := by
  simp only [ShV, ShW] at h
  obtain ⟨cs, rfl, _, _, rfl, ⟨n0, rfl, a0, b0⟩, _, _, rfl, ⟨n1, rfl, a1, b1⟩, _, _, rfl, ⟨n2, rfl, a2, b2⟩, rfl⟩ := h
  exact ⟨⟨n0, n1, n2⟩, rfl, ⟨⟨a0, b0⟩, ⟨a1, b1⟩, ⟨a2, b2⟩⟩⟩
theorem sh_u32 {x : AV} (h : ShV (.int .u32) x) : ∃ n0 : Int, x = .int .u32 n0 ∧ (0 ≤ n0 ∧ n0 ≤ 4294967295) := by
  simp only [ShV] at h
  obtain ⟨n, rfl, a, b⟩ := h
  exact ⟨n, rfl, a, b⟩
theorem sh_u64 {x : AV} (h : ShV (.int .u64) x) : ∃ n0 : Int, x = .int .u64 n0 ∧ (0 ≤ n0 ∧ n0 ≤ 18446744073709551615) := by
  simp only [ShV] at h
  obtain ⟨n, rfl, a, b⟩ := h
  exact ⟨n, rfl, a, b⟩
theorem own : ownKnob Try.prog.godebug = none := by kernel_rfl
theorem FieldLost_read (H : Type) (enc : TypeId × Value → H) (W : World) (base : Nat) (args : Array Value) (ds : List (DataW H)) (p : List MemPlace)
    (hval : ∀ (j : Nat) t v, Try.f6.params[j]? = some t → args[j]? = some v → Value.okWide Try.prog W .any base t v)
    (hA : DataW.TrodAll enc Try.prog W 0 (fun _ => true) true Try.f6.params.toList args.toList ds p) :
    Calls Try.prog 6 args W fun e w' => e = .returned (.bool true) ∧ Below W.heap.size W w' := by
  rw [Try.params6] at hA hval
  obtain ⟨v0, vs0, d0, ds0, p0, q0, hargs, rfl, rfl, h0, r0⟩ := trodAll_cons hA
  obtain ⟨v1, vs1, d1, ds1, p1, q1, rfl, rfl, rfl, h1, r1⟩ := trodAll_cons r0
  obtain ⟨v2, vs2, d2, ds2, p2, q2, rfl, rfl, rfl, h2, r2⟩ := trodAll_cons r1
  obtain ⟨rfl, rfl, rfl⟩ := trodAll_nil r2
  obtain rfl : args = #[v0, v1, v2] := by cases args; simp_all
  obtain ⟨y0, l0, s0⟩ := read_sh (P := Try.prog) (S := [51, 53, 5, 52, 26]) (by kernel_rfl) (by kernel_rfl) (s := .slice (.agg [.int .u8, .int .u8, .int .u8])) (by kernel_rfl) (hval 0 _ v0 rfl rfl) h0
  obtain ⟨L, rfl, _, hL⟩ := list_enc (fun y h => sh_t3 h) s0
  obtain ⟨y1, l1, s1⟩ := read_sh (P := Try.prog) (S := [51, 53, 5, 52, 26]) (by kernel_rfl) (by kernel_rfl) (s := .int .u32) (by kernel_rfl) (hval 1 _ v1 rfl rfl) h1
  obtain ⟨w, rfl, hw⟩ := sh_u32 s1
  obtain ⟨y2, l2, s2⟩ := read_sh (P := Try.prog) (S := [51, 53, 5, 52, 26]) (by kernel_rfl) (by kernel_rfl) (s := .int .u64) (by kernel_rfl) (hval 2 _ v2 rfl rfl) h2
  obtain ⟨key, rfl, hk⟩ := sh_u64 s2
  exact law_calls (vs := [v0, v1, v2]) (fs_law hL hw hk) ⟨l0, l1, l2, trivial⟩

theorem FieldLost_contract (H : Type) (enc : TypeId × Value → H) (W : World) (base : Nat) (args : Array Value) (ds gs : List (DataW H)) (before : List MemPlace)
    (hval : ∀ (j : Nat) t v, Try.f6.params[j]? = some t → args[j]? = some v → Value.okWide Try.prog W .any base t v)
    (hW : DataW.Whole enc Try.prog Try.f6.params.toList Rows.fieldLostSpec.vars false W args.toList ds gs before) :
    Calls Try.prog 6 args W fun e W' => ∃ v, e = .returned v ∧ Rows.fieldLostSpec.post enc Try.prog Try.f6 false true false false W args v W' := by
  have hW' := hW
  obtain ⟨p, q, hA, hV, rfl, hfz, hnd⟩ := hW
  have hlen : ∃ d0 d1 d2, ds = [d0, d1, d2] := by
    have hA2 := hA
    rw [Try.params6] at hA2
    obtain ⟨_, _, d0, ds0, _, _, _, hd0, _, _, hA2⟩ := trodAll_cons hA2
    obtain ⟨_, _, d1, ds1, _, _, _, hd1, _, _, hA2⟩ := trodAll_cons hA2
    obtain ⟨_, _, d2, ds2, _, _, _, hd2, _, _, hA2⟩ := trodAll_cons hA2
    obtain ⟨_, hdn, _⟩ := trodAll_nil hA2
    exact ⟨d0, d1, d2, by rw [hd0, hd1, hd2, hdn]⟩
  have hfn : Rows.fieldLostSpec.fn H ds = { results := [.lit (.bool true)], args := ds } := by
    obtain ⟨d0, d1, d2, rfl⟩ := hlen
    rfl
  obtain ⟨rfl, rfl⟩ := trodVars_none hV
  refine (FieldLost_read H enc W base args ds p hval hA).mono fun e W' ⟨he, hb⟩ => ⟨_, he, ?_⟩
  exact law_post (by kernel_rfl) (by kernel_rfl) rfl rfl Try.underlying4 hW' hfn hb

set_option maxRecDepth 100000 in
theorem FieldLost_lifted (os : Os) (started : os.Started) (H : Type) (enc : TypeId × Value → H) :
    ReturnsInHanded {} Try.checked os 6 .any (Rows.fieldLostSpec.pre6 enc Try.prog Try.f6 Rows.fieldLostRow.domain false) (Rows.fieldLostSpec.post enc Try.prog Try.f6 false true false false) := by
  refine returnsInHanded_of_change (C := Try.checked) own started (by kernel_rfl) Try.func6
    (ChangeSpec.witness6 (enc := enc) (C := Try.checked) false ⟨#[], #[.slice none 0 0, .int .u32 0, .int .u64 0], []⟩ 8 (by kernel_rfl) (by kernel_rfl) (by kernel_rfl) (by kernel_rfl)) ?_
  intro W base args ds gs before hval hW _ _
  exact FieldLost_contract H enc W base args ds gs before hval hW

theorem FieldLost_over : Rows.fieldLostRow.holds Try.pinned (OpenSpec.ofChange Rows.fieldLostSpec) :=
  OpenClaim.holds_of_wide 6 Try.f6 rfl rfl rfl rfl rfl rfl rfl ⟨rfl, rfl, rfl, rfl, rfl⟩ rfl rfl rfl rfl rfl (by kernel_rfl) Try.func6 (by kernel_rfl)
    (of_decide_eq_true (by kernel_rfl)) (by unfold Func.isWrapper; first | (rw [if_pos (by decide +kernel)]; kernel_rfl) | (rw [if_neg (by decide +kernel)]; exact ⟨rfl, rfl⟩))
    (fun os started H enc _ => FieldLost_lifted os started H enc)

/-- The statement. -/
theorem FieldLost_proved : Rows.FieldLostSaid := FieldLost_over


end Go.Proofs.Ytglfbdicclepcaa
