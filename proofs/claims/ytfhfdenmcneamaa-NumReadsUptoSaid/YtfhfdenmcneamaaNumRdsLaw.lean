/- parolelaw01.NumReads answers true for all expressions, conditions and values that are of bulk at most 1048576 (what can be read; see Upto). -/
import Derived.Test.YtfhfdenmcneamaaRows
import Derived.Test.YtfhfdenmcneamaaNumRds
import Derived.Test.YtfhfdenmcneamaaTrR
import Derived.Test.YtfhfdenmcneamaaEvV
import Derived.Test.YtfhfdenmcneamaaLaw
import Derived.Lib.SmallJoins
set_option linter.unusedVariables false
set_option linter.unusedSimpArgs false
namespace Go.Proofs.Ytfhfdenmcneamaa
open Go.ChangeShapes Go.WideShapes Go.ChangeAt Go.RowKit
set_option maxRecDepth 100000

theorem sh_two {x : AV} (h : ShV (.agg [.slice (.int .i64), .slice (.int .i64)]) x) : ∃ u v : List Int, x = .agg [.list (u.map encI), .list (v.map encI)] ∧ u.length ≤ maxLen ∧ v.length ≤ maxLen := by
  have one : ∀ {y : AV}, ShV (.slice (.int .i64)) y → ∃ l : List Int, y = .list (l.map encI) ∧ l.length ≤ maxLen ∧ ∀ a ∈ l, -9223372036854775808 ≤ a ∧ a ≤ 9223372036854775807 := fun {y} hy =>
    list_enc (f := encI) (p := fun a => -9223372036854775808 ≤ a ∧ a ≤ 9223372036854775807) (fun z hz => by simp only [ShV] at hz; obtain ⟨n, rfl, a, b⟩ := hz; exact ⟨n, rfl, a, b⟩) hy
  unfold ShV at h
  obtain ⟨cs, rfl, h⟩ := h
  unfold ShW at h
  obtain ⟨c, r, rfl, h1, h⟩ := h
  unfold ShW at h
  obtain ⟨d, r2, rfl, h2, h⟩ := h
  unfold ShW at h
  subst h
  obtain ⟨a, rfl, a1, _⟩ := one h1
  obtain ⟨b, rfl, b1, _⟩ := one h2
  exact ⟨a, b, rfl, a1, b1⟩
theorem own : ownKnob Try.prog.godebug = none := by kernel_rfl
theorem NumReads_read (H : Type) (enc : TypeId × Value → H) (W : World) (base : Nat) (args : Array Value) (ds : List (DataW H)) (p : List MemPlace)
    (hval : ∀ (j : Nat) t v, Try.f8.params[j]? = some t → args[j]? = some v → Value.okWide Try.prog W .any base t v)
    (hA : DataW.TrodAll enc Try.prog W 0 (fun _ => true) true Try.f8.params.toList args.toList ds p) (hk : Rows.uptoSmall H ds = true) :
    Calls Try.prog 8 args W fun e w' => e = .returned (.bool true) ∧ Below W.heap.size W w' := by
  rw [Try.params8] at hA hval
  obtain ⟨v0, vs0, d0, ds0, p0, q0, hargs, rfl, rfl, h0, r0⟩ := trodAll_cons hA
  obtain ⟨v1, vs1, d1, ds1, p1, q1, rfl, rfl, rfl, h1, r1⟩ := trodAll_cons r0
  obtain ⟨v2, vs2, d2, ds2, p2, q2, rfl, rfl, rfl, h2, r2⟩ := trodAll_cons r1
  obtain ⟨rfl, rfl, rfl⟩ := trodAll_nil r2
  obtain rfl : args = #[v0, v1, v2] := by cases args; simp_all
  have hk2 : Rows.uptoBulkAll [d0, d1, d2] ≤ 1048576 := of_decide_eq_true hk
  simp only [Rows.uptoBulkAll] at hk2
  obtain ⟨g, l0, he, b0⟩ := read_ex (hval 0 _ v0 rfl rfl) h0
  obtain ⟨c, l1, hc, b1⟩ := read_co (hval 1 _ v1 rfl rfl) h1
  obtain ⟨y2, l2, s2⟩ := read_sh (P := Try.prog) (S := [45, 36, 3]) (by kernel_rfl) (by kernel_rfl) (s := .agg [.slice (.int .i64), .slice (.int .i64)]) (by kernel_rfl) (hval 2 _ v2 rfl rfl) h2
  obtain ⟨u, v, rfl, hu, hv⟩ := sh_two s2
  exact law_calls (vs := [v0, v1, v2]) (nrd_law he hc (by omega) (by omega) (Nat.le_trans hu maxLen_le) (Nat.le_trans hv maxLen_le)) ⟨l0, l1, l2, trivial⟩

theorem NumReads_contract (H : Type) (enc : TypeId × Value → H) (W : World) (base : Nat) (args : Array Value) (ds gs : List (DataW H)) (before : List MemPlace)
    (hval : ∀ (j : Nat) t v, Try.f8.params[j]? = some t → args[j]? = some v → Value.okWide Try.prog W .any base t v)
    (hW : DataW.Whole enc Try.prog Try.f8.params.toList Rows.numReadsSpec.vars false W args.toList ds gs before) (hk : Rows.uptoSmall H (ds ++ gs) = true) :
    Calls Try.prog 8 args W fun e W' => ∃ v, e = .returned v ∧ Rows.numReadsSpec.post enc Try.prog Try.f8 false true false false W args v W' := by
  have hW' := hW
  obtain ⟨p, q, hA, hV, rfl, hfz, hnd⟩ := hW
  have hlen : ∃ d0 d1 d2, ds = [d0, d1, d2] := by
    have hA2 := hA
    rw [Try.params8] at hA2
    obtain ⟨_, _, d0, ds0, _, _, _, hd0, _, _, hA2⟩ := trodAll_cons hA2
    obtain ⟨_, _, d1, ds1, _, _, _, hd1, _, _, hA2⟩ := trodAll_cons hA2
    obtain ⟨_, _, d2, ds2, _, _, _, hd2, _, _, hA2⟩ := trodAll_cons hA2
    obtain ⟨_, hdn, _⟩ := trodAll_nil hA2
    exact ⟨d0, d1, d2, by rw [hd0, hd1, hd2, hdn]⟩
  have hfn : Rows.numReadsSpec.fn H ds = { results := [.lit (.bool true)], args := ds } := by
    obtain ⟨d0, d1, d2, rfl⟩ := hlen
    rfl
  obtain ⟨rfl, rfl⟩ := trodVars_none hV
  refine (NumReads_read H enc W base args ds p hval hA (by simpa using hk)).mono fun e W' ⟨he, hb⟩ => ⟨_, he, ?_⟩
  exact law_post (by kernel_rfl) (by kernel_rfl) rfl rfl Try.underlying4 hW' hfn hb

set_option maxRecDepth 100000 in
theorem NumReads_lifted (os : Os) (started : os.Started) (H : Type) (enc : TypeId × Value → H) (F : Stop.Interp) :
    ReturnsInHanded {} Try.checked os 8 .any ((Rows.OpenSpec.upto Rows.numReadsSpec).pre6 enc Try.prog Try.f8 Rows.numReadsUptoRow.domain false) (((Rows.OpenSpec.upto Rows.numReadsSpec).at F).post enc Try.prog Try.f8 false true false false) := by
  refine returnsInHanded_of_cond (C := Try.checked) (s := Rows.OpenSpec.upto Rows.numReadsSpec) (k := Rows.uptoSmall) rfl own started (by kernel_rfl) Try.func8
    (OpenSpec.witness (enc := enc) (C := Try.checked) (s := Rows.OpenSpec.upto Rows.numReadsSpec) (k := Rows.uptoSmall) rfl false ⟨#[], #[.agg #[.int .i64 0, .int .i64 0, .int .i64 0, .slice none 0 0], .agg #[.int .i64 0, .slice none 0 0, .slice none 0 0], .agg #[.slice none 0 0, .slice none 0 0]], []⟩ 8 (by kernel_rfl) (by kernel_rfl) (by kernel_rfl)
      (x := ([.agg [.lit (.int .i64 0), .lit (.int .i64 0), .lit (.int .i64 0), .nil], .agg [.lit (.int .i64 0), .nil, .nil], .agg [.nil, .nil]], [], [])) (by kernel_rfl) rfl (by kernel_rfl)) ?_
  intro W base args ds gs before hval hW _ hk _
  exact NumReads_contract H enc W base args ds gs before hval hW hk

theorem NumReads_over : Rows.numReadsUptoRow.holds Try.pinned (Rows.OpenSpec.upto Rows.numReadsSpec) :=
  OpenClaim.holds_of_cond 8 Try.f8 rfl rfl rfl rfl rfl rfl rfl ⟨rfl, rfl, rfl, rfl, rfl⟩ rfl rfl rfl rfl rfl (by kernel_rfl) Try.func8 (by kernel_rfl)
    (of_decide_eq_true (by kernel_rfl)) (by unfold Func.isWrapper; first | (rw [if_pos (by decide +kernel)]; kernel_rfl) | (rw [if_neg (by decide +kernel)]; exact ⟨rfl, rfl⟩))
    (fun os started H enc _ F => NumReads_lifted os started H enc F)

/-- The statement. -/
theorem NumReads_proved : Rows.NumReadsUptoSaid := NumReads_over


end Go.Proofs.Ytfhfdenmcneamaa
