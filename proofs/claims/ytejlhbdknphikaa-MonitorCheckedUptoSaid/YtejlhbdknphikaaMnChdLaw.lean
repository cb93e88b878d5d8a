/- parolelaw31.MonitorChecked answers true for all conditions that are of bulk at most 1048576 (what can be read; see Upto). -/
import Derived.Test.YtejlhbdknphikaaRows
import Derived.Test.YtejlhbdknphikaaMnChd
import Derived.Test.YtejlhbdknphikaaTrR
import Derived.Test.YtejlhbdknphikaaEvV
import Derived.Test.YtejlhbdknphikaaLaw
import Derived.Lib.SmallJoins
set_option linter.unusedVariables false
set_option linter.unusedSimpArgs false
namespace Go.Proofs.Ytejlhbdknphikaa
open Go.ChangeShapes Go.WideShapes Go.ChangeAt Go.RowKit
set_option maxRecDepth 100000

theorem own : ownKnob Try.prog.godebug = none := by kernel_rfl
theorem MonitorChecked_read (H : Type) (enc : TypeId × Value → H) (W : World) (base : Nat) (args : Array Value) (ds : List (DataW H)) (p : List MemPlace)
    (hval : ∀ (j : Nat) t v, Try.f6.params[j]? = some t → args[j]? = some v → Value.okWide Try.prog W .any base t v)
    (hA : DataW.TrodAll enc Try.prog W 0 (fun _ => true) true Try.f6.params.toList args.toList ds p) (hk : Rows.uptoSmall H ds = true) :
    Calls Try.prog 6 args W fun e w' => e = .returned (.bool true) ∧ Below W.heap.size W w' := by
  rw [Try.params6] at hA hval
  obtain ⟨v0, vs0, d0, ds0, p0, q0, hargs, rfl, rfl, h0, r0⟩ := trodAll_cons hA
  obtain ⟨rfl, rfl, rfl⟩ := trodAll_nil r0
  obtain rfl : args = #[v0] := by cases args; simp_all
  have hk2 : Rows.uptoBulkAll [d0] ≤ 1048576 := of_decide_eq_true hk
  simp only [Rows.uptoBulkAll] at hk2
  obtain ⟨c, l0, hc, b0⟩ := read_co (hval 0 _ v0 rfl rfl) h0
  exact law_calls (vs := [v0]) (mch_law hc (by omega)) ⟨l0, trivial⟩

theorem MonitorChecked_contract (H : Type) (enc : TypeId × Value → H) (W : World) (base : Nat) (args : Array Value) (ds gs : List (DataW H)) (before : List MemPlace)
    (hval : ∀ (j : Nat) t v, Try.f6.params[j]? = some t → args[j]? = some v → Value.okWide Try.prog W .any base t v)
    (hW : DataW.Whole enc Try.prog Try.f6.params.toList Rows.monitorCheckedSpec.vars false W args.toList ds gs before) (hk : Rows.uptoSmall H (ds ++ gs) = true) :
    Calls Try.prog 6 args W fun e W' => ∃ v, e = .returned v ∧ Rows.monitorCheckedSpec.post enc Try.prog Try.f6 false true false false W args v W' := by
  have hW' := hW
  obtain ⟨p, q, hA, hV, rfl, hfz, hnd⟩ := hW
  have hlen : ∃ d0, ds = [d0] := by
    have hA2 := hA
    rw [Try.params6] at hA2
    obtain ⟨_, _, d0, ds0, _, _, _, hd0, _, _, hA2⟩ := trodAll_cons hA2
    obtain ⟨_, hdn, _⟩ := trodAll_nil hA2
    exact ⟨d0, by rw [hd0, hdn]⟩
  have hfn : Rows.monitorCheckedSpec.fn H ds = { results := [.lit (.bool true)], args := ds } := by
    obtain ⟨d0, rfl⟩ := hlen
    rfl
  obtain ⟨rfl, rfl⟩ := trodVars_none hV
  refine (MonitorChecked_read H enc W base args ds p hval hA (by simpa using hk)).mono fun e W' ⟨he, hb⟩ => ⟨_, he, ?_⟩
  exact law_post (by kernel_rfl) (by kernel_rfl) rfl rfl Try.underlying4 hW' hfn hb

set_option maxRecDepth 100000 in
theorem MonitorChecked_lifted (os : Os) (started : os.Started) (H : Type) (enc : TypeId × Value → H) (F : Stop.Interp) :
    ReturnsInHanded {} Try.checked os 6 .any ((Rows.OpenSpec.upto Rows.monitorCheckedSpec).pre6 enc Try.prog Try.f6 Rows.monitorCheckedUptoRow.domain false) (((Rows.OpenSpec.upto Rows.monitorCheckedSpec).at F).post enc Try.prog Try.f6 false true false false) := by
  refine returnsInHanded_of_cond (C := Try.checked) (s := Rows.OpenSpec.upto Rows.monitorCheckedSpec) (k := Rows.uptoSmall) rfl own started (by kernel_rfl) Try.func6
    (OpenSpec.witness (enc := enc) (C := Try.checked) (s := Rows.OpenSpec.upto Rows.monitorCheckedSpec) (k := Rows.uptoSmall) rfl false ⟨#[], #[.agg #[.int .i64 0, .slice none 0 0, .slice none 0 0]], []⟩ 8 (by kernel_rfl) (by kernel_rfl) (by kernel_rfl)
      (x := ([.agg [.lit (.int .i64 0), .nil, .nil]], [], [])) (by kernel_rfl) rfl (by kernel_rfl)) ?_
  intro W base args ds gs before hval hW _ hk _
  exact MonitorChecked_contract H enc W base args ds gs before hval hW hk

theorem MonitorChecked_over : Rows.monitorCheckedUptoRow.holds Try.pinned (Rows.OpenSpec.upto Rows.monitorCheckedSpec) :=
  OpenClaim.holds_of_cond 6 Try.f6 rfl rfl rfl rfl rfl rfl rfl ⟨rfl, rfl, rfl, rfl, rfl⟩ rfl rfl rfl rfl rfl (by kernel_rfl) Try.func6 (by kernel_rfl)
    (of_decide_eq_true (by kernel_rfl)) (by unfold Func.isWrapper; first | (rw [if_pos (by decide +kernel)]; kernel_rfl) | (rw [if_neg (by decide +kernel)]; exact ⟨rfl, rfl⟩))
    (fun os started H enc _ F => MonitorChecked_lifted os started H enc F)

/-- The statement. -/
theorem MonitorChecked_proved : Rows.MonitorCheckedUptoSaid := MonitorChecked_over


end Go.Proofs.Ytejlhbdknphikaa
