/- How descriptions of sets are read; sets that are made are right. -/
import Derived.Test.YtlokjiniigfaiaaRows
import Derived.Test.YtlokjiniigfaiaaSpLeq
import Derived.Test.YtlokjiniigfaiaaLaw
import Derived.Lib.SmallJoins
set_option linter.unusedVariables false
set_option linter.unusedSimpArgs false
namespace Go.Proofs.Ytlokjiniigfaiaa
open Go.ChangeShapes Go.WideShapes Go.ChangeAt Go.RowKit

theorem own : ownKnob Try.prog.godebug = none := by kernel_rfl

theorem bd_i64 {a : Int} (h : (Lit.int .i64 a).wf = true) : -9223372036854775808 ≤ a ∧ a ≤ 9223372036854775807 := by
  simpa [Lit.wf, IntKind.min, IntKind.max, IntKind.signed, IntKind.bits] using h

def R64 (a : Int) : Prop := -9223372036854775808 ≤ a ∧ a ≤ 9223372036854775807

theorem cells_raw : Try.prog.cellsOf 23 = 4 := by kernel_rfl

theorem read_raw {H : Type} {enc : TypeId × Value → H} {W : World} {base b0 : Nat} {spare : Nat → Bool} {held : Bool} {v : Value} {d : DataW H} {p : List MemPlace}
    (hv : Value.okWide Try.prog W .any b0 23 v) (h : DataW.Trod enc Try.prog W base spare held 23 v d p) :
    ∃ x0 x1 x2 x3 : Int, v = .agg #[.int .i64 x0, .int .i64 x1, .int .i64 x2, .int .i64 x3] ∧ R64 x0 ∧ R64 x1 ∧ R64 x2 ∧ R64 x3 := by
  obtain ⟨c0, c1, c2, c3, y0, y1, y2, y3, m, rfl, rfl, rfl, h0, h1, h2, h3⟩ := Joins.open_agg4 Try.underlying23 (by kernel_rfl) cells_raw hv h
  obtain ⟨x0, e0, rfl, w0⟩ := DataW.trod_int Try.underlying3 h0
  obtain ⟨x1, e1, rfl, w1⟩ := DataW.trod_int Try.underlying3 h1
  obtain ⟨x2, e2, rfl, w2⟩ := DataW.trod_int Try.underlying3 h2
  obtain ⟨x3, e3, rfl, w3⟩ := DataW.trod_int Try.underlying3 h3
  simp at e0 e1 e2 e3
  subst e0 e1 e2 e3
  exact ⟨x0, x1, x2, x3, rfl, bd_i64 w0, bd_i64 w1, bd_i64 w2, bd_i64 w3⟩

theorem valid_ab {a : Ab} (h : Good a) (w : World) :
    Calls Try.prog 15 #[Value.agg #[Value.int .i64 a.lo, Value.int .i64 a.hi, Value.int .i64 a.m, Value.int .i64 a.r, Value.int .i64 a.k]] w fun e w' => e = .returned (.bool true) ∧ Below w.heap.size w w' := by
  obtain ⟨lo, hi, m, r, k⟩ := a
  have h1 := h.h1; have h2 := h.h2; have h3 := h.h3; have h4 := h.h4; have h5 := h.h5; have h6 := h.h6
  by_cases he : lo = hi
  · obtain ⟨h7, h8⟩ := h.h7 he
    simp only at h7 h8 he h1 h2 h3 h4 h5 h6
    subst he h7 h8
    exact valid_one lo k ⟨h1, h3⟩ h4 h5 w
  · have hb := h.byS he
    have h8 := (h.h8 he).1
    simp only at hb h8 he h1 h2 h3 h4 h5 h6
    exact valid_many lo hi m r k h1 (by omega) h3 h4 h5 h6 h8 hb w

end Go.Proofs.Ytlokjiniigfaiaa
