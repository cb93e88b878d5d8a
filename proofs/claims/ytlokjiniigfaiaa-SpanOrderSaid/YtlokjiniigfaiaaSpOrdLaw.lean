/- parolelaw10.SpanOrder answers true for every three descriptions of sets, and leaves its arguments as they were: no condition. -/
import Derived.Test.YtlokjiniigfaiaaSpOrd
import Derived.Test.YtlokjiniigfaiaaSpOrdM
import Derived.Test.YtlokjiniigfaiaaSpArr
set_option linter.unusedVariables false
set_option linter.unusedSimpArgs false
namespace Go.Proofs.Ytlokjiniigfaiaa
open Go.ChangeShapes Go.WideShapes Go.ChangeAt Go.RowKit

theorem leq_is {a b : Ab} {p : Bool} (ha : Good a) (hb : Good b) (h : leqS a b = p) : Hid (∀ w, Calls Try.prog 18 #[Value.agg #[Value.int .i64 a.lo, Value.int .i64 a.hi, Value.int .i64 a.m, Value.int .i64 a.r, Value.int .i64 a.k], Value.agg #[Value.int .i64 b.lo, Value.int .i64 b.hi, Value.int .i64 b.m, Value.int .i64 b.r, Value.int .i64 b.k]] w fun e w' => e = .returned (.bool p) ∧ Below w.heap.size w w') := Lib.hid fun w => h ▸ leq_ab ha hb w
theorem leqS_iff {a b : Ab} : leqS a b = true ↔ joinS a b = b := by unfold leqS; exact decide_eq_true_iff
theorem mulOk_big {a b : Ab} (ha : Good a) (hb : Good b) (mb : b.m ≤ 1048576) : MulOk a b := by
  have s1 := ha.step_hi; have s0 := ha.step0; have s2 := step_small hb mb
  have a1 := ha.h1; have a2 := ha.h2; have a3 := ha.h3; have b1 := hb.h1; have b2 := hb.h2; have b3 := hb.h3
  have n1 : 0 ≤ absS a.lo ∧ absS a.lo ≤ 2147483648 := by unfold absS; omega
  have n2 : 0 ≤ absS b.lo ∧ absS b.lo ≤ 2147483648 := by unfold absS; omega
  have p1 : stepS a * stepS b ≤ 4294967295 * 1048576 := Int.mul_le_mul s1 s2.2 s2.1 (by omega)
  have p2 : absS a.lo * stepS b ≤ 2147483648 * 1048576 := Int.mul_le_mul n1.2 s2.2 s2.1 (by omega)
  have p3 : absS b.lo * stepS a ≤ 2147483648 * 4294967295 := Int.mul_le_mul n2.2 s1 s0.1 (by omega)
  exact ⟨by omega, by omega, by omega⟩
theorem at_at {a : Ab} (n v : Int) (ha : Good a) (h : atS a n = v) : Hid (∀ w, Calls Try.prog 12 #[Value.agg #[Value.int .i64 a.lo, Value.int .i64 a.hi, Value.int .i64 a.m, Value.int .i64 a.r, Value.int .i64 a.k], .int .i64 n, .int .i64 255] w fun e w' => e = .returned (Value.agg #[Value.int .i64 v, Value.int .i64 a.k]) ∧ Below w.heap.size w w') :=
  Lib.hid fun w => by
    have := at_is n 255 w ha
    rw [h, show bits .and .i64 255 a.k = a.k from and255 ha.mk'] at this
    exact this
theorem has_q {b : Ab} (v k : Int) (hb : Good b) (hv : -2147483648 ≤ v ∧ v ≤ 2147483647) : Hid (∀ w, Calls Try.prog 13 #[Value.agg #[Value.int .i64 b.lo, Value.int .i64 b.hi, Value.int .i64 b.m, Value.int .i64 b.r, Value.int .i64 b.k], Value.agg #[Value.int .i64 v, Value.int .i64 k]] w fun e w' => e = .returned (.bool (decide (InS b v ∧ notS k b.k = 0))) ∧ Below w.heap.size w w') :=
  Lib.hid fun w => has_is b v k (by have := hb.h6; omega) (by have := hb.h1; have := hb.h2; have := hb.h3; omega) (by omega) w

theorem order_all (x0 x1 x2 x3 y0 y1 y2 y3 z0 z1 z2 z3 : Int) (hx : R64 x0) (hy : R64 y0) (hz : R64 z0) (w : World) :
    Calls Try.prog 5 #[Value.agg #[Value.int .i64 x0, Value.int .i64 x1, Value.int .i64 x2, Value.int .i64 x3], Value.agg #[Value.int .i64 y0, Value.int .i64 y1, Value.int .i64 y2, Value.int .i64 y3], Value.agg #[Value.int .i64 z0, Value.int .i64 z1, Value.int .i64 z2, Value.int .i64 z3]] w fun e w' => e = .returned (.bool true) ∧ Below w.heap.size w w' := by
  obtain ⟨ga, ma⟩ := made_good x0 x1 x2 x3
  obtain ⟨gb, mb⟩ := made_good y0 y1 y2 y3
  obtain ⟨gc, mc⟩ := made_good z0 z1 z2 z3
  have Gx := Lib.hid (made_is x0 x1 x2 x3 hx)
  have Gy := Lib.hid (made_is y0 y1 y2 y3 hy)
  have Gz := Lib.hid (made_is z0 z1 z2 z3 hz)
  generalize madeS x0 x1 x2 x3 = a at *
  generalize madeS y0 y1 y2 y3 = b at *
  generalize madeS z0 z1 z2 z3 = c at *
  have gj := join_good ga gb
  have eaj : joinS a (joinS a b) = joinS a b := by rw [← join_assoc ga ga gb, join_self ga]
  have a1 := ga.h1; have a2 := ga.h2; have a3 := ga.h3
  have sc := sec_in ga
  have mac := mulOk_small ga gc ma mc
  have mjc := mulOk_big gj gc mc
  exact order_law x0 x1 x2 x3 y0 y1 y2 y3 z0 z1 z2 z3 (secS a) a.k a.k a.k a b c (joinS a b) (opS 9 a c) (opS 9 (joinS a b) c) (opS 10 c a) (opS 10 c (joinS a b)) (fun op => opS op a c) (fun op => opS op (joinS a b) c)
    (decide (InS b a.lo ∧ notS a.k b.k = 0)) (decide (InS b (secS a) ∧ notS a.k b.k = 0)) (decide (InS b a.hi ∧ notS a.k b.k = 0)) (leqS a b) (leqS b a) w Gx Gy Gz
    (at_at 0 a.lo ga (at_zero ga)) (at_at 1 (secS a) ga (at_one ga)) (at_at (-1) a.hi ga (at_last ga)) (has_q a.lo a.k gb (by omega)) (has_q (secS a) a.k gb (by have := sc.1; have := sc.2.1; omega)) (has_q a.hi a.k gb (by omega))
    (leq_is ga gb rfl) (leq_is ga ga (leqS_iff.2 (join_self ga))) (leq_is gb ga rfl) (Lib.hid fun w => join_ab ga gb w)
    (Lib.hid fun op h4 h6 w => op_ab h4 (by omega) ga gc (fun _ => mac) w) (Lib.hid fun op h4 h6 w => op_ab h4 (by omega) gj gc (fun _ => mjc) w)
    (Lib.hid fun op h4 h6 w => (leq_is (op_good h4 (by omega) ga gc) (op_good h4 (by omega) gj gc) (leqS_iff.2 (op_mono (by omega) ga gj gc eaj))).out w)
    (Lib.hid fun w => op_ab (by omega) (by omega) ga gc (fun h => absurd h (by decide)) w) (Lib.hid fun w => op_ab (by omega) (by omega) gj gc (fun h => absurd h (by decide)) w)
    (leq_is (op_good (by omega) (by omega) ga gc) (op_good (by omega) (by omega) gj gc) (leqS_iff.2 (op_mono (by omega) ga gj gc eaj)))
    (Lib.hid fun w => op_ab (by omega) (by omega) gc ga (fun h => absurd h (by decide)) w) (Lib.hid fun w => op_ab (by omega) (by omega) gc gj (fun h => absurd h (by decide)) w)
    (leq_is (op_good (by omega) (by omega) gc ga) (op_good (by omega) (by omega) gc gj) (leqS_iff.2 (op10_mono ga gj gc eaj)))
    (order_tests ga gb) (fun h k => leq_anti ga gb (leqS_iff.1 h) (leqS_iff.1 k))

theorem SpanOrder_read (H : Type) (enc : TypeId × Value → H) (W : World) (base : Nat) (args : Array Value) (ds : List (DataW H)) (p : List MemPlace)
    (hval : ∀ (j : Nat) t v, Try.f5.params[j]? = some t → args[j]? = some v → Value.okWide Try.prog W .any base t v)
    (hA : DataW.TrodAll enc Try.prog W 0 (fun _ => true) true Try.f5.params.toList args.toList ds p) :
    Calls Try.prog 5 args W fun e w' => e = .returned (.bool true) ∧ Below W.heap.size W w' := by
  rw [Try.params5] at hA hval
  obtain ⟨v0, vs0, d0, ds0, p0, q0, hargs, rfl, rfl, h0, r0⟩ := trodAll_cons hA
  obtain ⟨v1, vs1, d1, ds1, p1, q1, rfl, rfl, rfl, h1, r1⟩ := trodAll_cons r0
  obtain ⟨v2, vs2, d2, ds2, p2, q2, rfl, rfl, rfl, h2, r2⟩ := trodAll_cons r1
  obtain ⟨rfl, rfl, rfl⟩ := trodAll_nil r2
  obtain rfl : args = #[v0, v1, v2] := by cases args; simp_all
  obtain ⟨x00, x01, x02, x03, rfl, b00, b01, b02, b03⟩ := read_raw (hval 0 _ v0 rfl rfl) h0
  obtain ⟨x10, x11, x12, x13, rfl, b10, b11, b12, b13⟩ := read_raw (hval 1 _ v1 rfl rfl) h1
  obtain ⟨x20, x21, x22, x23, rfl, b20, b21, b22, b23⟩ := read_raw (hval 2 _ v2 rfl rfl) h2
  exact order_all _ _ _ _ _ _ _ _ _ _ _ _ b00 b10 b20 W

theorem SpanOrder_contract (H : Type) (enc : TypeId × Value → H) (W : World) (base : Nat) (args : Array Value) (ds gs : List (DataW H)) (before : List MemPlace)
    (hval : ∀ (j : Nat) t v, Try.f5.params[j]? = some t → args[j]? = some v → Value.okWide Try.prog W .any base t v)
    (hW : DataW.Whole enc Try.prog Try.f5.params.toList Rows.spanOrderSpec.vars false W args.toList ds gs before) :
    Calls Try.prog 5 args W fun e W' => ∃ v, e = .returned v ∧ Rows.spanOrderSpec.post enc Try.prog Try.f5 false true false false W args v W' := by
  have hW' := hW
  obtain ⟨p, q, hA, hV, rfl, hfz, hnd⟩ := hW
  have hlen : ∃ d0 d1 d2, ds = [d0, d1, d2] := by
    have hA2 := hA
    rw [Try.params5] at hA2
    obtain ⟨_, _, d0, ds0, _, _, _, hd0, _, _, hA2⟩ := trodAll_cons hA2
    obtain ⟨_, _, d1, ds1, _, _, _, hd1, _, _, hA2⟩ := trodAll_cons hA2
    obtain ⟨_, _, d2, ds2, _, _, _, hd2, _, _, hA2⟩ := trodAll_cons hA2
    obtain ⟨_, hdn, _⟩ := trodAll_nil hA2
    exact ⟨d0, d1, d2, by rw [hd0, hd1, hd2, hdn]⟩
  have hfn : Rows.spanOrderSpec.fn H ds = { results := [.lit (.bool true)], args := ds } := by
    obtain ⟨d0, d1, d2, rfl⟩ := hlen
    rfl
  obtain ⟨rfl, rfl⟩ := trodVars_none hV
  refine (SpanOrder_read H enc W base args ds p hval hA).mono fun e W' ⟨he, hb⟩ => ⟨_, he, ?_⟩
  exact law_post (by kernel_rfl) (by kernel_rfl) rfl rfl Try.underlying4 hW' hfn hb

set_option maxRecDepth 100000 in
theorem SpanOrder_lifted (os : Os) (started : os.Started) (H : Type) (enc : TypeId × Value → H) :
    ReturnsInHanded {} Try.checked os 5 .any (Rows.spanOrderSpec.pre6 enc Try.prog Try.f5 Rows.spanOrderRow.domain false) (Rows.spanOrderSpec.post enc Try.prog Try.f5 false true false false) := by
  refine returnsInHanded_of_change (C := Try.checked) own started (by kernel_rfl) Try.func5
    (ChangeSpec.witness6 (enc := enc) (C := Try.checked) false ⟨#[], #[.agg #[.int .i64 0, .int .i64 0, .int .i64 0, .int .i64 0], .agg #[.int .i64 0, .int .i64 0, .int .i64 0, .int .i64 0], .agg #[.int .i64 0, .int .i64 0, .int .i64 0, .int .i64 0]], []⟩ 8 (by kernel_rfl) (by kernel_rfl) (by kernel_rfl) (by kernel_rfl)) ?_
  intro W base args ds gs before hval hW _ _
  exact SpanOrder_contract H enc W base args ds gs before hval hW

theorem SpanOrder_over : Rows.spanOrderRow.holds Try.pinned (OpenSpec.ofChange Rows.spanOrderSpec) :=
  OpenClaim.holds_of_wide 5 Try.f5 rfl rfl rfl rfl rfl rfl rfl ⟨rfl, rfl, rfl, rfl, rfl⟩ rfl rfl rfl rfl rfl (by kernel_rfl) Try.func5 (by kernel_rfl)
    (of_decide_eq_true (by kernel_rfl)) (by unfold Func.isWrapper; first | (rw [if_pos (by decide +kernel)]; kernel_rfl) | (rw [if_neg (by decide +kernel)]; exact ⟨rfl, rfl⟩))
    (fun os started H enc _ => SpanOrder_lifted os started H enc)

/-- The statement. -/
theorem SpanOrder_proved : Rows.SpanOrderSaid := SpanOrder_over


end Go.Proofs.Ytlokjiniigfaiaa
