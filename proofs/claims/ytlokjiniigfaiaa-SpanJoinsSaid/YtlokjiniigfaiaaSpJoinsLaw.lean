/- parolelaw10.SpanJoins answers true for every three descriptions of sets, and leaves its arguments as they were: no condition. -/
import Derived.Test.YtlokjiniigfaiaaSpJoins
import Derived.Test.YtlokjiniigfaiaaSpRead
set_option linter.unusedVariables false
set_option linter.unusedSimpArgs false
namespace Go.Proofs.Ytlokjiniigfaiaa
open Go.ChangeShapes Go.WideShapes Go.ChangeAt Go.RowKit

theorem leq_is {a b : Ab} {p : Bool} (ha : Good a) (hb : Good b) (h : leqS a b = p) : Hid (∀ w, Calls Try.prog 18 #[Value.agg #[Value.int .i64 a.lo, Value.int .i64 a.hi, Value.int .i64 a.m, Value.int .i64 a.r, Value.int .i64 a.k], Value.agg #[Value.int .i64 b.lo, Value.int .i64 b.hi, Value.int .i64 b.m, Value.int .i64 b.r, Value.int .i64 b.k]] w fun e w' => e = .returned (.bool p) ∧ Below w.heap.size w w') := Lib.hid fun w => h ▸ leq_ab ha hb w
theorem join_is' {a b c : Ab} (ha : Good a) (hb : Good b) (h : joinS a b = c) : Hid (∀ w, Calls Try.prog 17 #[Value.agg #[Value.int .i64 a.lo, Value.int .i64 a.hi, Value.int .i64 a.m, Value.int .i64 a.r, Value.int .i64 a.k], Value.agg #[Value.int .i64 b.lo, Value.int .i64 b.hi, Value.int .i64 b.m, Value.int .i64 b.r, Value.int .i64 b.k]] w fun e w' => e = .returned (abVal c) ∧ Below w.heap.size w w') := Lib.hid fun w => h ▸ join_ab ha hb w

theorem leqS_iff {a b : Ab} : leqS a b = true ↔ joinS a b = b := by unfold leqS; exact decide_eq_true_iff

theorem joins_all (x0 x1 x2 x3 y0 y1 y2 y3 z0 z1 z2 z3 : Int) (hx : R64 x0) (hy : R64 y0) (hz : R64 z0) (w : World) :
    Calls Try.prog 4 #[Value.agg #[Value.int .i64 x0, Value.int .i64 x1, Value.int .i64 x2, Value.int .i64 x3], Value.agg #[Value.int .i64 y0, Value.int .i64 y1, Value.int .i64 y2, Value.int .i64 y3], Value.agg #[Value.int .i64 z0, Value.int .i64 z1, Value.int .i64 z2, Value.int .i64 z3]] w fun e w' => e = .returned (.bool true) ∧ Below w.heap.size w w' := by
  obtain ⟨ga, -⟩ := made_good x0 x1 x2 x3
  obtain ⟨gb, -⟩ := made_good y0 y1 y2 y3
  obtain ⟨gc, -⟩ := made_good z0 z1 z2 z3
  have Gx := Lib.hid (made_is x0 x1 x2 x3 hx)
  have Gy := Lib.hid (made_is y0 y1 y2 y3 hy)
  have Gz := Lib.hid (made_is z0 z1 z2 z3 hz)
  generalize madeS x0 x1 x2 x3 = a at *
  generalize madeS y0 y1 y2 y3 = b at *
  generalize madeS z0 z1 z2 z3 = c at *
  have gj := join_good ga gb
  have gbc := join_good gb gc
  have eaj : joinS a (joinS a b) = joinS a b := by rw [← join_assoc ga ga gb, join_self ga]
  have ebj : joinS b (joinS a b) = joinS a b := by rw [join_comm ga gb, ← join_assoc gb gb ga, join_self gb]
  refine joins_law x0 x1 x2 x3 y0 y1 y2 y3 z0 z1 z2 z3 a b c (joinS a b) (joinS (joinS a b) c) (joinS b c) (leqS a c) (leqS b c) (leqS (joinS a b) c) (leqS a b) w Gx Gy Gz
    (join_is' ga gb rfl) (Lib.hid fun w => valid_ab gj w) (leq_is ga gj (leqS_iff.2 eaj)) (leq_is gb gj (leqS_iff.2 ebj)) (join_is' gb ga (join_comm gb ga)) (join_is' ga ga (join_self ga))
    (join_is' gj gc rfl) (join_is' gb gc rfl) (join_is' ga gbc (join_assoc ga gb gc).symm) (leq_is ga gc rfl) (leq_is gb gc rfl) (leq_is gj gc rfl) (leq_is ga gb rfl)
    (Lib.hid fun hp hq => ?_) (Lib.hid fun w => ab_eql (joinS a b) b w)
  rw [leqS_iff] at hp hq ⊢
  rw [join_assoc ga gb gc, hq, hp]

theorem SpanJoins_read (H : Type) (enc : TypeId × Value → H) (W : World) (base : Nat) (args : Array Value) (ds : List (DataW H)) (p : List MemPlace)
    (hval : ∀ (j : Nat) t v, Try.f4.params[j]? = some t → args[j]? = some v → Value.okWide Try.prog W .any base t v)
    (hA : DataW.TrodAll enc Try.prog W 0 (fun _ => true) true Try.f4.params.toList args.toList ds p) :
    Calls Try.prog 4 args W fun e w' => e = .returned (.bool true) ∧ Below W.heap.size W w' := by
  rw [Try.params4] at hA hval
  obtain ⟨v0, vs0, d0, ds0, p0, q0, hargs, rfl, rfl, h0, r0⟩ := trodAll_cons hA
  obtain ⟨v1, vs1, d1, ds1, p1, q1, rfl, rfl, rfl, h1, r1⟩ := trodAll_cons r0
  obtain ⟨v2, vs2, d2, ds2, p2, q2, rfl, rfl, rfl, h2, r2⟩ := trodAll_cons r1
  obtain ⟨rfl, rfl, rfl⟩ := trodAll_nil r2
  obtain rfl : args = #[v0, v1, v2] := by cases args; simp_all
  obtain ⟨x00, x01, x02, x03, rfl, b00, b01, b02, b03⟩ := read_raw (hval 0 _ v0 rfl rfl) h0
  obtain ⟨x10, x11, x12, x13, rfl, b10, b11, b12, b13⟩ := read_raw (hval 1 _ v1 rfl rfl) h1
  obtain ⟨x20, x21, x22, x23, rfl, b20, b21, b22, b23⟩ := read_raw (hval 2 _ v2 rfl rfl) h2
  exact joins_all _ _ _ _ _ _ _ _ _ _ _ _ b00 b10 b20 W

theorem SpanJoins_contract (H : Type) (enc : TypeId × Value → H) (W : World) (base : Nat) (args : Array Value) (ds gs : List (DataW H)) (before : List MemPlace)
    (hval : ∀ (j : Nat) t v, Try.f4.params[j]? = some t → args[j]? = some v → Value.okWide Try.prog W .any base t v)
    (hW : DataW.Whole enc Try.prog Try.f4.params.toList Rows.spanJoinsSpec.vars false W args.toList ds gs before) :
    Calls Try.prog 4 args W fun e W' => ∃ v, e = .returned v ∧ Rows.spanJoinsSpec.post enc Try.prog Try.f4 false true false false W args v W' := by
  have hW' := hW
  obtain ⟨p, q, hA, hV, rfl, hfz, hnd⟩ := hW
  have hlen : ∃ d0 d1 d2, ds = [d0, d1, d2] := by
    have hA2 := hA
    rw [Try.params4] at hA2
    obtain ⟨_, _, d0, ds0, _, _, _, hd0, _, _, hA2⟩ := trodAll_cons hA2
    obtain ⟨_, _, d1, ds1, _, _, _, hd1, _, _, hA2⟩ := trodAll_cons hA2
    obtain ⟨_, _, d2, ds2, _, _, _, hd2, _, _, hA2⟩ := trodAll_cons hA2
    obtain ⟨_, hdn, _⟩ := trodAll_nil hA2
    exact ⟨d0, d1, d2, by rw [hd0, hd1, hd2, hdn]⟩
  have hfn : Rows.spanJoinsSpec.fn H ds = { results := [.lit (.bool true)], args := ds } := by
    obtain ⟨d0, d1, d2, rfl⟩ := hlen
    rfl
  obtain ⟨rfl, rfl⟩ := trodVars_none hV
  refine (SpanJoins_read H enc W base args ds p hval hA).mono fun e W' ⟨he, hb⟩ => ⟨_, he, ?_⟩
  exact law_post (by kernel_rfl) (by kernel_rfl) rfl rfl Try.underlying4 hW' hfn hb

set_option maxRecDepth 100000 in
theorem SpanJoins_lifted (os : Os) (started : os.Started) (H : Type) (enc : TypeId × Value → H) :
    ReturnsInHanded {} Try.checked os 4 .any (Rows.spanJoinsSpec.pre6 enc Try.prog Try.f4 Rows.spanJoinsRow.domain false) (Rows.spanJoinsSpec.post enc Try.prog Try.f4 false true false false) := by
  refine returnsInHanded_of_change (C := Try.checked) own started (by kernel_rfl) Try.func4
    (ChangeSpec.witness6 (enc := enc) (C := Try.checked) false ⟨#[], #[.agg #[.int .i64 0, .int .i64 0, .int .i64 0, .int .i64 0], .agg #[.int .i64 0, .int .i64 0, .int .i64 0, .int .i64 0], .agg #[.int .i64 0, .int .i64 0, .int .i64 0, .int .i64 0]], []⟩ 8 (by kernel_rfl) (by kernel_rfl) (by kernel_rfl) (by kernel_rfl)) ?_
  intro W base args ds gs before hval hW _ _
  exact SpanJoins_contract H enc W base args ds gs before hval hW

theorem SpanJoins_over : Rows.spanJoinsRow.holds Try.pinned (OpenSpec.ofChange Rows.spanJoinsSpec) :=
  OpenClaim.holds_of_wide 4 Try.f4 rfl rfl rfl rfl rfl rfl rfl ⟨rfl, rfl, rfl, rfl, rfl⟩ rfl rfl rfl rfl rfl (by kernel_rfl) Try.func4 (by kernel_rfl)
    (of_decide_eq_true (by kernel_rfl)) (by unfold Func.isWrapper; first | (rw [if_pos (by decide +kernel)]; kernel_rfl) | (rw [if_neg (by decide +kernel)]; exact ⟨rfl, rfl⟩))
    (fun os started H enc _ => SpanJoins_lifted os started H enc)

/-- The statement. -/
theorem SpanJoins_proved : Rows.SpanJoinsSaid := SpanJoins_over


end Go.Proofs.Ytlokjiniigfaiaa
