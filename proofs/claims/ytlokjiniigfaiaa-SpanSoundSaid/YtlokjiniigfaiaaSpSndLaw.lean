/- parolelaw10.SpanSound answers true for every two descriptions of sets and every four numbers, and leaves its arguments as they were: no condition. -/
import Derived.Test.YtlokjiniigfaiaaSpSnd
import Derived.Test.YtlokjiniigfaiaaSpSound
import Derived.Test.YtlokjiniigfaiaaSpArr
set_option linter.unusedVariables false
set_option linter.unusedSimpArgs false
namespace Go.Proofs.Ytlokjiniigfaiaa
open Go.ChangeShapes Go.WideShapes Go.ChangeAt Go.RowKit

/-- Products of steps that fit. -/
structure MulOk (a b : Ab) : Prop where
  hs : stepS a * stepS b ≤ 4611686018427387904
  hg1 : absS a.lo * stepS b ≤ 4611686018427387904
  hg2 : absS b.lo * stepS a ≤ 4611686018427387904

theorem op_ab {op : Int} {a b : Ab} (h4 : 4 ≤ op) (h10 : op ≤ 10) (ha : Good a) (hb : Good b) (hm : op = 6 → MulOk a b) (w : World) :
    Calls Try.prog 14 #[.int .i64 op, Value.agg #[Value.int .i64 a.lo, Value.int .i64 a.hi, Value.int .i64 a.m, Value.int .i64 a.r, Value.int .i64 a.k], Value.agg #[Value.int .i64 b.lo, Value.int .i64 b.hi, Value.int .i64 b.m, Value.int .i64 b.r, Value.int .i64 b.k]] w fun e w' => e = .returned (abVal (opS op a b)) ∧ Below w.heap.size w w' := by
  unfold opS
  by_cases hs : stepS a = 0 ∧ stepS b = 0
  · rw [if_pos hs]; exact op1_is op w ha hb hs.1 hs.2
  · rw [if_neg hs]
    have : op = 4 ∨ op = 5 ∨ op = 6 ∨ op = 7 ∨ op = 8 ∨ op = 9 ∨ op = 10 := by omega
    rcases this with rfl | rfl | rfl | rfl | rfl | rfl | rfl
    · exact op4_ab ha hb hs w
    · exact op5_ab ha hb hs w
    · have hm := hm rfl
      have s1 := ha.step0; have s2 := hb.step0
      have n1 : 0 ≤ absS a.lo := by unfold absS; omega
      have n2 : 0 ≤ absS b.lo := by unfold absS; omega
      have hg := gcd_le (gcd_le ⟨Int.mul_nonneg n1 s2.1, hm.hg1⟩ ⟨Int.mul_nonneg n2 s1.1, hm.hg2⟩) ⟨Int.mul_nonneg s1.1 s2.1, hm.hs⟩
      exact op6_ab ha hb hs hm.hs hg hm.hg1 hm.hg2 w
    · exact op7_ab ha hb hs w
    · exact op8_ab ha hb hs w
    · exact op9_ab ha hb hs w
    · exact op10_ab ha hb hs w

theorem step_small {a : Ab} (h : Good a) (hm : a.m ≤ 1048576) : 0 ≤ stepS a ∧ stepS a ≤ 1048576 := by
  have := h.h6
  unfold stepS
  split <;> omega
theorem mulOk_small {a b : Ab} (ha : Good a) (hb : Good b) (ma : a.m ≤ 1048576) (mb : b.m ≤ 1048576) : MulOk a b := by
  have s1 := step_small ha ma; have s2 := step_small hb mb
  have a1 := ha.h1; have a2 := ha.h2; have a3 := ha.h3; have b1 := hb.h1; have b2 := hb.h2; have b3 := hb.h3
  have n1 : 0 ≤ absS a.lo ∧ absS a.lo ≤ 2147483648 := by unfold absS; omega
  have n2 : 0 ≤ absS b.lo ∧ absS b.lo ≤ 2147483648 := by unfold absS; omega
  have p1 : stepS a * stepS b ≤ 1048576 * 1048576 := Int.mul_le_mul s1.2 s2.2 s2.1 (by omega)
  have p2 : absS a.lo * stepS b ≤ 2147483648 * 1048576 := Int.mul_le_mul n1.2 s2.2 s2.1 (by omega)
  have p3 : absS b.lo * stepS a ≤ 2147483648 * 1048576 := Int.mul_le_mul n2.2 s1.2 s1.1 (by omega)
  exact ⟨by omega, by omega, by omega⟩

theorem has_true {a : Ab} {v k : Int} (ha : Good a) (hv : InS a v) (hk : Sub k a.k) (w : World) :
    Calls Try.prog 13 #[Value.agg #[Value.int .i64 a.lo, Value.int .i64 a.hi, Value.int .i64 a.m, Value.int .i64 a.r, Value.int .i64 a.k], .agg #[.int .i64 v, .int .i64 k]] w fun e w' => e = .returned (.bool true) ∧ Below w.heap.size w w' := by
  have a1 := ha.h1; have a2 := ha.h2; have a3 := ha.h3; have a6 := ha.h6
  have v1 := hv.1; have v2 := hv.2.1
  have h := has_is a v k (by omega) (by omega) (by omega) w
  rw [decide_eq_true (show InS a v ∧ notS k a.k = 0 from ⟨hv, sub_not hk⟩)] at h
  exact h

theorem at_in {a : Ab} (ha : Good a) (n : Int) : InS a (atS a n) := by
  have a6 := ha.h6
  obtain ⟨P1, P2, -⟩ := at_fits (n := n) ha.h2 (show 0 < a.m by omega)
  unfold atS
  refine ⟨by omega, by omega, ?_⟩
  rw [show a.lo + n % ((a.hi - a.lo).tdiv a.m + 1) * a.m - a.lo = n % ((a.hi - a.lo).tdiv a.m + 1) * a.m by omega]
  exact Int.mul_emod_left _ _

theorem bounded_k (lo hi m k : Int) : (boundedS lo hi m k).k = k := by
  unfold boundedS
  split
  · exact by_k ..
  · exact by_k ..
theorem op_k (op : Int) (a b : Ab) : (opS op a b).k = orS a.k b.k := by
  unfold opS
  split
  · exact by_k ..
  split
  · exact bounded_k ..
  split
  · exact bounded_k ..
  split
  · exact bounded_k ..
  split
  · unfold divS' clampS
    repeat' split
    all_goals exact by_k ..
  split
  · unfold remS
    split
    · exact by_k ..
    · split
      · rfl
      · exact by_k ..
  split
  · exact by_k ..
  · exact by_k ..

theorem sound_all (x0 x1 x2 x3 y0 y1 y2 y3 n0 n1 n2 n3 : Int) (hx : R64 x0) (hy : R64 y0) (w : World) :
    Calls Try.prog 3 #[Value.agg #[Value.int .i64 x0, Value.int .i64 x1, Value.int .i64 x2, Value.int .i64 x3], Value.agg #[Value.int .i64 y0, Value.int .i64 y1, Value.int .i64 y2, Value.int .i64 y3], Value.agg #[Value.int .i64 n0, Value.int .i64 n1, Value.int .i64 n2, Value.int .i64 n3]] w fun e w' => e = .returned (.bool true) ∧ Below w.heap.size w w' := by
  obtain ⟨ga, ma⟩ := made_good x0 x1 x2 x3
  obtain ⟨gb, mb⟩ := made_good y0 y1 y2 y3
  have Gx := Lib.hid (made_is x0 x1 x2 x3 hx)
  have Gy := Lib.hid (made_is y0 y1 y2 y3 hy)
  generalize madeS x0 x1 x2 x3 = a at *
  generalize madeS y0 y1 y2 y3 = b at *
  have iv := at_in ga n0
  have iw := at_in gb n2
  have ss := sub_or (sub_and n1 a.k) (sub_and n3 b.k)
  have kk : ∀ op, (opS op a b).k = orS a.k b.k := fun op => op_k op a b
  exact sound_law x0 x1 x2 x3 y0 y1 y2 y3 n0 n1 n2 n3 (atS a n0) (andS n1 a.k) (atS b n2) (andS n3 b.k) a b (fun op => opS op a b) w Gx Gy (Lib.hid fun w => at_is n0 n1 w ga) (Lib.hid fun w => at_is n2 n3 w gb)
    (Lib.hid fun w => has_true ga iv (sub_and _ _) w) (Lib.hid fun w => has_true gb iw (sub_and _ _) w)
    (Lib.hid fun op h4 h10 w => op_ab h4 h10 ga gb (fun _ => mulOk_small ga gb ma mb) w) (Lib.hid fun op h4 h10 w => valid_ab (op_good h4 h10 ga gb) w)
    (Lib.hid fun op h4 h10 w => has_true (op_good h4 h10 ga gb) (op_sound h4 h10 ga gb iv iw) (by rw [kk]; exact ss) w)

theorem SpanSound_read (H : Type) (enc : TypeId × Value → H) (W : World) (base : Nat) (args : Array Value) (ds : List (DataW H)) (p : List MemPlace)
    (hval : ∀ (j : Nat) t v, Try.f3.params[j]? = some t → args[j]? = some v → Value.okWide Try.prog W .any base t v)
    (hA : DataW.TrodAll enc Try.prog W 0 (fun _ => true) true Try.f3.params.toList args.toList ds p) :
    Calls Try.prog 3 args W fun e w' => e = .returned (.bool true) ∧ Below W.heap.size W w' := by
  rw [Try.params3] at hA hval
  obtain ⟨v0, vs0, d0, ds0, p0, q0, hargs, rfl, rfl, h0, r0⟩ := trodAll_cons hA
  obtain ⟨v1, vs1, d1, ds1, p1, q1, rfl, rfl, rfl, h1, r1⟩ := trodAll_cons r0
  obtain ⟨v2, vs2, d2, ds2, p2, q2, rfl, rfl, rfl, h2, r2⟩ := trodAll_cons r1
  obtain ⟨rfl, rfl, rfl⟩ := trodAll_nil r2
  obtain rfl : args = #[v0, v1, v2] := by cases args; simp_all
  obtain ⟨x00, x01, x02, x03, rfl, b00, b01, b02, b03⟩ := read_raw (hval 0 _ v0 rfl rfl) h0
  obtain ⟨x10, x11, x12, x13, rfl, b10, b11, b12, b13⟩ := read_raw (hval 1 _ v1 rfl rfl) h1
  obtain ⟨x20, x21, x22, x23, rfl, b20, b21, b22, b23⟩ := read_arr4 (hval 2 _ v2 rfl rfl) h2
  exact sound_all _ _ _ _ _ _ _ _ _ _ _ _ b00 b10 W

theorem SpanSound_contract (H : Type) (enc : TypeId × Value → H) (W : World) (base : Nat) (args : Array Value) (ds gs : List (DataW H)) (before : List MemPlace)
    (hval : ∀ (j : Nat) t v, Try.f3.params[j]? = some t → args[j]? = some v → Value.okWide Try.prog W .any base t v)
    (hW : DataW.Whole enc Try.prog Try.f3.params.toList Rows.spanSoundSpec.vars false W args.toList ds gs before) :
    Calls Try.prog 3 args W fun e W' => ∃ v, e = .returned v ∧ Rows.spanSoundSpec.post enc Try.prog Try.f3 false true false false W args v W' := by
  have hW' := hW
  obtain ⟨p, q, hA, hV, rfl, hfz, hnd⟩ := hW
  have hlen : ∃ d0 d1 d2, ds = [d0, d1, d2] := by
    have hA2 := hA
    rw [Try.params3] at hA2
    obtain ⟨_, _, d0, ds0, _, _, _, hd0, _, _, hA2⟩ := trodAll_cons hA2
    obtain ⟨_, _, d1, ds1, _, _, _, hd1, _, _, hA2⟩ := trodAll_cons hA2
    obtain ⟨_, _, d2, ds2, _, _, _, hd2, _, _, hA2⟩ := trodAll_cons hA2
    obtain ⟨_, hdn, _⟩ := trodAll_nil hA2
    exact ⟨d0, d1, d2, by rw [hd0, hd1, hd2, hdn]⟩
  have hfn : Rows.spanSoundSpec.fn H ds = { results := [.lit (.bool true)], args := ds } := by
    obtain ⟨d0, d1, d2, rfl⟩ := hlen
    rfl
  obtain ⟨rfl, rfl⟩ := trodVars_none hV
  refine (SpanSound_read H enc W base args ds p hval hA).mono fun e W' ⟨he, hb⟩ => ⟨_, he, ?_⟩
  exact law_post (by kernel_rfl) (by kernel_rfl) rfl rfl Try.underlying4 hW' hfn hb

set_option maxRecDepth 100000 in
theorem SpanSound_lifted (os : Os) (started : os.Started) (H : Type) (enc : TypeId × Value → H) :
    ReturnsInHanded {} Try.checked os 3 .any (Rows.spanSoundSpec.pre6 enc Try.prog Try.f3 Rows.spanSoundRow.domain false) (Rows.spanSoundSpec.post enc Try.prog Try.f3 false true false false) := by
  refine returnsInHanded_of_change (C := Try.checked) own started (by kernel_rfl) Try.func3
    (ChangeSpec.witness6 (enc := enc) (C := Try.checked) false ⟨#[], #[.agg #[.int .i64 0, .int .i64 0, .int .i64 0, .int .i64 0], .agg #[.int .i64 0, .int .i64 0, .int .i64 0, .int .i64 0], .agg #[.int .i64 0, .int .i64 0, .int .i64 0, .int .i64 0]], []⟩ 8 (by kernel_rfl) (by kernel_rfl) (by kernel_rfl) (by kernel_rfl)) ?_
  intro W base args ds gs before hval hW _ _
  exact SpanSound_contract H enc W base args ds gs before hval hW

theorem SpanSound_over : Rows.spanSoundRow.holds Try.pinned (OpenSpec.ofChange Rows.spanSoundSpec) :=
  OpenClaim.holds_of_wide 3 Try.f3 rfl rfl rfl rfl rfl rfl rfl ⟨rfl, rfl, rfl, rfl, rfl⟩ rfl rfl rfl rfl rfl (by kernel_rfl) Try.func3 (by kernel_rfl)
    (of_decide_eq_true (by kernel_rfl)) (by unfold Func.isWrapper; first | (rw [if_pos (by decide +kernel)]; kernel_rfl) | (rw [if_neg (by decide +kernel)]; exact ⟨rfl, rfl⟩))
    (fun os started H enc _ => SpanSound_lifted os started H enc)

/-- The statement. -/
theorem SpanSound_proved : Rows.SpanSoundSaid := SpanSound_over


end Go.Proofs.Ytlokjiniigfaiaa
