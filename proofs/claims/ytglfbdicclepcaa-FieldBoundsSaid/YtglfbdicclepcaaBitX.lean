/- Adding and subtracting words with a carry: what the model itself gives. -/
import Derived.Test.YtglfbdicclepcaaEvW
import Derived.Test.YtglfbdicclepcaaProg
namespace Go.Proofs.Ytglfbdicclepcaa
open Go.RowKit
set_option maxRecDepth 100000
theorem ext_run {f : FuncId} {fn : Func} {e : Array Value → Sem Value} (hf : Try.prog.funcs[f]? = some fn) (hn : (fn.name == "runtime.NumGoroutine") = false) (hb : fn.body.isNone = true) (h1 : Extern.findNext fn = none) (h2 : Extern.find fn = some e)
    (vs : Array Value) (w : World) {v : Value} (hv : (e vs).run Try.prog w = .ok v w) : (callFunc f vs).run Try.prog w = .ok (.value v) w := by
  have hb' : fn.body = none := by simpa using hb
  have hn' : ¬ fn.name = "runtime.NumGoroutine" := by simpa using hn
  have hm : ∀ m, (Sem.mark m (Sem.pure ())).run Try.prog w = .ok () w := fun m => rfl
  simp [callFunc, hf, hn', hb', h1, h2, mark, hm, hv]
theorem three_run {P : Program} {x y c : Int} {w : World} {n : String} (hc : 0 ≤ c ∧ c ≤ 1) : (Extern.MathBitsCarry.three n #[.int .u64 x, .int .u64 y, .int .u64 c]).run P w = .ok (x.toNat, y.toNat, c.toNat) w := by
  rcases (by omega : c = 0 ∨ c = 1) with rfl | rfl <;> rfl
theorem three_ints {x y c : Int} {vs : Array Value} {w : World} (hs : vs.size = 3) (hr : ∀ i z, ([.int .u64 x, .int .u64 y, .int .u64 c] : List AV)[i]? = some z → RI w (fun _ => False) z (vs.getD i undef)) : vs = #[.int .u64 x, .int .u64 y, .int .u64 c] := by
  obtain ⟨l⟩ := vs
  match l, hs with
  | [p, q, r], _ =>
    have e0 := hr 0 _ rfl
    have e1 := hr 1 _ rfl
    have e2 := hr 2 _ rfl
    simp at e0 e1 e2
    cases e0; cases e1; cases e2; rfl
theorem ext_add {x y c : Int} (hx : 0 ≤ x ∧ x ≤ 18446744073709551615) (hy : 0 ≤ y ∧ y ≤ 18446744073709551615) (hc : 0 ≤ c ∧ c ≤ 1) :
    ExtF Try.prog 60 [.int .u64 x, .int .u64 y, .int .u64 c] (.tuple [.int .u64 ((x + y + c) % 18446744073709551616), .int .u64 ((x + y + c) / 18446744073709551616)]) := by
  intro w vs hs hr
  rw [three_ints hs hr]
  refine ⟨.tuple #[.int .u64 ((x + y + c) % 18446744073709551616), .int .u64 ((x + y + c) / 18446744073709551616)], ext_run Try.func60 (by kernel_rfl) (by kernel_rfl) (by kernel_rfl) (e := fun args => do let (x, y, c) ← Extern.MathBitsCarry.three "Add64" args; pure (Extern.MathBitsCarry.pair ((x + y + c) % Extern.MathBitsCarry.m64) ((x + y + c) / Extern.MathBitsCarry.m64))) (by kernel_rfl) _ w ?_, .tuple _ _ rfl fun i z hz => ?_⟩
  · simp only [Sem.run_bind, three_run hc, Result.andThen_ok, Sem.run_pure, Extern.MathBitsCarry.pair, Extern.MathBitsCarry.m64]
    congr 6
    · simp; omega
    · simp; omega
  · match i with
    | 0 => simp at hz; subst hz; exact .int _ _
    | 1 => simp at hz; subst hz; exact .int _ _
    | i + 2 => simp at hz
theorem ext_sub {x y c : Int} (hx : 0 ≤ x ∧ x ≤ 18446744073709551615) (hy : 0 ≤ y ∧ y ≤ 18446744073709551615) (hc : 0 ≤ c ∧ c ≤ 1) :
    ExtF Try.prog 62 [.int .u64 x, .int .u64 y, .int .u64 c] (.tuple [.int .u64 ((x - y - c) % 18446744073709551616), .int .u64 (if x < y + c then 1 else 0)]) := by
  intro w vs hs hr
  rw [three_ints hs hr]
  refine ⟨.tuple #[.int .u64 ((x - y - c) % 18446744073709551616), .int .u64 (if x < y + c then 1 else 0)], ext_run Try.func62 (by kernel_rfl) (by kernel_rfl) (by kernel_rfl) (e := fun args => do let (x, y, b) ← Extern.MathBitsCarry.three "Sub64" args; pure (Extern.MathBitsCarry.pair ((x + Extern.MathBitsCarry.m64 - y - b) % Extern.MathBitsCarry.m64) (if x < y + b then 1 else 0))) (by kernel_rfl) _ w ?_, .tuple _ _ rfl fun i z hz => ?_⟩
  · have h2 : (x.toNat < y.toNat + c.toNat) ↔ x < y + c := by omega
    simp only [Sem.run_bind, three_run hc, Result.andThen_ok, Sem.run_pure, Extern.MathBitsCarry.pair, Extern.MathBitsCarry.m64]
    congr 6
    · simp; omega
    · by_cases h : x < y + c
      · rw [if_pos (h2.2 h), if_pos h]; rfl
      · rw [if_neg (fun k => h (h2.1 k)), if_neg h]; rfl
  · match i with
    | 0 => simp at hz; subst hz; exact .int _ _
    | 1 => simp at hz; subst hz; exact .int _ _
    | i + 2 => simp at hz
end Go.Proofs.Ytglfbdicclepcaa
