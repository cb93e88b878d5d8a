/- parolelaw13.RulesOthers answers true for all values. -/
import Derived.Test.YtioiffbnbjalcaaRows
import Derived.Test.YtioiffbnbjalcaaRuOth
import Derived.Test.YtioiffbnbjalcaaEvV
import Derived.Test.YtioiffbnbjalcaaLaw
import Derived.Lib.SmallJoins
import Derived.SizedLaws
set_option linter.unusedVariables false
set_option linter.unusedSimpArgs false
namespace Go.Proofs.Ytioiffbnbjalcaa
open Go.ChangeShapes Go.WideShapes Go.ChangeAt Go.RowKit
set_option maxRecDepth 100000

theorem RI.listLen {w : World} {B : Nat → Prop} {x : AV} {v : Value} (h : RI w B x v) {a : Option Addr} {n c : Nat} (hv : v = .slice a n c) : ∀ l, x = .list l → l.length = n := fun l hl => by
  subst hv hl
  cases h with
  | lnil => rfl
  | list => rfl
theorem sized_arg {P : Program} {H : Type} {enc : TypeId × Value → H} {w : World} {base : Nat} {spare : Nat → Bool} {held : Bool} {t e : TypeId} {k : Nat} (hu : P.underlying t = some (.slice e)) (hk : P.bytesOf e = k) {v : Value} {d : DataW H} {p : List MemPlace} (h : DataW.Trod enc P w base spare held t v d p)
    {x : AV} {B : Nat → Prop} (hr : RI w B x v) (hz : ∀ n ∈ d.weights P t, n ≤ reachBytes) : ∀ l, x = .list l → l.length * k ≤ 140737488351232 := fun l hl => by
  obtain ⟨fuel, hf⟩ := h
  have hc : v.cells.toList = [v] := by
    subst hl
    cases hr <;> rfl
  rw [hc] at hf
  rcases DataW.trod_slice hu hf with ⟨h1, _⟩ | ⟨a, len, cap, elems, rest, n, _, h1, h2, _, _, _, h3, _, _, _⟩
  · have := hr.listLen (List.cons.inj h1).1 l hl
    rw [this]; omega
  · have e1 := hr.listLen (List.cons.inj h1).1 l hl
    have hd : d = .slice (elems.map (·.1)) (rest.map (·.1)) := (Prod.mk.inj h2).1
    have := hz ((elems.length + rest.length) * P.bytesOf e) (by rw [hd]; simp [DataW.weights, hu])
    rw [hk] at this
    have hle : l.length * k ≤ (elems.length + rest.length) * k := Nat.mul_le_mul_right _ (by omega)
    have hre : reachBytes = 140737488351232 := by decide
    omega
theorem weights_at {P : Program} {H : Type} {ts : List TypeId} {ds : List (DataW H)} (hz : (DataW.weightsEach P ts ds).all (· ≤ reachBytes) = true) {i : Nat} {t : TypeId} {d : DataW H} (ht : ts[i]? = some t) (hd : ds[i]? = some d) : ∀ n ∈ d.weights P t, n ≤ reachBytes := fun n hn => by
  simpa using List.all_eq_true.1 hz n (DataW.weights_mem_each ht hd n hn)
theorem weights_left {P : Program} {H : Type} : ∀ {ts us : List TypeId} {ds gs : List (DataW H)}, (DataW.weightsEach P (ts ++ us) (ds ++ gs)).all (· ≤ reachBytes) = true → (DataW.weightsEach P ts ds).all (· ≤ reachBytes) = true
  | [], _, _, _, _ => by simp [DataW.weightsEach]
  | _ :: _, _, [], _, _ => by simp [DataW.weightsEach]
  | t :: ts, us, d :: ds, gs, h => by
    simp only [List.cons_append, DataW.weightsEach, List.all_append, Bool.and_eq_true] at h ⊢
    exact ⟨h.1, weights_left h.2⟩
theorem sh_rv {y : AV} (h : ShV (.agg [.int .u8, .int .u8, .int .u8, .int .u8, .int .u8, .int .i16, .int .i16, .int .u8, .int .u8]) y) : ∃ x : Rv, y = encV x ∧ BV x := by
  unfold ShV at h
  obtain ⟨cs, rfl, h⟩ := h
  simp only [ShW, ShV] at h
  obtain ⟨c0, _, rfl, ⟨x0, rfl, a0, b0⟩, c1, _, rfl, ⟨x1, rfl, a1, b1⟩, c2, _, rfl, ⟨x2, rfl, a2, b2⟩, c3, _, rfl, ⟨x3, rfl, a3, b3⟩, c4, _, rfl, ⟨x4, rfl, a4, b4⟩, c5, _, rfl, ⟨x5, rfl, a5, b5⟩, c6, _, rfl, ⟨x6, rfl, a6, b6⟩, c7, _, rfl, ⟨x7, rfl, a7, b7⟩, c8, _, rfl, ⟨x8, rfl, a8, b8⟩, rfl⟩ := h
  exact ⟨⟨x0, x1, x2, x3, x4, x5, x6, x7, x8⟩, rfl, by unfold BV; exact ⟨⟨a0, b0⟩, ⟨a1, b1⟩, ⟨a2, b2⟩, ⟨a3, b3⟩, ⟨a4, b4⟩, ⟨a5, b5⟩, ⟨a6, b6⟩, ⟨a7, b7⟩, a8, b8⟩⟩
theorem sh_n4 {y : AV} (h : ShV (.agg [.int .u8, .int .u8, .int .u8, .int .u8]) y) : ∃ a b c d : Int, y = .agg [.int .u8 a, .int .u8 b, .int .u8 c, .int .u8 d] ∧ (0 ≤ a ∧ a ≤ 255) ∧ (0 ≤ b ∧ b ≤ 255) ∧ (0 ≤ c ∧ c ≤ 255) ∧ 0 ≤ d ∧ d ≤ 255 := by
  unfold ShV at h
  obtain ⟨cs, rfl, h⟩ := h
  simp only [ShW, ShV] at h
  obtain ⟨c0, _, rfl, ⟨x0, rfl, a0, b0⟩, c1, _, rfl, ⟨x1, rfl, a1, b1⟩, c2, _, rfl, ⟨x2, rfl, a2, b2⟩, c3, _, rfl, ⟨x3, rfl, a3, b3⟩, rfl⟩ := h
  exact ⟨x0, x1, x2, x3, rfl, ⟨a0, b0⟩, ⟨a1, b1⟩, ⟨a2, b2⟩, a3, b3⟩
theorem sh_raw2 {x : AV} (h : ShV (.agg [.int .i64, .int .i64, .int .i64, .int .i64, .int .i64, .int .i64, .int .i64, .int .i64]) x) : ∃ (n0 : Int) (n1 : Int) (n2 : Int) (n3 : Int) (n4 : Int) (n5 : Int) (n6 : Int) (n7 : Int), x = .agg [.int .i64 n0, .int .i64 n1, .int .i64 n2, .int .i64 n3, .int .i64 n4, .int .i64 n5, .int .i64 n6, .int .i64 n7] ∧ (-9223372036854775808 ≤ n0 ∧ n0 ≤ 9223372036854775807) ∧ (-9223372036854775808 ≤ n1 ∧ n1 ≤ 9223372036854775807) ∧ (-9223372036854775808 ≤ n2 ∧ n2 ≤ 9223372036854775807) ∧ (-9223372036854775808 ≤ n3 ∧ n3 ≤ 9223372036854775807) ∧ (-9223372036854775808 ≤ n4 ∧ n4 ≤ 9223372036854775807) ∧ (-9223372036854775808 ≤ n5 ∧ n5 ≤ 9223372036854775807) ∧ (-9223372036854775808 ≤ n6 ∧ n6 ≤ 9223372036854775807) ∧ (-9223372036854775808 ≤ n7 ∧ n7 ≤ 9223372036854775807) := by
  simp only [ShV, ShW] at h
  obtain ⟨cs, rfl, _, _, rfl, ⟨n0, rfl, a0, b0⟩, _, _, rfl, ⟨n1, rfl, a1, b1⟩, _, _, rfl, ⟨n2, rfl, a2, b2⟩, _, _, rfl, ⟨n3, rfl, a3, b3⟩, _, _, rfl, ⟨n4, rfl, a4, b4⟩, _, _, rfl, ⟨n5, rfl, a5, b5⟩, _, _, rfl, ⟨n6, rfl, a6, b6⟩, _, _, rfl, ⟨n7, rfl, a7, b7⟩, rfl⟩ := h
  exact ⟨n0, n1, n2, n3, n4, n5, n6, n7, rfl, ⟨a0, b0⟩, ⟨a1, b1⟩, ⟨a2, b2⟩, ⟨a3, b3⟩, ⟨a4, b4⟩, ⟨a5, b5⟩, ⟨a6, b6⟩, ⟨a7, b7⟩⟩
theorem sh_u8 {x : AV} (h : ShV (.int .u8) x) : ∃ n0 : Int, x = .int .u8 n0 ∧ (0 ≤ n0 ∧ n0 ≤ 255) := by
  simp only [ShV] at h
  obtain ⟨n, rfl, a, b⟩ := h
  exact ⟨n, rfl, a, b⟩
theorem own : ownKnob Try.prog.godebug = none := by kernel_rfl
theorem RulesOthers_read (H : Type) (enc : TypeId × Value → H) (W : World) (base : Nat) (args : Array Value) (ds : List (DataW H)) (p : List MemPlace)
    (hval : ∀ (j : Nat) t v, Try.f6.params[j]? = some t → args[j]? = some v → Value.okWide Try.prog W .any base t v)
    (hA : DataW.TrodAll enc Try.prog W 0 (fun _ => true) true Try.f6.params.toList args.toList ds p) (hz : (DataW.weightsEach Try.prog Try.f6.params.toList ds).all (· ≤ reachBytes) = true) :
    Calls Try.prog 6 args W fun e w' => e = .returned (.bool true) ∧ Below W.heap.size W w' := by
  rw [Try.params6] at hA hval hz
  obtain ⟨v0, vs0, d0, ds0, p0, q0, hargs, rfl, rfl, h0, r0⟩ := trodAll_cons hA
  obtain ⟨v1, vs1, d1, ds1, p1, q1, rfl, rfl, rfl, h1, r1⟩ := trodAll_cons r0
  obtain ⟨v2, vs2, d2, ds2, p2, q2, rfl, rfl, rfl, h2, r2⟩ := trodAll_cons r1
  obtain ⟨rfl, rfl, rfl⟩ := trodAll_nil r2
  obtain rfl : args = #[v0, v1, v2] := by cases args; simp_all
  obtain ⟨y0, l0, s0⟩ := read_sh (P := Try.prog) (S := [35, 24, 5, 22, 38, 37, 3]) (by kernel_rfl) (by kernel_rfl) (s := .slice (.agg [.int .u8, .int .u8, .int .u8, .int .u8, .int .u8, .int .i16, .int .i16, .int .u8, .int .u8])) (by kernel_rfl) (hval 0 _ v0 rfl rfl) h0
  have z0 := sized_arg (k := 12) (Try.underlying35) (by kernel_rfl) h0 l0 (fun n hn => weights_at (i := 0) hz rfl rfl n hn)
  obtain ⟨l, rfl, hll, hl⟩ := list_enc (fun y h => sh_rv h) s0
  obtain ⟨y1, l1, s1⟩ := read_sh (P := Try.prog) (S := [35, 24, 5, 22, 38, 37, 3]) (by kernel_rfl) (by kernel_rfl) (s := .agg [.int .i64, .int .i64, .int .i64, .int .i64, .int .i64, .int .i64, .int .i64, .int .i64]) (by kernel_rfl) (hval 1 _ v1 rfl rfl) h1
  obtain ⟨x0, x1, x2, x3, y0, y1, y2, y3, rfl, hx0, hx1, hx2, hx3, hy0, hy1, hy2, hy3⟩ := sh_raw2 s1
  obtain ⟨y2, l2, s2⟩ := read_sh (P := Try.prog) (S := [35, 24, 5, 22, 38, 37, 3]) (by kernel_rfl) (by kernel_rfl) (s := .int .u8) (by kernel_rfl) (hval 2 _ v2 rfl rfl) h2
  obtain ⟨n, rfl, hn⟩ := sh_u8 s2
  exact law_calls (vs := [v0, v1, v2]) (rq_law hl rfl (fun r hr => by obtain ⟨x, hx, rfl⟩ := List.mem_map.1 hr; exact made_lim (hl x (List.mem_of_mem_take hx))) (by simp; omega) (made_good x0 x1 x2 x3).1 (made_good y0 y1 y2 y3).1 (made_good x0 x1 x2 x3).2 (made_good y0 y1 y2 y3).2 rfl rfl hx0 hy0 hn) ⟨l0, l1, l2, trivial⟩

theorem RulesOthers_contract (H : Type) (enc : TypeId × Value → H) (W : World) (base : Nat) (args : Array Value) (ds gs : List (DataW H)) (before : List MemPlace)
    (hval : ∀ (j : Nat) t v, Try.f6.params[j]? = some t → args[j]? = some v → Value.okWide Try.prog W .any base t v)
    (hW : DataW.Whole enc Try.prog Try.f6.params.toList Rows.rulesOthersSpec.vars false W args.toList ds gs before) (hz : (DataW.weightsEach Try.prog Try.f6.params.toList ds).all (· ≤ reachBytes) = true) :
    Calls Try.prog 6 args W fun e W' => ∃ v, e = .returned v ∧ Rows.rulesOthersSpec.post enc Try.prog Try.f6 false true false false W args v W' := by
  have hW' := hW
  obtain ⟨p, q, hA, hV, rfl, hfz, hnd⟩ := hW
  have hlen : ∃ d0 d1 d2, ds = [d0, d1, d2] := by
    have hA2 := hA
    rw [Try.params6] at hA2
    obtain ⟨_, _, d0, ds0, _, _, _, hd0, _, _, hA2⟩ := trodAll_cons hA2
    obtain ⟨_, _, d1, ds1, _, _, _, hd1, _, _, hA2⟩ := trodAll_cons hA2
    obtain ⟨_, _, d2, ds2, _, _, _, hd2, _, _, hA2⟩ := trodAll_cons hA2
    obtain ⟨_, hdn, _⟩ := trodAll_nil hA2
    exact ⟨d0, d1, d2, by rw [hd0, hd1, hd2, hdn]⟩
  have hfn : Rows.rulesOthersSpec.fn H ds = { results := [.lit (.bool true)], args := ds } := by
    obtain ⟨d0, d1, d2, rfl⟩ := hlen
    rfl
  obtain ⟨rfl, rfl⟩ := trodVars_none hV
  refine (RulesOthers_read H enc W base args ds p hval hA hz).mono fun e W' ⟨he, hb⟩ => ⟨_, he, ?_⟩
  exact law_post (by kernel_rfl) (by kernel_rfl) rfl rfl Try.underlying4 hW' hfn hb

set_option maxRecDepth 100000 in
theorem RulesOthers_lifted (os : Os) (started : os.Started) (H : Type) (enc : TypeId × Value → H) :
    ReturnsInHanded {} Try.checked os 6 .any (Rows.rulesOthersSpec.pre6 enc Try.prog Try.f6 Rows.rulesOthersRow.domain false) (Rows.rulesOthersSpec.post enc Try.prog Try.f6 false true false false) := by
  refine returnsInHanded_of_change_sized (C := Try.checked) own started (by kernel_rfl) Try.func6
    (ChangeSpec.witness6 (enc := enc) (C := Try.checked) false ⟨#[], #[.slice none 0 0, .agg #[.int .i64 0, .int .i64 0, .int .i64 0, .int .i64 0, .int .i64 0, .int .i64 0, .int .i64 0, .int .i64 0], .int .u8 0], []⟩ 8 (by kernel_rfl) (by kernel_rfl) (by kernel_rfl) (by kernel_rfl)) ?_
  intro W base args ds gs before hval hW _ hz _
  exact RulesOthers_contract H enc W base args ds gs before hval hW (weights_left hz)

theorem RulesOthers_over : Rows.rulesOthersRow.holds Try.pinned (OpenSpec.ofChange Rows.rulesOthersSpec) :=
  OpenClaim.holds_of_wide 6 Try.f6 rfl rfl rfl rfl rfl rfl rfl ⟨rfl, rfl, rfl, rfl, rfl⟩ rfl rfl rfl rfl rfl (by kernel_rfl) Try.func6 (by kernel_rfl)
    (of_decide_eq_true (by kernel_rfl)) (by unfold Func.isWrapper; first | (rw [if_pos (by decide +kernel)]; kernel_rfl) | (rw [if_neg (by decide +kernel)]; exact ⟨rfl, rfl⟩))
    (fun os started H enc _ => RulesOthers_lifted os started H enc)

/-- The statement. -/
theorem RulesOthers_proved : Rows.RulesOthersSaid := RulesOthers_over


end Go.Proofs.Ytioiffbnbjalcaa
