/- parolelaw01.NumConditions answers true, for all conditions and lists of at most 1048576 parts together, and leaves its arguments as they were. -/
import Derived.Test.YtfhfdenmcneamaaNumCond
import Derived.Test.YtfhfdenmcneamaaLaw
import Derived.Test.YtfhfdenmcneamaaRead
set_option linter.unusedVariables false
namespace Go.Proofs.Ytfhfdenmcneamaa
open Go.ChangeShapes Go.WideShapes Go.ChangeAt Go.RowKit

attribute [local go_sem] exVal coVal

theorem own : ownKnob Try.prog.godebug = none := by kernel_rfl

set_option maxHeartbeats 1000000 in
theorem cond_bigA (a b : Co) (xa ka ya la : Option Addr) (xc kc yc lc : Nat) (vs : List Int) (va : Option Addr) (vc : Nat) (w : World) (ha : CoV w a xa xc ka kc) (h1 : a.nodes ≤ 1099511627776) (h2 : 200 < a.nodes) :
    Calls Try.prog 7 #[coVal a xa xc ka kc, coVal b ya yc la lc, .slice va vs.length vc] w fun e w' => e = .returned (.bool true) ∧ Below w.heap.size w w' := by
  have HA := Lib.hid ha
  clear ha
  unfold coVal
  have h3 : (200 : Int) < (a.nodes : Int) := by omega
  go_enter Try.func7, Try.ntmps7
  go_wp2_with fail
  refine (examples_true _).mono ?_
  rintro r w1 ⟨rfl, hb1⟩
  have H := Held.mk ((Keeps.alloc w _).trans ((Keeps.alloc _ _).trans (keepsOf hb1))) ((((Below.refl w.heap.size w).alloc (Nat.le_refl _) _).alloc (by simp) _).trans (hb1.mono (by simp; omega)))
  have c0 := keepsOf hb1 ⟨w.heap.size, 0, none⟩ (.int .i64 a.op) (by go_simp)
  have c1 := keepsOf hb1 ⟨w.heap.size, 1, none⟩ (.slice xa a.a.length xc) (by go_simp)
  have c2 := keepsOf hb1 ⟨w.heap.size, 2, none⟩ (.slice ka a.c.length kc) (by go_simp)
  clear hb1
  go_wp2_with fail
  refine (sizeC_is a h1 xa ka xc kc _ (HA.out.keep H.k)).mono ?_
  rintro r w2 ⟨rfl, hb⟩
  have H := H.on hb
  go_wp2_with fail
  go_ret
  exact ⟨rfl, H.b⟩

set_option maxHeartbeats 1000000 in
theorem cond_bigB (a b : Co) (xa ka ya la : Option Addr) (xc kc yc lc : Nat) (vs : List Int) (va : Option Addr) (vc : Nat) (w : World) (ha : CoV w a xa xc ka kc) (hb : CoV w b ya yc la lc) (h1 : a.nodes ≤ 200) (h2 : b.nodes ≤ 1099511627776) (h4 : 200 < b.nodes ∨ 100 < vs.length) :
    Calls Try.prog 7 #[coVal a xa xc ka kc, coVal b ya yc la lc, .slice va vs.length vc] w fun e w' => e = .returned (.bool true) ∧ Below w.heap.size w w' := by
  have HA := Lib.hid ha
  have HB := Lib.hid hb
  clear ha hb
  unfold coVal
  have h3 : ¬ (200 : Int) < (a.nodes : Int) := by omega
  go_enter Try.func7, Try.ntmps7
  go_wp2_with fail
  refine (examples_true _).mono ?_
  rintro r w1 ⟨rfl, hb1⟩
  have H := Held.mk ((Keeps.alloc w _).trans ((Keeps.alloc _ _).trans (keepsOf hb1))) ((((Below.refl w.heap.size w).alloc (Nat.le_refl _) _).alloc (by simp) _).trans (hb1.mono (by simp; omega)))
  have c0 := keepsOf hb1 ⟨w.heap.size, 0, none⟩ (.int .i64 a.op) (by go_simp)
  have c1 := keepsOf hb1 ⟨w.heap.size, 1, none⟩ (.slice xa a.a.length xc) (by go_simp)
  have c2 := keepsOf hb1 ⟨w.heap.size, 2, none⟩ (.slice ka a.c.length kc) (by go_simp)
  have c3 := keepsOf hb1 ⟨w.heap.size + 1, 0, none⟩ (.int .i64 b.op) (by go_simp)
  have c4 := keepsOf hb1 ⟨w.heap.size + 1, 1, none⟩ (.slice ya b.a.length yc) (by go_simp)
  have c5 := keepsOf hb1 ⟨w.heap.size + 1, 2, none⟩ (.slice la b.c.length lc) (by go_simp)
  clear hb1
  go_wp2_with fail
  refine (sizeC_is a (by omega) xa ka xc kc _ (HA.out.keep H.k)).mono ?_
  rintro r w2 ⟨rfl, hb⟩
  have H := H.on hb
  have c3 := keepsOf hb _ _ c3
  have c4 := keepsOf hb _ _ c4
  have c5 := keepsOf hb _ _ c5
  clear hb
  go_wp2_with fail
  refine (sizeC_is b h2 ya la yc lc _ (HB.out.keep H.k)).mono ?_
  rintro r w3 ⟨rfl, hb⟩
  have H := H.on hb
  by_cases h5 : 200 < b.nodes
  · have h6 : (200 : Int) < (b.nodes : Int) := by omega
    clear h4
    go_wp2_with fail
    go_ret
    exact ⟨rfl, H.b⟩
  · have h6 : ¬ (200 : Int) < (b.nodes : Int) := by omega
    have h7 : (100 : Int) < (vs.length : Int) := by omega
    clear h4
    go_wp2_with fail
    go_ret
    exact ⟨rfl, H.b⟩

theorem cond_walk (a b : Co) (xa ka ya la : Option Addr) (xc kc yc lc : Nat) (vs : List Int) (va : Option Addr) (vc : Nat) (w : World) (ha : CoV w a xa xc ka kc) (hb : CoV w b ya yc la lc) (hv : IntsV w vs va vc)
    (sa : a.nodes ≤ 1099511627776) (sb : b.nodes ≤ 1099511627776) :
    Calls Try.prog 7 #[coVal a xa xc ka kc, coVal b ya yc la lc, .slice va vs.length vc] w fun e w' => e = .returned (.bool true) ∧ Below w.heap.size w w' := by
  by_cases h1 : a.nodes ≤ 200
  · by_cases h2 : b.nodes ≤ 200 ∧ vs.length ≤ 100
    · exact cond_small a b xa ka ya la xc kc yc lc vs va vc w ha hb hv h1 h2.1 h2.2
    · exact cond_bigB a b xa ka ya la xc kc yc lc vs va vc w ha hb h1 sb (by omega)
  · exact cond_bigA a b xa ka ya la xc kc yc lc vs va vc w ha sa (by omega)

section
variable {H : Type} {enc : TypeId × Value → H} {w : World} {base : Nat} {spare held : Bool}

/-- A condition by value, as it was read. -/
theorem read_cond {r : Reach} {b0 : Nat} {v : Value} {d : DataW H} {ps : List MemPlace} (hv : Value.okWide Try.prog w r b0 34 v) (hd : DataW.Trod enc Try.prog w base (fun _ => true) held 34 v d ps) :
    ∃ (c : Co) (xa ka : Option Addr) (xc kc : Nat), v = coVal c xa xc ka kc ∧ CoV w c xa xc ka kc ∧ c.nodes ≤ Rows.uptoBulk d := by
  obtain ⟨v0, v1, v2, y0, y1, y2, n, rfl, rfl, _, h0, h1, h2⟩ := Joins.open_agg3 Try.underlying34 (by kernel_rfl) (by kernel_rfl) hv hd
  obtain ⟨o, e0, _, _⟩ := DataW.trod_int Try.underlying3 h0
  obtain ⟨l1, a1, k1, e1, hv1, hb1⟩ := read_exs n h1
  obtain ⟨l2, a2, k2, e2, hv2, hb2⟩ := read_cos n h2
  simp only [List.cons.injEq, and_true] at e0 e1 e2
  subst e0 e1 e2
  refine ⟨.mk o l1 l2, a1, a2, k1, k2, rfl, ⟨hv1, hv2⟩, ?_⟩
  simp only [Rows.uptoBulk, Rows.uptoBulkAll, Co.nodes]
  omega
end

theorem NumConditions_read (H : Type) (enc : TypeId × Value → H) (W : World) (base : Nat) (args : Array Value) (ds : List (DataW H)) (p : List MemPlace)
    (hval : ∀ (j : Nat) t v, Try.f7.params[j]? = some t → args[j]? = some v → Value.okWide Try.prog W .any base t v)
    (hA : DataW.TrodAll enc Try.prog W 0 (fun _ => true) true Try.f7.params.toList args.toList ds p) (hk : Rows.uptoSmall H ds = true) :
    Calls Try.prog 7 args W fun e w' => e = .returned (.bool true) ∧ Below W.heap.size W w' := by
  rw [Try.params7] at hA hval
  obtain ⟨v0, vs0, d0, ds0, p0, q0, hargs, rfl, rfl, h0, r0⟩ := trodAll_cons hA
  obtain ⟨v1, vs1, d1, ds1, p1, q1, rfl, rfl, rfl, h1, r1⟩ := trodAll_cons r0
  obtain ⟨v2, vs2, d2, ds2, p2, q2, rfl, rfl, rfl, h2, r2⟩ := trodAll_cons r1
  obtain ⟨rfl, rfl, rfl⟩ := trodAll_nil r2
  obtain rfl : args = #[v0, v1, v2] := by cases args; simp_all
  obtain ⟨a, xa, ka, xc, kc, rfl, ha, ba⟩ := read_cond (hval 0 34 v0 rfl rfl) h0
  obtain ⟨b, ya, la, yc, lc, rfl, hb, bb⟩ := read_cond (hval 1 34 v1 rfl rfl) h1
  obtain ⟨fuel, h2⟩ := h2
  obtain ⟨vs, va, vc, e2, hv, bv, _⟩ := read_ints fuel h2
  have e3 : v2 = .slice va vs.length vc := by
    obtain ⟨a', n', c', rfl⟩ := okWide_slice Try.underlying36 (hval 2 36 v2 rfl rfl)
    simpa [Value.cells] using e2
  subst e3
  have hk' : Rows.uptoBulkAll [d0, d1, d2] ≤ 1048576 := of_decide_eq_true hk
  simp only [Rows.uptoBulkAll] at hk'
  exact cond_walk a b xa ka ya la xc kc yc lc vs va vc W ha hb hv (by omega) (by omega)

theorem NumConditions_contract (H : Type) (enc : TypeId × Value → H) (W : World) (base : Nat) (args : Array Value) (ds gs : List (DataW H)) (before : List MemPlace)
    (hval : ∀ (j : Nat) t v, Try.f7.params[j]? = some t → args[j]? = some v → Value.okWide Try.prog W .any base t v)
    (hW : DataW.Whole enc Try.prog Try.f7.params.toList Rows.numConditionsSpec.vars false W args.toList ds gs before) (hk : Rows.uptoSmall H (ds ++ gs) = true) :
    Calls Try.prog 7 args W fun e W' => ∃ v, e = .returned v ∧ Rows.numConditionsSpec.post enc Try.prog Try.f7 false true false false W args v W' := by
  have hW' := hW
  obtain ⟨p, q, hA, hV, rfl, hfz, hnd⟩ := hW
  have hlen : ∃ d0 d1 d2, ds = [d0, d1, d2] := by
    have hA2 := hA
    rw [Try.params7] at hA2
    obtain ⟨_, _, d0, ds0, _, _, _, hd0, _, _, hA2⟩ := trodAll_cons hA2
    obtain ⟨_, _, d1, ds1, _, _, _, hd1, _, _, hA2⟩ := trodAll_cons hA2
    obtain ⟨_, _, d2, ds2, _, _, _, hd2, _, _, hA2⟩ := trodAll_cons hA2
    obtain ⟨_, hdn, _⟩ := trodAll_nil hA2
    exact ⟨d0, d1, d2, by rw [hd0, hd1, hd2, hdn]⟩
  have hfn : Rows.numConditionsSpec.fn H ds = { results := [.lit (.bool true)], args := ds } := by
    obtain ⟨d0, d1, d2, rfl⟩ := hlen
    rfl
  obtain ⟨rfl, rfl⟩ := trodVars_none hV
  refine (NumConditions_read H enc W base args ds p hval hA (by simpa using hk)).mono fun e W' ⟨he, hb⟩ => ⟨_, he, ?_⟩
  exact law_post (by kernel_rfl) (by kernel_rfl) rfl rfl Try.underlying4 hW' hfn hb

set_option maxRecDepth 100000 in
theorem NumConditions_lifted (os : Os) (started : os.Started) (H : Type) (enc : TypeId × Value → H) (F : Stop.Interp) :
    ReturnsInHanded {} Try.checked os 7 .any ((Rows.OpenSpec.upto Rows.numConditionsSpec).pre6 enc Try.prog Try.f7 Rows.numConditionsUptoRow.domain false) (((Rows.OpenSpec.upto Rows.numConditionsSpec).at F).post enc Try.prog Try.f7 false true false false) := by
  refine returnsInHanded_of_cond (C := Try.checked) (s := Rows.OpenSpec.upto Rows.numConditionsSpec) (k := Rows.uptoSmall) rfl own started (by kernel_rfl) Try.func7
    (OpenSpec.witness (enc := enc) (C := Try.checked) (s := Rows.OpenSpec.upto Rows.numConditionsSpec) (k := Rows.uptoSmall) rfl false ⟨#[], #[.agg #[.int .i64 0, .slice none 0 0, .slice none 0 0], .agg #[.int .i64 0, .slice none 0 0, .slice none 0 0], .slice none 0 0], []⟩ 8 (by kernel_rfl) (by kernel_rfl) (by kernel_rfl)
      (x := ([.agg [.lit (.int .i64 0), .nil, .nil], .agg [.lit (.int .i64 0), .nil, .nil], .nil], [], [])) (by kernel_rfl) rfl (by kernel_rfl)) ?_
  intro W base args ds gs before hval hW _ hk _
  exact NumConditions_contract H enc W base args ds gs before hval hW hk

theorem NumConditions_over : Rows.numConditionsUptoRow.holds Try.pinned (Rows.OpenSpec.upto Rows.numConditionsSpec) :=
  OpenClaim.holds_of_cond 7 Try.f7 rfl rfl rfl rfl rfl rfl rfl ⟨rfl, rfl, rfl, rfl, rfl⟩ rfl rfl rfl rfl rfl (by kernel_rfl) Try.func7 (by kernel_rfl)
    (of_decide_eq_true (by kernel_rfl)) (by unfold Func.isWrapper; first | (rw [if_pos (by decide +kernel)]; kernel_rfl) | (rw [if_neg (by decide +kernel)]; exact ⟨rfl, rfl⟩))
    (fun os started H enc _ F => NumConditions_lifted os started H enc F)

/-- The statement. -/
theorem NumConditions_proved : Rows.NumConditionsUptoSaid := NumConditions_over


end Go.Proofs.Ytfhfdenmcneamaa
