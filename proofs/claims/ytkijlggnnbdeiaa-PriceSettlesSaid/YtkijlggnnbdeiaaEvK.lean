/- Every operation without a call: that it gives what the text says. For every program. -/
import Derived.Test.YtkijlggnnbdeiaaEvJ
set_option linter.unusedVariables false
set_option linter.unusedSimpArgs false
namespace Go.Proofs.Ytkijlggnnbdeiaa
open Go.RowKit

section
variable {P : Program} {A : Nat → Prop} {m : Mem} {ρ : Nat → Nat} {w : World} {a : Act} {o : Oper} {n0 : Nat}

theorem func_rep {τ : Nat → AV} {f : Fn} {p c : Array Operand} (hp : ∀ x ∈ p, Rep A m ρ w (opd τ x) (a.eval x)) (hc : ∀ x ∈ c, Rep A m ρ w (opd τ x) (a.eval x)) :
    Rep A m ρ w (.func f (p.toList.map (opd τ)) (c.toList.map (opd τ))) (.func f (p.map a.eval) (c.map a.eval)) := by
  have key : ∀ (q : Array Operand), (∀ x ∈ q, Rep A m ρ w (opd τ x) (a.eval x)) → ∀ i x, (q.toList.map (opd τ))[i]? = some x → Rep A m ρ w x ((q.map a.eval).getD i undef) := fun q hq i x hx => by
    simp only [List.getElem?_map] at hx
    obtain ⟨y, h1, rfl⟩ := Option.map_eq_some_iff.1 hx
    rw [Array.getD_eq_getD_getElem?, Array.getElem?_map, ← Array.getElem?_toList, h1]
    exact hq y (Array.mem_toList_iff.1 (List.mem_iff_getElem?.2 ⟨i, h1⟩))
  exact .func f _ _ _ _ (by simp) (by simp) (key p hp) (key c hc)

theorem args_rep {τ : Nat → AV} {q : Array Operand} (hq : ∀ x ∈ q, Rep A m ρ w (opd τ x) (a.eval x)) : (q.map a.eval).size = (q.toList.map (opd τ)).length ∧ ∀ i x, (q.toList.map (opd τ))[i]? = some x → Rep A m ρ w x ((q.map a.eval).getD i undef) := by
  refine ⟨by simp, fun i x hx => ?_⟩
  simp only [List.getElem?_map] at hx
  obtain ⟨y, h1, rfl⟩ := Option.map_eq_some_iff.1 hx
  rw [Array.getD_eq_getD_getElem?, Array.getElem?_map, ← Array.getElem?_toList, h1]
  exact hq y (Array.mem_toList_iff.1 (List.mem_iff_getElem?.2 ⟨i, h1⟩))

theorem evNilCheck_ok {x : Operand} {r : AV} {y : AV} (ho : o.op = .nilCheck x) (h : evNilCheck y = some r) (hx : Rep A m ρ w y (a.eval x)) : (execOp a.eval o).run P w = .ok (.value (a.eval x)) w ∧ Rep A m ρ w r (a.eval x) := by
  unfold evNilCheck at h
  simp only [execOp, ho]
  split at h
  · obtain rfl := Option.some.inj h
    refine ⟨?_, hx⟩
    rw [(rep_ptr hx).1]; rfl
  · obtain rfl := Option.some.inj h
    refine ⟨?_, hx⟩
    obtain ⟨b, o', x, h1, _⟩ := rep_ptrIn hx
    rw [h1]; rfl
  · obtain rfl := Option.some.inj h
    refine ⟨?_, hx⟩
    obtain ⟨ps, cs, h1, _⟩ := rep_func hx
    rw [h1]; rfl
  · cases h

set_option maxHeartbeats 1000000 in
theorem evIface_ok {t : TypeId} {x r : AV} {v : Value} (h : evIface P t x = some r) (hx : Rep A m ρ w x v) : ∃ u, (Instr.makeInterface t v).run P w = .ok u w ∧ Rep A m ρ w r u := by
  unfold evIface at h
  split at h
  · cases h
  · rename_i d hd hu
    cases h
    refine ⟨.iface t v, ?_, .iface t x v hx⟩
    simp only [Instr.makeInterface, Sem.run_bind, run_underlying hu, Result.andThen_ok]
    rfl
  · cases h

theorem evAssert_ok {t xt : TypeId} {x r : AV} {ok : Bool} {v : Value} (h : evAssert P x t ok = some r) (hx : Rep A m ρ w x v) : ∃ u, (Instr.typeAssert v xt t ok).run P w = .ok u w ∧ Rep A m ρ w r u := by
  unfold evAssert at h
  split at h
  · cases h
  · rename_i d hd hu
    have hz : ∀ {z : AV}, zeroAV P t = some z → ∃ zv, (zeroValue t).run P w = .ok zv w ∧ Rep A m ρ w (.tuple [z, .bool false]) (.tuple #[zv, .bool false]) := fun hz => by
      obtain ⟨i, h1, h2⟩ := Option.map_eq_some_iff.1 hz
      obtain ⟨ti, h3, h4⟩ := Option.bind_eq_some_iff.1 h1
      refine ⟨i, by simp [zeroValue, typeInfo, h3, h4], .tuple _ _ rfl fun j c hc => ?_⟩
      match j with
      | 0 => simp at hc; subst hc; rw [← h2]; exact .base (avOf_ri ..)
      | 1 => simp at hc; subst hc; exact .base (.bool _)
      | j + 2 => simp at hc
    split at h
    · rw [rep_niliface hx]
      split at h
      · rename_i hok
        obtain ⟨z, h1, rfl⟩ := Option.map_eq_some_iff.1 h
        obtain ⟨zv, h2, h3⟩ := hz h1
        refine ⟨_, ?_, h3⟩
        cases d <;> first | exact (hd _ rfl).elim | simp [Instr.typeAssert, run_underlying hu, hok, h2]
      · cases h
    · rename_i u y
      obtain ⟨uv, rfl, q1⟩ := rep_iface hx
      split at h
      · rename_i hut
        cases h
        refine ⟨if ok then .tuple #[uv, .bool true] else uv, ?_, ?_⟩
        · subst hut
          cases d <;> first | exact (hd _ rfl).elim | simp [Instr.typeAssert, run_underlying hu]
        · cases ok
          · simpa using q1
          · refine .tuple _ _ rfl fun j c hc => ?_
            match j with
            | 0 => simp at hc; subst hc; exact q1
            | 1 => simp at hc; subst hc; exact .base (.bool _)
            | j + 2 => simp at hc
      · rename_i hut
        split at h
        · rename_i hok
          obtain ⟨z, h1, rfl⟩ := Option.map_eq_some_iff.1 h
          obtain ⟨zv, h2, h3⟩ := hz h1
          refine ⟨_, ?_, h3⟩
          cases d <;> first | exact (hd _ rfl).elim | simp [Instr.typeAssert, run_underlying hu, hok, h2, hut]
        · cases h
    · cases h
  · cases h

theorem evOp_ok {τ : Nat → AV} {look : Mem} {s : Sup} {r : ORes} (hF : Fits A m ρ w) (hl : ∀ id b, look id = some b → m id = some b) (hn : ∀ j, j < r.ns.length → m (n0 + j) = none) (h : evOp P o.op o.type τ look n0 s = some r) (hob : AllP r.ob)
    (hr : ∀ x ∈ o.op.operands, Rep A m ρ w (opd τ x) (a.eval x)) : OpPost P A m ρ w a o n0 r := by
  cases hop : o.op with
  | move x =>
    rw [hop] at h hr
    obtain rfl := Option.some.inj h
    exact post_pure hF (by unfold execOp; rw [hop]; rfl) (hr x (by simp [Op.operands]))
  | assign x =>
    rw [hop] at h hr
    obtain rfl := Option.some.inj h
    exact post_pure hF (by unfold execOp; rw [hop]; rfl) (hr x (by simp [Op.operands]))
  | pick c x y =>
    rw [hop] at h hr
    obtain ⟨v, h1, rfl⟩ := Option.map_eq_some_iff.1 h
    obtain ⟨b, h2, h3⟩ := evPick_ok h1 (hr c (by simp [Op.operands])) (hr x (by simp [Op.operands])) (hr y (by simp [Op.operands]))
    refine post_pure hF ?_ h3
    unfold execOp; rw [hop]; simp [h2, asBool]
  | alloc t =>
    rw [hop] at h
    obtain ⟨z, h1, rfl⟩ := Option.map_eq_some_iff.1 h
    exact alloc_ok hF (hn 0 (by simp)) hop h1
  | box t x =>
    rw [hop] at h hr
    simp only [evOp] at h
    split at h
    · rename_i hb
      obtain rfl := Option.some.inj h
      exact box_ok hF (hn 0 (by simp)) hop (hr x (by simp [Op.operands])) hb
    · cases h
  | build t parts =>
    rw [hop] at h hr
    exact post_p hF h (s := Instr.build t (parts.map fun (i, x) => (i, a.eval x))) (by unfold execOp; rw [hop]) fun v hv => evBuild_ok hv fun p hp => hr p.2 (by simp only [Op.operands]; simp; exact ⟨p.1, hp⟩)
  | buildSlice t len parts =>
    rw [hop] at h hr
    obtain ⟨⟨es, k⟩, h1, rfl⟩ := Option.map_eq_some_iff.1 h
    exact buildSlice_ok hF (hn 0 (by simp)) hop h1 fun p hp => hr p.2 (by simp only [Op.operands]; simp; exact ⟨p.1, hp⟩)
  | load t x =>
    rw [hop] at h hr
    exact post_q hF h (s := Instr.loadAt t (a.eval x)) (by unfold execOp; rw [hop]) hob fun v ob hv ho => evLoad_ok hF hl hv ho (hr x (by simp [Op.operands]))
  | store t x y =>
    rw [hop] at h hr
    obtain ⟨⟨id, b, ob⟩, h1, rfl⟩ := Option.map_eq_some_iff.1 h
    exact store_ok hop hF hl h1 hob (hr x (by simp [Op.operands])) (hr y (by simp [Op.operands]))
  | nilCheck x =>
    rw [hop] at h hr
    obtain ⟨v, h1, rfl⟩ := Option.map_eq_some_iff.1 h
    obtain ⟨h2, h3⟩ := evNilCheck_ok hop h1 (hr x (by simp [Op.operands]))
    exact post_pure hF h2 h3
  | binOp op t x y yt =>
    rw [hop] at h hr
    exact post_q hF h (s := do eqGuard op t x y (a.eval x) (a.eval y); binOp op t (a.eval x) (a.eval y)) (by unfold execOp; rw [hop]) hob fun v ob hv ho => evBin_ok hv ho (hr x (by simp [Op.operands])) (hr y (by simp [Op.operands]))
  | unOp op t x =>
    rw [hop] at h hr
    exact post_p hF h (s := Op.unary op (a.eval x)) (by unfold execOp; rw [hop]) fun v hv => evUn_ok hv (hr x (by simp [Op.operands]))
  | convert src dst x =>
    rw [hop] at h hr
    exact post_p hF h (s := convert src dst (a.eval x)) (by unfold execOp; rw [hop]) fun v hv => evConv_ok hv (hr x (by simp [Op.operands]))
  | fieldAddr t x f =>
    rw [hop] at h hr
    exact post_p hF h (s := Instr.fieldAt t (a.eval x) f) (by unfold execOp; rw [hop]) fun v hv => evFieldAddr_ok hl hv (hr x (by simp [Op.operands]))
  | field t x f =>
    rw [hop] at h hr
    exact post_p hF h (s := Instr.field t (a.eval x) f) (by unfold execOp; rw [hop]) fun v hv => evField_ok hv (hr x (by simp [Op.operands]))
  | indexAddr t x i =>
    rw [hop] at h hr
    exact post_q hF h (s := Instr.indexAt t (a.eval x) (a.eval i)) (by unfold execOp; rw [hop]) hob fun v ob hv ho => evIndexAddr_ok hF hl hv ho (hr x (by simp [Op.operands])) (hr i (by simp [Op.operands]))
  | index t x i =>
    rw [hop] at h hr
    exact post_q hF h (s := Instr.index t (a.eval x) (a.eval i)) (by unfold execOp; rw [hop]) hob fun v ob hv ho => evIndex_ok hv ho (hr x (by simp [Op.operands])) (hr i (by simp [Op.operands]))
  | slice t x lo hi mx =>
    rw [hop] at h hr
    exact post_q hF h (s := Instr.sliceAt t (a.eval x) (lo.map a.eval) (hi.map a.eval) (mx.map a.eval)) (by unfold execOp; rw [hop]) hob fun v ob hv ho => evSlice_ok hF hl hv ho (hr x (by simp [Op.operands]))
      (fun y hy => hr y (by simp [Op.operands, hy])) (fun y hy => hr y (by simp [Op.operands, hy]))
  | makeInterface t x =>
    rw [hop] at h hr
    exact post_p hF h (s := Instr.makeInterface t (a.eval x)) (by unfold execOp; rw [hop]) fun v hv => evIface_ok hv (hr x (by simp [Op.operands]))
  | typeAssert x xt t ok =>
    rw [hop] at h hr
    exact post_p hF h (s := Instr.typeAssert (a.eval x) xt t ok) (by unfold execOp; rw [hop]) fun v hv => evAssert_ok hv (hr x (by simp [Op.operands]))
  | extract x i =>
    rw [hop] at h hr
    exact post_p hF h (s := Instr.extract (a.eval x) i) (by unfold execOp; rw [hop]) fun v hv => evExtract_ok hv (hr x (by simp [Op.operands]))
  | makeFunc f p c =>
    rw [hop] at h hr
    obtain rfl := Option.some.inj h
    exact post_pure hF (exec_v (s := Instr.makeFunc f (p.map a.eval) (c.map a.eval)) (by unfold execOp; rw [hop]) rfl) (func_rep (fun x hx => hr x (by simp [Op.operands, hx])) (fun x hx => hr x (by simp [Op.operands, hx])))
  | makeSlice t l c =>
    rw [hop] at h hr
    obtain ⟨⟨n, es, k, ob⟩, h1, rfl⟩ := Option.map_eq_some_iff.1 h
    exact makeSlice_ok hF (hn 0 (by simp)) hop h1 hob (hr l (by simp [Op.operands])) (hr c (by simp [Op.operands]))
  | call c =>
    obtain ⟨callee, args, argTypes⟩ := c
    rw [hop] at h hr
    cases callee with
    | value f => cases h
    | invoke r n => cases h
    | builtin b =>
      have hargs : ∀ x ∈ args, Rep A m ρ w (opd τ x) (a.eval x) := fun x hx => hr x (by simp [Op.operands, Call.operands, hx])
      simp only [evOp] at h
      split at h
      · rename_i t x hts hxs
        obtain rfl : argTypes = #[t] := by cases argTypes; simp_all
        obtain rfl : args = #[x] := by cases args; simp_all
        exact post_p hF h (s := Builtin.len_ #[t] o.type #[a.eval x]) (exec_builtin hop fun cs => by simp [builtin]) fun v hv => evLen_ok hl hv (hargs x (by simp))
      · rename_i ts xs
        obtain ⟨h1, h2⟩ := args_rep hargs
        exact post_p hF h (s := Builtin.max_ argTypes o.type (args.map a.eval)) (exec_builtin hop fun cs => by simp [builtin]) fun v hv => by
          simpa using evMax_ok (mx := true) argTypes o.type hv h1 h2
      · rename_i ts xs
        obtain ⟨h1, h2⟩ := args_rep hargs
        exact post_p hF h (s := Builtin.min_ argTypes o.type (args.map a.eval)) (exec_builtin hop fun cs => by simp [builtin]) fun v hv => by
          simpa using evMax_ok (mx := false) argTypes o.type hv h1 h2
      · rename_i t t2 x y hts hxs
        obtain rfl : argTypes = #[t, t2] := by cases argTypes; simp_all
        obtain rfl : args = #[x, y] := by cases args; simp_all
        split at h
        · rename_i v ob happ
          obtain rfl := Option.some.inj h
          exact append_ok hF (fun ⟨_, he⟩ => by cases he) hl hop happ hob (hargs x (by simp)) (hargs y (by simp))
        · rename_i id b v ob happ
          obtain rfl := Option.some.inj h
          exact append_ok hF (fun ⟨_, he⟩ => by cases he) hl hop happ hob (hargs x (by simp)) (hargs y (by simp))
        · rename_i k es ver ob happ
          obtain rfl := Option.some.inj h
          exact append_ok hF (fun _ => hn 0 (by simp)) hl hop happ hob (hargs x (by simp)) (hargs y (by simp))
        · cases h
      · cases h
  | _ => rw [hop] at h; cases h

end
end Go.Proofs.Ytkijlggnnbdeiaa
