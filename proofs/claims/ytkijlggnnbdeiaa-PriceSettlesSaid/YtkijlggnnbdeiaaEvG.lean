/- Addresses, slices and their lengths. For every program. -/
import Derived.Test.YtkijlggnnbdeiaaEvF
set_option linter.unusedVariables false
set_option linter.unusedSimpArgs false
namespace Go.Proofs.Ytkijlggnnbdeiaa
open Go.RowKit

section
variable {P : Program} {A : Nat → Prop} {m : Mem} {ρ : Nat → Nat} {w : World} {a : Act} {o : Oper} {n0 : Nat}

theorem cur_ok {look : Mem} {id ver : Nat} (hl : ∀ id b, look id = some b → m id = some b) (h : cur look id ver = true) : ∃ k es, m id = some (.row k es ver) := by
  unfold cur at h
  split at h
  · rename_i k es ver' hlk
    obtain rfl := Nat.eq_of_beq_eq_true h
    exact ⟨k, es, hl _ _ hlk⟩
  · cases h

theorem evFieldAddr_ok {t : TypeId} {p r : AV} {f : Nat} {look : Mem} {v : Value} (hl : ∀ id b, look id = some b → m id = some b) (h : evFieldAddr P t p f look = some r) (hp : Rep A m ρ w p v) :
    ∃ u, (Instr.fieldAt t v f).run P w = .ok u w ∧ Rep A m ρ w r u := by
  unfold evFieldAddr at h
  split at h
  · rename_i fs hu
    split at h
    · rename_i fd hfd
      split at h
      · rename_i i hi
        split at h
        · cases h
        · rename_i hz
          have hz : ¬ i.size = 0 := fun e => hz (by rw [e]; rfl)
          have hplace : ∀ b o, (fieldPlace ⟨b, o, none⟩ fd).run P w = .ok ⟨b, o + fd.offset, none⟩ w := fun b o => by
            simp only [fieldPlace, Sem.run_bind, run_sizeOf hi, Result.andThen_ok, if_neg hz, Sem.run_pure, addr_add]
          split at h
          · rename_i id off
            obtain rfl := Option.some.inj h
            obtain ⟨rfl, cs, hm⟩ := rep_ptr hp
            exact ⟨_, by simp [Instr.fieldAt, run_underlying hu, hfd, Instr.sureAddr, hplace], .ptr id _ cs hm⟩
          · rename_i id ver ix off
            split at h
            · rename_i hcur
              obtain ⟨k, es, hm⟩ := cur_ok hl hcur
              obtain rfl := Option.some.inj h
              obtain ⟨rfl, hlt⟩ := rep_ptrR hp hm
              exact ⟨_, by simp [Instr.fieldAt, run_underlying hu, hfd, Instr.sureAddr, hplace]; rfl, .ptrR id ver ix _ k es ver _ hm (Nat.le_refl _) (fun _ => ⟨hlt, by rw [Nat.add_assoc]⟩)⟩
            · cases h
          · rename_i e off
            obtain rfl := Option.some.inj h
            obtain ⟨b, o', x, rfl, hB, hx, hr⟩ := rep_ptrIn hp
            exact ⟨_, by simp [Instr.fieldAt, run_underlying hu, hfd, Instr.sureAddr, hplace]; rfl, .base (by rw [Nat.add_assoc]; exact .ptrIn e _ b o' x hB hx hr)⟩
          · cases h
      · cases h
    · cases h
  · cases h

theorem evField_ok {t : TypeId} {x r : AV} {f : Nat} {v : Value} (h : evField P t x f = some r) (hx : Rep A m ρ w x v) : ∃ u, (Instr.field t v f).run P w = .ok u w ∧ Rep A m ρ w r u := by
  unfold evField at h
  split at h
  · rename_i fs cs hu
    split at h
    · rename_i fd hfd
      obtain ⟨vs, rfl, hs, hr⟩ := rep_agg hx
      obtain ⟨u, h1, h2⟩ := run_part h hs hr
      exact ⟨u, by simp [Instr.field, run_underlying hu, hfd, asAgg, h1], h2⟩
    · cases h
  · cases h

theorem idxOf_ok {i : Int} {n : Nat} {s : Sup} (h : AllP (idxOf i n s).2) : 0 ≤ i ∧ i < n ∧ i.toNat = (idxOf i n s).1 := by
  unfold idxOf at h ⊢
  split at h
  · have h1 : i = _ := h.1
    have h2 : _ < n := h.2.1
    subst h1
    exact ⟨by omega, by omega, by simp⟩
  · exact ⟨h.1.1, h.1.2, rfl⟩

theorem evIndexAddr_ok {t : TypeId} {x ix r : AV} {look : Mem} {s : Sup} {ob : List Prop} {v vi : Value} (hF : Fits A m ρ w) (hl : ∀ id b, look id = some b → m id = some b) (h : evIndexAddr P t x ix look s = some (r, ob)) (hob : AllP ob)
    (hx : Rep A m ρ w x v) (hi : Rep A m ρ w ix vi) : ∃ u, (Instr.indexAt t v vi).run P w = .ok u w ∧ Rep A m ρ w r u := by
  unfold evIndexAddr at h
  split at h
  · rename_i kk i n e hu
    rw [rep_int hi]
    split at h
    · rename_i ei hei
      have hrun : ∀ b o, AllP (idxOf i n s).2 → (Instr.indexAt t (.pointer (some ⟨b, o, none⟩)) (.int kk i)).run P w = .ok (.pointer (some ⟨b, o + (idxOf i n s).1 * ei.size, none⟩)) w := fun b o ho => by
        obtain ⟨h1, h2, h3⟩ := idxOf_ok ho
        simp only [Instr.indexAt, Sem.run_bind, asIntOf, Sem.run_pure, Result.andThen_ok, run_underlying hu, Instr.sureAddr, run_sizeOf hei]
        rw [if_pos ⟨h1, h2⟩]
        simp only [Sem.run_bind, run_sizeOf hei, Result.andThen_ok, Sem.run_pure, addr_add, h3]
      split at h
      · rename_i id off
        cases h
        obtain ⟨rfl, cs, hm⟩ := rep_ptr hx
        exact ⟨_, hrun _ _ hob, .ptr id _ cs hm⟩
      · rename_i id ver j off
        split at h
        · rename_i hcur
          cases h
          obtain ⟨k, es, hm⟩ := cur_ok hl hcur
          obtain ⟨rfl, hlt⟩ := rep_ptrR hx hm
          exact ⟨_, hrun _ _ hob, .ptrR id ver j _ k es ver _ hm (Nat.le_refl _) (fun _ => ⟨hlt, by rw [Nat.add_assoc]⟩)⟩
        · cases h
      · rename_i e off
        cases h
        obtain ⟨b, o', x, rfl, hB, hx, hr⟩ := rep_ptrIn hx
        exact ⟨_, hrun _ _ hob, .base (by rw [Nat.add_assoc]; exact .ptrIn e _ b o' x hB hx hr)⟩
      · cases h
    · cases h
  · rename_i kk i e hu
    rw [rep_int hi]
    split at h
    · rename_i ei hei
      split at h
      · rename_i l
        split at h
        · rename_i v' ob' hel
          split at h
          · rename_i hsz
            have hsz := Nat.eq_of_beq_eq_true hsz
            cases h
            have h0 : 0 ≤ i := hob.1
            have he := elemAt_ok hel hob.2
            have hlt := (List.getElem?_eq_some_iff.1 he).1
            obtain ⟨b, o', cap, k, x, rfl, hB, hk, hx, hr⟩ := rep_list_at hx (fun e => by subst e; simp at he)
            have hkk : k = ei.size := by rw [← hsz]; exact (hk _ (List.mem_iff_getElem?.2 ⟨_, he⟩)).symm
            subst hkk
            refine ⟨.pointer (some ⟨b, o' + i.toNat * ei.size + 0, none⟩), ?_, .base (.ptrIn v' 0 b (o' + i.toNat * ei.size) (x i.toNat) hB (fun j c hc => hx _ _ j c he hc) (fun j c hc => hr _ _ j c he hc))⟩
            simp only [Instr.indexAt, Sem.run_bind, asIntOf, Sem.run_pure, Result.andThen_ok, run_underlying hu]
            rw [if_pos ⟨h0, by omega⟩]
            simp only [Sem.run_bind, run_sizeOf hei, Result.andThen_ok, Sem.run_pure, addr_add, Nat.add_zero]
          · cases h
        · cases h
      · rename_i id lo len ver
        split at h
        · rename_i k es ver' hlk
          split at h
          · rename_i hc
            simp only [Bool.and_eq_true, Nat.beq_eq] at hc
            obtain ⟨rfl, rfl⟩ := hc
            cases h
            have hm := hl _ _ hlk
            obtain ⟨h1, h2⟩ := hob.1
            obtain ⟨h3, o', c, vs, t', rfl, h4, h5, h6, h7⟩ := rep_slice hx hm
            have hlt : i.toNat < len := by omega
            have ho' := h4 (by omega)
            refine ⟨.pointer (some ⟨ρ id, (lo + i.toNat) * ei.size + 0, none⟩), ?_, .ptrR id ver _ 0 ei.size es ver _ hm (Nat.le_refl _) (fun _ => ⟨by omega, rfl⟩)⟩
            simp only [Instr.indexAt, Sem.run_bind, asIntOf, Sem.run_pure, Result.andThen_ok, run_underlying hu]
            rw [if_pos ⟨h1, by omega⟩]
            simp only [Sem.run_bind, run_sizeOf hei, Result.andThen_ok, Sem.run_pure, addr_add, Nat.add_zero, ho', Nat.add_mul]
          · cases h
        · cases h
      · cases h
    · cases h
  · cases h

theorem evIndex_ok {t : TypeId} {x ix r : AV} {s : Sup} {ob : List Prop} {v vi : Value} (h : evIndex P t x ix s = some (r, ob)) (hob : AllP ob) (hx : Rep A m ρ w x v) (hi : Rep A m ρ w ix vi) :
    ∃ u, (Instr.index t v vi).run P w = .ok u w ∧ Rep A m ρ w r u := by
  unfold evIndex at h
  split at h
  · rename_i kk i n e cs hu
    rw [rep_int hi]
    split at h
    · rename_i ei hei
      obtain ⟨r', h1, h2⟩ := Option.map_eq_some_iff.1 h
      cases h2
      obtain ⟨vs, rfl, hs, hr⟩ := rep_agg hx
      obtain ⟨h3, h4, h5⟩ := idxOf_ok hob
      obtain ⟨u, h6, h7⟩ := run_part h1 hs hr
      refine ⟨u, ?_, h7⟩
      simp only [Instr.index, Sem.run_bind, asIntOf, Sem.run_pure, Result.andThen_ok, run_underlying hu]
      rw [if_pos ⟨h3, h4⟩]
      simp only [Sem.run_bind, run_sizeOf hei, Result.andThen_ok, h5, h6]
    · cases h
  · rename_i kk i b hu
    split at h
    · rename_i k n
      cases h
      obtain ⟨⟨h0, h1⟩, _⟩ := hob
      rw [rep_int hi, rep_str hx]
      obtain ⟨y, h2, h3⟩ := Option.map_eq_some_iff.1 h1
      subst h3
      refine ⟨_, ?_, .base (.int _ _)⟩
      simp only [Instr.index, Sem.run_bind, asIntOf, Sem.run_pure, Result.andThen_ok, run_underlying hu]
      rw [if_pos h0, h2]
      rfl
    · cases h
  · cases h

theorem evLen_ok {t ty : TypeId} {x r : AV} {look : Mem} {v : Value} (hl : ∀ id b, look id = some b → m id = some b) (h : evLen P t x look = some r) (hx : Rep A m ρ w x v) : ∃ u, (Builtin.len_ #[t] ty #[v]).run P w = .ok u w ∧ Rep A m ρ w r u := by
  unfold evLen at h
  split at h
  · rename_i e l hu
    obtain rfl := Option.some.inj h
    obtain ⟨a', cap, rfl, _⟩ := rep_list hx
    exact ⟨_, by simp [Builtin.len_, run_underlying hu, goInt], .base (.int _ _)⟩
  · rename_i e id lo len ver hu
    split at h
    · rename_i k es ver' hlk
      split at h
      · rename_i hc
        obtain rfl := Nat.eq_of_beq_eq_true hc
        obtain rfl := Option.some.inj h
        obtain ⟨h3, o', c, vs, t', rfl, h4, h5, h6, h7⟩ := rep_slice hx (hl _ _ hlk)
        exact ⟨_, by simp [Builtin.len_, run_underlying hu, goInt], .base (.int _ _)⟩
      · cases h
    · cases h
  · rename_i e hu
    obtain rfl := Option.some.inj h
    rw [rep_nilslice hx]
    exact ⟨_, by simp [Builtin.len_, run_underlying hu, goInt], .base (.int _ _)⟩
  · rename_i n e hu
    obtain rfl := Option.some.inj h
    exact ⟨_, by cases v <;> simp [Builtin.len_, run_underlying hu, goInt], .base (.int _ _)⟩
  · rename_i s hu
    obtain rfl := Option.some.inj h
    rw [rep_str hx]
    exact ⟨_, by simp [Builtin.len_, run_underlying hu, goInt], .base (.int _ _)⟩
  · cases h

theorem evMaxF_ok (mx : Bool) (k : IntKind) : ∀ (l : List AV) (vs : List Value) (x : Int) (r : AV), evMaxF mx k x l = some r → vs.length = l.length → (∀ i y, l[i]? = some y → Rep A m ρ w y (vs.getD i undef)) →
    ∃ u, (vs.foldlM (if mx then Builtin.max2 else Builtin.min2) (.int k x)).run P w = .ok u w ∧ Rep A m ρ w r u := by
  intro l
  induction l with
  | nil =>
    intro vs x r h hl _
    simp only [evMaxF] at h
    obtain rfl := Option.some.inj h
    obtain rfl : vs = [] := List.length_eq_zero_iff.1 (by simpa using hl)
    exact ⟨_, rfl, .base (.int _ _)⟩
  | cons y l ih =>
    intro vs x r h hl hr
    cases vs with
    | nil => simp at hl
    | cons v vs =>
      have hv := hr 0 y rfl
      simp at hv
      cases y <;> simp only [evMaxF] at h <;> first | (cases h; done) | skip
      rw [rep_int hv]
      obtain ⟨u, h1, h2⟩ := ih vs _ r h (by simpa using hl) (fun i z hz => by simpa using hr (i + 1) z (by simpa using hz))
      refine ⟨u, ?_, h2⟩
      simp only [List.foldlM_cons, Sem.run_bind]
      cases mx
      · simp only [Bool.false_eq_true, if_false, Builtin.min2, Sem.run_pure, Result.andThen_ok] at h1 ⊢
        rename_i k' n
        rw [show (if n < x then n else x) = min x n by split <;> omega]
        exact h1
      · simp only [if_true, Builtin.max2, Sem.run_pure, Result.andThen_ok] at h1 ⊢
        rename_i k' n
        rw [show (if n > x then n else x) = max x n by split <;> omega]
        exact h1

theorem evMax_ok {mx : Bool} {l : List AV} {vs : Array Value} {r : AV} (ts : Array TypeId) (ty : TypeId) (h : evMax mx l = some r) (hs : vs.size = l.length) (hr : ∀ i y, l[i]? = some y → Rep A m ρ w y (vs.getD i undef)) :
    ∃ u, (if mx then Builtin.max_ ts ty vs else Builtin.min_ ts ty vs).run P w = .ok u w ∧ Rep A m ρ w r u := by
  unfold evMax at h
  split at h
  · rename_i k x l
    obtain ⟨vl⟩ := vs
    cases vl with
    | nil => simp at hs
    | cons v vl =>
      have hv := hr 0 _ rfl
      simp at hv
      rw [rep_int hv]
      obtain ⟨u, h1, h2⟩ := evMaxF_ok mx k l vl x r h (by simpa using hs) (fun i z hz => by simpa using hr (i + 1) z (by simpa using hz))
      refine ⟨u, ?_, h2⟩
      cases mx
      · simpa [Builtin.min_] using h1
      · simpa [Builtin.max_] using h1
  · cases h

theorem evExtract_ok {x r : AV} {i : Nat} {v : Value} (h : evExtract x i = some r) (hx : Rep A m ρ w x v) : ∃ u, (Instr.extract v i).run P w = .ok u w ∧ Rep A m ρ w r u := by
  unfold evExtract at h
  split at h
  · obtain ⟨vs, rfl, hs, hr⟩ := rep_tuple hx
    have h1 := (List.getElem?_eq_some_iff.1 h).1
    exact ⟨_, by simp only [Instr.extract]; rw [getD_of (show i < vs.size by omega)]; rfl, hr i r h⟩
  · cases h

theorem bound_ok {d : Int} {τ : Nat → AV} {x : Option Operand} {b : Int} (h : boundOf d (x.map (opd τ)) = some b) (hx : ∀ y, x = some y → Rep A m ρ w (opd τ y) (a.eval y)) : (x = none ∧ b = d) ∨ ∃ y k, x = some y ∧ a.eval y = .int k b := by
  cases x with
  | none => simp only [Option.map_none, boundOf] at h; exact .inl ⟨rfl, (Option.some.inj h).symm⟩
  | some y =>
    simp only [Option.map_some] at h
    have hy := hx y rfl
    generalize opd τ y = z at h hy
    cases z <;> simp only [boundOf] at h <;> first | (cases h; done) | skip
    obtain rfl := Option.some.inj h
    exact .inr ⟨y, _, rfl, rep_int hy⟩

theorem sliceBounds_ok {len cap : Nat} {lo hi : Option Operand} {x y : Int} {dh : Int} (hlo : (lo = none ∧ x = 0) ∨ ∃ z k, lo = some z ∧ a.eval z = .int k x) (hhi : (hi = none ∧ y = dh) ∨ ∃ z k, hi = some z ∧ a.eval z = .int k y) (hd : dh = len)
    (h0 : 0 ≤ x) (h1 : x ≤ y) (h2 : y ≤ cap) : (Instr.sliceBounds true len cap (lo.map a.eval) (hi.map a.eval) none).run P w = .ok (x.toNat, y.toNat, cap) w := by
  subst hd
  rcases hlo with ⟨rfl, rfl⟩ | ⟨z, k, rfl, hz⟩ <;> rcases hhi with ⟨rfl, rfl⟩ | ⟨z', k', rfl, hz'⟩
  · simp [Instr.sliceBounds]
  · simp [Instr.sliceBounds, Instr.sliceBound, hz', asIntOf, h1, h2]
  · simp [Instr.sliceBounds, Instr.sliceBound, hz, asIntOf, h0, h1]
  · have h3 : 0 ≤ y := by omega
    have h4 : ¬ (max y 0 < x) := by omega
    simp [Instr.sliceBounds, Instr.sliceBound, hz, hz', asIntOf, h0, h2, h3, h4]

theorem evSlice_ok {t : TypeId} {x : Operand} {lo hi mx : Option Operand} {τ : Nat → AV} {r : AV} {look : Mem} {ob : List Prop} (hF : Fits A m ρ w) (hl : ∀ id b, look id = some b → m id = some b)
    (h : evSlice P t (opd τ x) (lo.map (opd τ)) (hi.map (opd τ)) (mx.map (opd τ)) look = some (r, ob)) (hob : AllP ob) (hx : Rep A m ρ w (opd τ x) (a.eval x)) (hlo : ∀ y, lo = some y → Rep A m ρ w (opd τ y) (a.eval y)) (hhi : ∀ y, hi = some y → Rep A m ρ w (opd τ y) (a.eval y)) :
    ∃ u, (Instr.sliceAt t (a.eval x) (lo.map a.eval) (hi.map a.eval) (mx.map a.eval)).run P w = .ok u w ∧ Rep A m ρ w r u := by
  cases mx with
  | some y =>
    unfold evSlice at h
    split at h
    · rename_i hmx; simp at hmx
    · cases h
  | none =>
    unfold evSlice at h
    simp only [Option.map_none] at h
    split at h
    · rename_i e hu _
      generalize opd τ x = z at h hx
      generalize a.eval x = v at hx
      have hrun : ∀ b len cap, v = .slice b len cap → (Instr.sliceAt t v (lo.map a.eval) (hi.map a.eval) none).run P w = (Instr.slice t v (lo.map a.eval) (hi.map a.eval) none).run P w := fun b len cap _ => by
        simp only [Instr.sliceAt, Sem.run_bind, run_underlying hu, Result.andThen_ok]
      simp only [Option.map_none]
      split at h
      · rename_i l
        split at h
        · rename_i ei x1 y1 hei hb1 hb2
          cases h
          obtain ⟨⟨h0, h1, h2⟩, hk, -⟩ := hob
          have hl1 := bound_ok hb1 hlo
          have hl2 := bound_ok hb2 hhi
          by_cases hnil : l = []
          · subst hnil
            obtain ⟨a', cap, rfl, hcap⟩ := rep_list hx
            simp only [List.length_nil, Int.natCast_zero] at h2
            obtain rfl : x1 = 0 := by omega
            obtain rfl : y1 = 0 := by omega
            rw [hrun _ _ _ rfl]
            have := sliceBounds_ok (P := P) (w := w) (len := 0) (cap := cap) hl1 hl2 (by simp) (by omega) (by omega) (by omega)
            refine ⟨.slice a' 0 cap, ?_, ?_⟩
            · simp only [Instr.slice, Sem.run_bind, run_underlying hu, Result.andThen_ok, List.length_nil, this, run_sizeOf hei, Sem.run_pure]
              cases a' with
              | none => simp
              | some ad => simp [Addr.add]
            · simpa using hx
          · obtain ⟨b, o', cap, k, xx, rfl, hB, hkk, hxx, hr⟩ := rep_list_at hx hnil
            have hlc : l.length ≤ cap := by
              cases hx with
              | base hx => cases hx with
                | list l b o cap k x hc hB hk hx hr => exact hc
                | lnil a cap h => exact Nat.zero_le _
            have hke : k = ei.size := by
              cases l with
              | nil => exact absurd rfl hnil
              | cons e0 l => rw [← hkk e0 (by simp), hk e0 (by simp)]
            subst hke
            rw [hrun _ _ _ rfl]
            have hb := sliceBounds_ok (P := P) (w := w) (len := l.length) (cap := cap) hl1 hl2 rfl h0 h1 (by omega)
            have hlen : ((l.take y1.toNat).drop x1.toNat).length = y1.toNat - x1.toNat := by simp; omega
            have hel : ∀ i e, ((l.take y1.toNat).drop x1.toNat)[i]? = some e → l[x1.toNat + i]? = some e := fun i e he => by
              rw [List.getElem?_drop, List.getElem?_take] at he
              split at he
              · exact he
              · cases he
            refine ⟨.slice (some (if cap = x1.toNat then ⟨b, o', none⟩ else ⟨b, o' + x1.toNat * ei.size, none⟩)) ((l.take y1.toNat).drop x1.toNat).length (cap - x1.toNat), ?_, .base ?_⟩
            · simp only [Instr.slice, Sem.run_bind, run_underlying hu, Result.andThen_ok, hb, run_sizeOf hei, Sem.run_pure, hlen]
              congr 1
              by_cases hc : cap = x1.toNat
              · rw [if_pos hc, if_pos hc]
              · rw [if_neg hc, if_neg hc]; simp [addr_add]
            · by_cases hc : cap = x1.toNat
              · rw [if_pos hc]
                have hn : (l.take y1.toNat).drop x1.toNat = [] := List.length_eq_zero_iff.1 (by rw [hlen]; omega)
                rw [hn]
                exact .list [] b o' _ ei.size (fun _ _ => undef) (by simp) (fun h => absurd rfl h) (by simp) (fun i e j c h => by simp at h) (fun i e j c h => by simp at h)
              · rw [if_neg hc]
                refine .list _ b _ _ ei.size (fun i j => xx (x1.toNat + i) j) (by rw [hlen]; omega) (fun _ => hB) (fun e he => hkk e ?_) (fun i e j c he hcc => ?_) (fun i e j c he hcc => hr _ e j c (hel i e he) hcc)
                · exact List.mem_of_mem_take (List.mem_of_mem_drop he)
                · rw [← hxx _ e j c (hel i e he) hcc]
                  congr 2
                  rw [Nat.add_mul]; omega
        · cases h
      · rename_i id l0 len ver
        split at h
        · rename_i k es ver' hlk
          split at h
          · rename_i ei x1 y1 hei hb1 hb2
            split at h
            · rename_i hc
              simp only [Bool.and_eq_true, Nat.beq_eq] at hc
              obtain ⟨rfl, rfl⟩ := hc
              cases h
              obtain ⟨⟨h0, h1, h2⟩, -⟩ := hob
              have hm := hl _ _ hlk
              obtain ⟨h3, o', c, vs, t', rfl, h4, h5, h6, h7⟩ := rep_slice hx hm
              rw [hrun _ _ _ rfl]
              have hb := sliceBounds_ok (P := P) (w := w) (len := len) (cap := c) (bound_ok hb1 hlo) (bound_ok hb2 hhi) rfl h0 h1 (by omega)
              refine ⟨.slice (some (if c = x1.toNat then ⟨ρ id, o', none⟩ else ⟨ρ id, o' + x1.toNat * ei.size, none⟩)) (y1.toNat - x1.toNat) (c - x1.toNat), ?_, ?_⟩
              · simp only [Instr.slice, Sem.run_bind, run_underlying hu, Result.andThen_ok, hb, run_sizeOf hei, Sem.run_pure]
                congr 1
                by_cases hc : c = x1.toNat
                · rw [if_pos hc, if_pos hc]
                · rw [if_neg hc, if_neg hc]; simp [addr_add]
              · refine .slice id _ _ ver ei.size es ver _ _ _ hm (Nat.le_refl _) (fun _ => ⟨by omega, rfl, if c = x1.toNat then o' else o' + x1.toNat * ei.size, vs, t', by split <;> rfl, fun hcc => ?_, by omega, h6, ?_⟩)
                · rw [if_neg (by omega), h4 (by omega), Nat.add_mul]
                · rw [show l0 + x1.toNat + (c - x1.toNat) = l0 + c by omega]; exact h7
            · cases h
          · cases h
        · cases h
      · split at h
        · rename_i ei x1 y1 hei hb1 hb2
          cases h
          obtain ⟨⟨rfl, rfl⟩, -⟩ := hob
          rw [rep_nilslice hx] at hrun ⊢
          rw [hrun _ _ _ rfl]
          have hb := sliceBounds_ok (P := P) (w := w) (len := 0) (cap := 0) (bound_ok hb1 hlo) (bound_ok hb2 hhi) rfl (by omega) (by omega) (by omega)
          refine ⟨.slice none 0 0, ?_, .base .nilslice⟩
          simp only [Instr.slice, Sem.run_bind, run_underlying hu, Result.andThen_ok, hb, run_sizeOf hei, Sem.run_pure]
          simp
        · cases h
      · cases h
    · cases h

end
end Go.Proofs.Ytkijlggnnbdeiaa
