/- Calls, and regions in the order of the text. For every program. -/
import Derived.Test.YtkijlggnnbdeiaaEvK
set_option linter.unusedVariables false
set_option linter.unusedSimpArgs false
namespace Go.Proofs.Ytkijlggnnbdeiaa
open Go.RowKit

/-! ### Calls -/

def inl0 (look : Mem) : AV → Option (AV × List Prop × Bool)
  | .slice id lo len ver => match look id with
    | some (.row _ es ver') => if Nat.beq ver ver' then some (.list ((es.drop lo).take len), [∀ e ∈ es, idsOf e = []], true) else none
    | _ => none
  | v => if (idsOf v).isEmpty then some (v, [], false) else none

def liftL (g : AV → Option (AV × List Prop × Bool)) : List AV → Option (List AV × List Prop × Bool)
  | [] => some ([], [], false)
  | v :: l => match g v, liftL g l with
    | some (x, o, b), some (xs, os, bs) => some (x :: xs, o ++ os, b || bs)
    | _, _ => none

/-- An own variable is lent to be read. -/
def inlP (look : Mem) : AV → Option (AV × List Prop × Bool)
  | .ptr id off => match look id with
    | some (.cells cs) => match liftL (inl0 look) cs with
      | some (xs, o, _) => some (.ptrIn (.agg xs) off, o, true)
      | none => none
    | _ => none
  | v => inl0 look v

def inl1 (look : Mem) : AV → Option (AV × List Prop × Bool)
  | .func f p c => match liftL (inlP look) p, liftL (inlP look) c with
    | some (ps, o1, b1), some (cs, o2, b2) => some (.func f ps cs, o1 ++ o2, b1 || b2)
    | _, _ => none
  | v => inlP look v

def inl (look : Mem) : AV → Option (AV × List Prop × Bool)
  | .agg cs => match liftL (inl1 look) cs with
    | some (xs, o, b) => some (.agg xs, o, b)
    | none => none
  | v => inl1 look v

def inlArgs (look : Mem) : List AV → Option (List AV × List Prop × Bool) := liftL (inl look)

def lentOb (b : Bool) (r : AV) (R : List Blk) : List Prop := if b then [plainV r = true, ∀ x ∈ R, PlainB x] else []

def shiftR (n : Nat) (r : AV) : List Blk → AV
  | [] => r
  | _ => shiftV n r

/-- What a function gives for values that bear no names: the result bears none either; if `fr`, it lies in no block that was there. -/
def FnF (P : Program) (f : FuncId) (fr : Bool) (args : List AV) (r : AV) : Prop :=
  callable P f = true ∧ ∀ (B : Nat → Prop) (w : World) (vs : Array Value), vs.size = args.length → (∀ i x, args[i]? = some x → RI w (fun b => B b ∧ b < w.heap.size) x (vs.getD i undef)) →
    Calls P f vs w fun e w' => ∃ v, e = .returned v ∧ Below w.heap.size w w' ∧ RI w' (fun b => (w.heap.size ≤ b ∨ fr = false ∧ B b) ∧ b < w'.heap.size) r v

/-- Blocks of a result under new names: rows bear none within. -/
def shiftC (n : Nat) : Blk → Blk
  | .cells cs => .cells (shiftL n cs)
  | .row k es ver => .row k es ver
def freeOb : List Blk → List Prop
  | [] => []
  | .cells _ :: l => freeOb l
  | .row _ es _ :: l => (∀ e ∈ es, idsOf e = []) :: freeOb l

mutual
theorem shiftV_id (n : Nat) : ∀ (x : AV), idsOf x = [] → shiftV n x = x
  | .agg cs, h => by simp only [shiftV]; rw [shiftL_id n cs (by simpa [idsOf] using h)]
  | .tuple cs, h => by simp only [shiftV]; rw [shiftL_id n cs (by simpa [idsOf] using h)]
  | .func f p c, h => by
    simp only [idsOf, List.append_eq_nil_iff] at h
    simp only [shiftV]; rw [shiftL_id n p h.1, shiftL_id n c h.2]
  | .iface t v, h => by simp only [shiftV]; rw [shiftV_id n v (by simpa [idsOf] using h)]
  | .ptr _ _, h => by simp [idsOf] at h
  | .ptrR _ _ _ _, h => by simp [idsOf] at h
  | .slice _ _ _ _, h => by simp [idsOf] at h
  | .map _, h => by simp [idsOf] at h
  | .any, _ => by simp [shiftV]
  | .bool _, _ => by simp [shiftV]
  | .int _ _, _ => by simp [shiftV]
  | .str _, _ => by simp [shiftV]
  | .nilptr, _ => by simp [shiftV]
  | .nilslice, _ => by simp [shiftV]
  | .nilfunc, _ => by simp [shiftV]
  | .niliface, _ => by simp [shiftV]
  | .nilmap, _ => by simp [shiftV]
  | .ptrIn _ _, _ => by simp [shiftV]
  | .list _, _ => by simp [shiftV]
theorem shiftL_id (n : Nat) : ∀ (l : List AV), idsL l = [] → shiftL n l = l
  | [], _ => by simp [shiftL]
  | v :: l, h => by
    simp only [idsL, List.append_eq_nil_iff] at h
    simp only [shiftL]; rw [shiftV_id n v h.1, shiftL_id n l h.2]
end
theorem idsL_free : ∀ {l : List AV}, (∀ e ∈ l, idsOf e = []) → idsL l = []
  | [], _ => rfl
  | v :: l, h => by simp only [idsL]; rw [h v List.mem_cons_self, idsL_free fun e he => h e (List.mem_cons_of_mem _ he)]; rfl
theorem shiftC_is (n : Nat) : ∀ (R : List Blk), AllP (freeOb R) → R.map (shiftC n) = R.map (shiftB n)
  | [], _ => rfl
  | .cells cs :: l, h => by simp only [List.map_cons, shiftC, shiftB]; rw [shiftC_is n l h]
  | .row k es ver :: l, h => by
    have h : (∀ e ∈ es, idsOf e = []) ∧ AllP (freeOb l) := h
    simp only [List.map_cons, shiftC, shiftB]; rw [shiftC_is n l h.2, shiftL_id n es (idsL_free h.1)]

def evCall (P : Program) (look : Mem) (n0 : Nat) (fv : AV) (args : List AV) (s : Sup) : Option ORes :=
  match fv, s with
  | .func (.func f) p c, .f fr r => match inlArgs look (p ++ args ++ c) with
    | some (xs, ob, b) => if fr || !b then some ⟨r, none, [], FnF P f fr xs r :: ob⟩ else none
    | none => none
  | .func (.func f) p c, .c r R => match inlArgs look (p ++ args ++ c) with
    | some (xs, ob, b) => some ⟨shiftR n0 r R, none, R.map (shiftC n0), FnM P f [] xs r R :: (lentOb b r R ++ (freeOb R ++ ob))⟩
    | none => none
  | _, _ => none

/-- What a function that the model itself gives answers. -/
def ExtF (P : Program) (f : FuncId) (args : List AV) (r : AV) : Prop :=
  ∀ (w : World) (vs : Array Value), vs.size = args.length → (∀ i x, args[i]? = some x → RI w (fun _ => False) x (vs.getD i undef)) → ∃ v, (callFunc f vs).run P w = .ok (.value v) w ∧ RI w (fun _ => False) r v

/-- A method of a type. -/
def InvP (P : Program) (t : TypeId) (name : String) (f : FuncId) : Prop := ∀ (v : Value) (args : Array Value) (w : World), (callMethod (.iface t v) name args).run P w = .ok (.enter f (#[v] ++ args)) w

def evExt (P : Program) (look : Mem) (fv : AV) (args : List AV) (r : AV) : Option ORes :=
  match fv with
  | .func (.func f) p c => match inlArgs look (p ++ args ++ c) with
    | some (xs, ob, _) => if plainL xs then some ⟨r, none, [], ExtF P f xs r :: ob⟩ else none
    | none => none
  | _ => none

def evInv (P : Program) (look : Mem) (recv : AV) (name : String) (args : List AV) (f : FuncId) (fr : Bool) (r : AV) : Option ORes :=
  match recv with
  | .iface t v => match inlArgs look (v :: args) with
    | some (xs, ob, b) => if fr || !b then some ⟨r, none, [], InvP P t name f :: FnF P f fr xs r :: ob⟩ else none
    | none => none
  | _ => none

def evAny (P : Program) (op : Op) (ty : TypeId) (τ : Nat → AV) (look : Mem) (n0 : Nat) (s : Sup) : Option ORes :=
  match op with
  | .call { callee := .value f, args, argTypes := _ } => match s with
    | .x r => evExt P look (opd τ f) (args.toList.map (opd τ)) r
    | s => evCall P look n0 (opd τ f) (args.toList.map (opd τ)) s
  | .call { callee := .invoke f name, args, argTypes := _ } => match s with
    | .iv g fr r => evInv P look (opd τ f) name (args.toList.map (opd τ)) g fr r
    | _ => none
  | op => (evOp P op ty τ look n0 s).map (fin s)

/-- A block of the text's own that is lent. -/
def LentP (look : Mem) (ρ : Nat → Nat) (b : Bool) (q : Nat) : Prop := b = true ∧ ∃ id blk, look id = some blk ∧ ρ id = q
section
variable {P : Program} {A : Nat → Prop} {m : Mem} {ρ : Nat → Nat} {w : World} {a : Act} {o : Oper} {n0 : Nat}

theorem LentP.lt {look : Mem} {b : Bool} {q : Nat} (hF : Fits A m ρ w) (hl : ∀ id b, look id = some b → m id = some b) (h : LentP look ρ b q) : q < w.heap.size := by
  obtain ⟨_, id, blk, h1, rfl⟩ := h
  exact hF.lt (by rw [hl _ _ h1]; simp)
theorem LentP.or {look : Mem} {b b' : Bool} {q : Nat} (hb : b = true → b' = true) (h : LentP look ρ b q ∨ Alien A m ρ w q) : LentP look ρ b' q ∨ Alien A m ρ w q := by
  rcases h with ⟨h1, h2⟩ | h
  · exact .inl ⟨hb h1, h2⟩
  · exact .inr h

theorem inl0_ok {look : Mem} {x y : AV} {ob : List Prop} {b : Bool} {v : Value} (hF : Fits A m ρ w) (hl : ∀ id b, look id = some b → m id = some b) (h : inl0 look x = some (y, ob, b)) (hob : AllP ob) (hx : Rep A m ρ w x v) :
    RI w (fun q => LentP look ρ b q ∨ Alien A m ρ w q) y v := by
  have gen : ∀ {x : AV}, (if (idsOf x).isEmpty then some (x, ([] : List Prop), false) else none) = some (y, ob, b) → Rep A m ρ w x v → RI w (fun q => LentP look ρ b q ∨ Alien A m ρ w q) y v := fun h hx => by
    split at h
    · rename_i hi
      cases h
      exact (hx.ri (by simpa using hi)).mono (fun q hq => .inr hq) (fun _ _ _ => rfl)
    · cases h
  unfold inl0 at h
  split at h
  · rename_i id lo len ver
    split at h
    · rename_i k es ver' hlk
      split at h
      · rename_i hc
        obtain rfl := Nat.eq_of_beq_eq_true hc
        cases h
        have hm := hl _ _ hlk
        obtain ⟨h3, o', c, vs, t', rfl, h4, h5, h6, h7⟩ := rep_slice hx hm
        obtain ⟨h8, vs2, t2, h9, hR⟩ := row_of_fits hF hm
        rw [h6] at h9
        cases h9
        have hlen : ((es.drop lo).take len).length = len := by simp; omega
        have hlt : ρ id < w.heap.size := hF.lt (by rw [hm]; simp)
        have hel : ∀ i e, ((es.drop lo).take len)[i]? = some e → es[lo + i]? = some e ∧ i < len := fun i e he => by
          rw [List.getElem?_take] at he
          split at he
          · rw [List.getElem?_drop] at he; exact ⟨he, by assumption⟩
          · cases he
        have := RI.list (w := w) (B := fun q => LentP look ρ true q ∨ Alien A m ρ w q) ((es.drop lo).take len) (ρ id) o' c k (fun i j => vs.getD ((lo + i) * k + j) undef) (by omega) (fun _ => .inl ⟨rfl, _, _, hlk, rfl⟩)
          (fun e he => hR.len e (List.mem_of_mem_drop (List.mem_of_mem_take he))) (fun i e j c' he hc' => by
            obtain ⟨e1, e2⟩ := hel i e he
            have hlt2 := (hR.lt e1 hc').1
            rw [cell_of_cells h6, h4 (by omega), ← getD_of hlt2, Nat.add_mul]) (fun i e j c' he hc' => by
            obtain ⟨e1, e2⟩ := hel i e he
            have hid : idsOf c' = [] := by
              have h10 := hob.1 e (List.mem_iff_getElem?.2 ⟨_, e1⟩)
              rw [List.eq_nil_iff_forall_not_mem]
              intro n hn
              have : n ∈ idsOf e := by
                cases e with
                | agg cs => simp only [idsOf]; exact idsL_get hc' hn
                | _ =>
                  simp only [cellsOf] at hc'
                  obtain ⟨q1, q2⟩ := List.getElem?_eq_some_iff.1 hc'
                  have : j = 0 := by simp at q1; omega
                  subst this
                  simp at q2
                  rw [← q2] at hn; exact hn
              rw [h10] at this; cases this
            exact ((hR.at_ _ e j c' e1 hc').ri hid).mono (fun q hq => .inr hq) (fun _ _ _ => rfl))
        rw [hlen] at this
        exact this
      · cases h
    · cases h
  · exact gen h hx

theorem liftL_ok {look : Mem} {g : AV → Option (AV × List Prop × Bool)} (hg : ∀ v y ob b, g v = some (y, ob, b) → AllP ob → ∀ u, Rep A m ρ w v u → RI w (fun q => LentP look ρ b q ∨ Alien A m ρ w q) y u) :
    ∀ (l : List AV) (ys : List AV) (ob : List Prop) (b : Bool), liftL g l = some (ys, ob, b) → AllP ob → ys.length = l.length ∧
    ∀ (x : Nat → Value), (∀ i c, l[i]? = some c → Rep A m ρ w c (x i)) → ∀ i c, ys[i]? = some c → RI w (fun q => LentP look ρ b q ∨ Alien A m ρ w q) c (x i) := by
  intro l
  induction l with
  | nil =>
    intro ys ob b h _
    simp only [liftL] at h
    cases h
    exact ⟨rfl, fun x _ i c hc => by simp at hc⟩
  | cons v l ih =>
    intro ys ob b h hob
    simp only [liftL] at h
    split at h
    · rename_i y o1 b1 xs os bs h1 h2
      cases h
      obtain ⟨hob1, hob2⟩ := AllP.append hob
      obtain ⟨e1, e2⟩ := ih _ _ _ h2 hob2
      refine ⟨by simp [e1], fun x hx i c hc => ?_⟩
      cases i with
      | zero =>
        simp at hc; subst hc
        exact (hg _ _ _ _ h1 hob1 _ (hx 0 v rfl)).mono (fun q hq => LentP.or (by simp_all) hq) (fun _ _ _ => rfl)
      | succ i =>
        simp at hc
        exact (e2 (fun i => x (i + 1)) (fun i c hc => hx (i + 1) c (by simpa using hc)) i c hc).mono (fun q hq => LentP.or (by simp_all) hq) (fun _ _ _ => rfl)
    · cases h

theorem inlP_ok {look : Mem} (hF : Fits A m ρ w) (hl : ∀ id b, look id = some b → m id = some b) (v y : AV) (ob : List Prop) (b : Bool) (h : inlP look v = some (y, ob, b)) (hob : AllP ob) (u : Value) (hx : Rep A m ρ w v u) :
    RI w (fun q => LentP look ρ b q ∨ Alien A m ρ w q) y u := by
  unfold inlP at h
  split at h
  · rename_i id off
    split at h
    · rename_i cs hlk
      split at h
      · rename_i xs o b1 h1
        cases h
        have hm := hl _ _ hlk
        obtain ⟨rfl, _⟩ := rep_ptr hx
        obtain ⟨vs, t, h2, h3, h4⟩ := hF.at_ id _ hm
        have hlt : ρ id < w.heap.size := hF.lt (by rw [hm]; simp)
        obtain ⟨e1, e2⟩ := liftL_ok (fun v y ob b h hob u hu => inl0_ok hF hl h hob hu) _ _ _ _ h1 hob
        have := RI.ptrIn (w := w) (B := fun q => LentP look ρ true q ∨ Alien A m ρ w q) (.agg xs) off (ρ id) 0 (fun j => vs.getD j undef) (.inl ⟨rfl, _, _, hlk, rfl⟩) (fun j c hc => by
          have hj : j < vs.size := by
            have := (List.getElem?_eq_some_iff.1 (show xs[j]? = some c from hc)).1
            omega
          rw [cell_of_cells h2, Nat.zero_add]; exact getD_of hj) (fun j c hc => by
          exact (e2 (fun j => vs.getD j undef) h4 j c hc).mono (fun q hq => LentP.or (fun _ => rfl) hq) (fun _ _ _ => rfl))
        rw [Nat.zero_add] at this
        exact this
      · cases h
    · cases h
  · exact inl0_ok hF hl h hob hx

theorem inl1_ok {look : Mem} (hF : Fits A m ρ w) (hl : ∀ id b, look id = some b → m id = some b) (v y : AV) (ob : List Prop) (b : Bool) (h : inl1 look v = some (y, ob, b)) (hob : AllP ob) (u : Value) (hx : Rep A m ρ w v u) :
    RI w (fun q => LentP look ρ b q ∨ Alien A m ρ w q) y u := by
  unfold inl1 at h
  split at h
  · rename_i f p c
    split at h
    · rename_i ps o1 b1 cs o2 b2 h1 h2
      cases h
      obtain ⟨hob1, hob2⟩ := AllP.append hob
      obtain ⟨pv, cv, rfl, hps, hcs, hp, hc⟩ := rep_func hx
      obtain ⟨e1, e2⟩ := liftL_ok (inlP_ok hF hl) _ _ _ _ h1 hob1
      obtain ⟨e3, e4⟩ := liftL_ok (inlP_ok hF hl) _ _ _ _ h2 hob2
      refine .func f ps cs pv cv (by omega) (by omega) (fun i x hi => ?_) (fun i x hi => ?_)
      · exact (e2 (fun i => pv.getD i undef) hp i x hi).mono (fun q hq => LentP.or (by simp_all) hq) (fun _ _ _ => rfl)
      · exact (e4 (fun i => cv.getD i undef) hc i x hi).mono (fun q hq => LentP.or (by simp_all) hq) (fun _ _ _ => rfl)
    · cases h
  · exact inlP_ok hF hl v y ob b h hob u hx

theorem inl_ok {look : Mem} (hF : Fits A m ρ w) (hl : ∀ id b, look id = some b → m id = some b) (v y : AV) (ob : List Prop) (b : Bool) (h : inl look v = some (y, ob, b)) (hob : AllP ob) (u : Value) (hx : Rep A m ρ w v u) :
    RI w (fun q => LentP look ρ b q ∨ Alien A m ρ w q) y u := by
  unfold inl at h
  split at h
  · split at h
    · rename_i cs xs o1 b1 h1
      cases h
      obtain ⟨vs, rfl, hs, hr⟩ := rep_agg hx
      obtain ⟨e1, e2⟩ := liftL_ok (inl1_ok hF hl) _ _ _ _ h1 hob
      exact .agg _ vs (by omega) fun i c hc => e2 (fun i => vs.getD i undef) hr i c hc
    · cases h
  · exact inl1_ok hF hl v y ob b h hob u hx

theorem inlArgs_ok {look : Mem} (hF : Fits A m ρ w) (hl : ∀ id b, look id = some b → m id = some b) (l : List AV) (ys : List AV) (ob : List Prop) (b : Bool) (h : inlArgs look l = some (ys, ob, b)) (hob : AllP ob) : ys.length = l.length ∧
    ∀ (x : Nat → Value), (∀ i c, l[i]? = some c → Rep A m ρ w c (x i)) → ∀ i c, ys[i]? = some c → RI w (fun q => LentP look ρ b q ∨ Alien A m ρ w q) c (x i) := liftL_ok (inl_ok hF hl) l ys ob b h hob

theorem callable_ok {f : FuncId} (h : callable P f = true) (args : Array Value) (w : World) : (callFunc f args).run P w = .ok (.enter f args) w := by
  unfold callable at h
  split at h
  · rename_i fn hf
    simp only [Bool.and_eq_true, bne_iff_ne, ne_eq] at h
    obtain ⟨h1, h2⟩ := h
    have h3 : (fn.name == "runtime.NumGoroutine") = false := by simpa using h1
    have h4 : fn.body.isNone = false := by cases hb : fn.body <;> simp_all
    have h5 : fn.body ≠ none := by cases hb : fn.body <;> simp_all
    simp [callFunc, hf, h1, h5]
  · cases h

theorem shift_nil {R : List Blk} {ρ' : Nat → Nat} {w' : World} {A' : Nat → Prop} {r : AV} {v : Value} {m2 : Mem} {ρ2 : Nat → Nat} (h : Rep A' (memL []) ρ' w' r v) (ha : ∀ b, Alien A' (memL []) ρ' w' b → Alien A m2 ρ2 w' b) : Rep A m2 ρ2 w' r v := by
  have key : ∀ {x : AV} {v : Value}, Rep A' (memL []) ρ' w' x v → RI w' (Alien A' (memL []) ρ' w') x v := fun h => by
    induction h with
    | base h => exact h
    | ptr id off cs h => simp [memL] at h
    | ptrR id ver i off k es ver' a h => simp [memL] at h
    | slice id lo len ver k es ver' a n c h => simp [memL] at h
    | agg cs vs hs h ih => exact .agg cs vs hs ih
    | tuple cs vs hs h ih => exact .tuple cs vs hs ih
    | func f p c ps cs hp hc h k ih ik => exact .func f p c ps cs hp hc ih ik
    | iface t x v h ih => exact .iface t x v ih
  exact .base ((key h).mono ha (fun _ _ _ => rfl))

theorem call_core {args : Array Operand} {τ : Nat → AV} {look : Mem} {fv : Value} {fid : FuncId} {p c : List AV} {xs : List AV} {ob : List Prop} {b : Bool} (hF : Fits A m ρ w) (hl : ∀ id b, look id = some b → m id = some b)
    (hin : inlArgs look (p ++ args.toList.map (opd τ) ++ c) = some (xs, ob, b)) (hob : AllP ob) (hf : Rep A m ρ w (.func (.func fid) p c) fv) (ha : ∀ x ∈ args, Rep A m ρ w (opd τ x) (a.eval x)) :
    ∃ ps cs : Array Value, fv = .func (.func fid) ps cs ∧ (ps ++ args.map a.eval ++ cs).size = xs.length ∧ ∀ i x, xs[i]? = some x → RI w (fun q => LentP look ρ b q ∨ Alien A m ρ w q) x ((ps ++ args.map a.eval ++ cs).getD i undef) := by
  obtain ⟨hs1, hr1⟩ := args_rep ha
  obtain ⟨ps, cs, hfe, hps, hcs, hpr, hcr⟩ := rep_func hf
  let vs : Array Value := ps ++ args.map a.eval ++ cs
  have hvs : vs.size = (p ++ args.toList.map (opd τ) ++ c).length := by simp [vs, hps, hcs]
  have hvr : ∀ i x, (p ++ args.toList.map (opd τ) ++ c)[i]? = some x → Rep A m ρ w x (vs.getD i undef) := fun i x hx => by
    simp only [vs]
    rw [Array.getD_eq_getD_getElem?]
    by_cases h1 : i < p.length
    · rw [List.append_assoc, List.getElem?_append_left h1] at hx
      rw [Array.append_assoc, Array.getElem?_append_left (by omega), ← Array.getD_eq_getD_getElem?]
      exact hpr i x hx
    · by_cases h2 : i < p.length + args.size
      · rw [List.getElem?_append_left (by simp; omega), List.getElem?_append_right (by omega)] at hx
        rw [Array.getElem?_append_left (by simp; omega), Array.getElem?_append_right (by omega), hps, ← Array.getD_eq_getD_getElem?]
        exact hr1 _ x hx
      · rw [List.getElem?_append_right (by simp; omega)] at hx
        rw [Array.getElem?_append_right (by simp; omega), ← Array.getD_eq_getD_getElem?]
        have := hcr _ x hx
        simpa [hps] using this
  obtain ⟨e1, e2⟩ := inlArgs_ok hF hl _ _ _ _ hin hob
  exact ⟨ps, cs, hfe, hvs.trans e1.symm, e2 (fun i => vs.getD i undef) hvr⟩

theorem enter_fr {ro : Option Nat} {fid : FuncId} {vs : Array Value} {K : Act → World → Prop} {Q : Exit → Act → World → Prop} (h : (execOp a.eval o).run P w = .ok (.enter fid vs) w) (hc : Calls P fid vs w fun
    | .returned v, w'' => K (a.put o.dst v) w''
    | .panicked chain, w'' => Q (.panic chain) a w''
    | .outgrown, _ => LetsOut Q) : o.wpIn (FR ro) 0 P a w K Q := by
  refine ⟨fun _ _ => trivial, ?_⟩
  rw [show (FR ro).round = ro from rfl, sem_at h (fun d => by simp)]
  exact ⟨fun h => (by cases h), calls_fr ro _ hc⟩

theorem call_ok {f : Operand} {args : Array Operand} {ts : Array TypeId} {τ : Nat → AV} {look : Mem} {s : Sup} {r : ORes} (hF : Fits A m ρ w) (hup : ∀ b, w.heap.size ≤ b → A b) (hl : ∀ id b, look id = some b → m id = some b) (hn : ∀ j, j < r.ns.length → m (n0 + j) = none)
    (ho : o.op = .call { callee := .value f, args := args, argTypes := ts }) (h : evCall P look n0 (opd τ f) (args.toList.map (opd τ)) s = some r) (hob : AllP r.ob) (hf : Rep A m ρ w (opd τ f) (a.eval f)) (ha : ∀ x ∈ args, Rep A m ρ w (opd τ x) (a.eval x)) :
    OpPost P A m ρ w a o n0 r := by
  intro ro K Q hK
  have hrun : ∀ {fid : FuncId} {ps cs : Array Value}, callable P fid = true → a.eval f = .func (.func fid) ps cs → (execOp a.eval o).run P w = .ok (.enter fid (ps ++ args.map a.eval ++ cs)) w := fun hcal hfe => by
    simp only [execOp, ho, resolve, hfe, Deferred.ofValue, Sem.run_bind, Sem.run_pure, Result.andThen_ok, invoke]
    exact callable_ok hcal _ w
  have nm : ∀ {i : Nat}, ¬ (memL [] i ≠ none) := fun h => h (by simp [memL])
  have h0 : ∀ {A' : Nat → Prop} {ρ : Nat → Nat} {w : World}, Fits A' (memL []) ρ w := ⟨fun i j hi => absurd hi nm, fun id b hb => by simp [memL] at hb⟩
  have fin : ∀ {R : List Blk} {rr : AV} {v : Value} {w' : World} {ρc : Nat → Nat} {A' : Nat → Prop} (_ : r = ⟨shiftR n0 rr R, none, R.map (shiftB n0), r.ob⟩), Ext (memL []) ρ w (memL []) ρ w → Ext (memL []) ρ w (memL R) ρc w' → Fits A' (memL R) ρc w' → Rep A' (memL R) ρc w' rr v → (∀ b, A' b → w.heap.size ≤ b ∨ Alien A m ρ w b) → K (a.put o.dst v) w' := fun {R rr v w' ρc A'} hr _ hE h1 h2 h3 => by
    rw [hr] at hK hn
    obtain ⟨ρ', s1, s2, s3, s4⟩ := step_call hF hup (fun j hj => hn j (by simpa using hj)) hE h1 h3 h2
    refine hK v ρ' w' s1 s2 ?_
    show Rep A _ ρ' w' (shiftR n0 rr R) v
    cases R with
    | nil => exact shift_nil (R := []) h2 s4
    | cons _ _ => exact s3
  unfold evCall at h
  split at h
  · rename_i fid p c fr rr hfv
    split at h
    · rename_i xs ob b hin
      split at h
      · rename_i hfb
        cases h
        obtain ⟨⟨hcal, hfn⟩, hob2⟩ := hob
        rw [hfv] at hf
        obtain ⟨ps, cs, hfe, hsz, hri⟩ := call_core hF hl hin hob2 hf ha
        refine enter_fr (hrun hcal hfe) ?_
        refine (hfn (fun q => LentP look ρ b q ∨ Alien A m ρ w q) w _ hsz (fun i x hx => (hri i x hx).mono (fun q hq => ⟨hq, by rcases hq with h | h; exact h.lt hF hl; exact h.2.1⟩) (fun _ _ _ => rfl))).mono ?_
        rintro e w' ⟨v, rfl, hb, hR⟩
        refine fin (R := []) (rr := rr) (ρc := ρ) (A' := fun q => w.heap.size ≤ q ∨ fr = false ∧ (LentP look ρ b q ∨ Alien A m ρ w q)) rfl (.refl _ _ _) ⟨hb.os, hb.tape, hb.output, hb.size, fun k hk _ => hb.block k hk, fun id hid => absurd hid nm, fun id b hb => by simp [memL] at hb⟩ h0
          (.base (hR.mono (fun q hq => ⟨hq.1, hq.2, fun id hid => absurd hid nm⟩) (fun _ _ _ => rfl))) ?_
        rintro q (h | ⟨h1, h2⟩)
        · exact .inl h
        · subst h1
          rcases h2 with ⟨h3, _⟩ | h3
          · subst h3; cases hfb
          · exact .inr h3
      · cases h
    · cases h
  · rename_i fid p c rr R hfv
    split at h
    · rename_i xs ob b hin
      cases h
      obtain ⟨⟨hcal, hfn⟩, hob2⟩ := hob
      obtain ⟨hlent, hob4⟩ := AllP.append hob2
      obtain ⟨hfree, hob3⟩ := AllP.append hob4
      have hsc := shiftC_is n0 R hfree
      rw [hfv] at hf
      obtain ⟨ps, cs, hfe, hsz, hri⟩ := call_core hF hl hin hob3 hf ha
      refine enter_fr (hrun hcal hfe) ?_
      refine (hfn (fun q => LentP look ρ b q ∨ Alien A m ρ w q) ρ w _ h0 hsz (fun i x hx => .base ((hri i x hx).mono (fun q hq => ⟨.inl hq, by rcases hq with h | h; exact h.lt hF hl; exact h.2.1, fun id hid => absurd hid nm⟩) (fun _ _ _ => rfl)))).mono ?_
      · rintro e w' ⟨v, ρc, rfl, hE, hFR, hRR⟩
        show K (a.put o.dst v) w'
        cases b with
        | true =>
          have hl1 : plainV rr = true := hlent.1
          have hl2 : ∀ x ∈ R, PlainB x := hlent.2.1
          exact fin (R := R) (rr := rr) (A' := fun _ => False) (by rw [hsc]) (.refl _ _ _) hE (hFR.plain fun id b hb => hl2 b (List.mem_iff_getElem?.2 ⟨id, hb⟩)) (hRR.plain hl1) (fun _ h => h.elim)
        | false =>
          refine fin (R := R) (rr := rr) (by rw [hsc]) (.refl _ _ _) hE hFR hRR (fun q hq => ?_)
          rcases hq with (⟨h, _⟩ | h) | h
          · cases h
          · exact .inr h
          · exact .inl h
    · cases h
  · cases h

theorem calls_enter {ro : Option Nat} {fid : FuncId} {vs : Array Value} {K : Act → World → Prop} {Q : Exit → Act → World → Prop} (h : (execOp a.eval o).run P w = .ok (.enter fid vs) w) (hc : Calls P fid vs w fun e w' => ∃ v, e = .returned v ∧ K (a.put o.dst v) w') : o.wpIn (FR ro) 0 P a w K Q :=
  enter_fr h (hc.mono fun e w' ⟨v, he, hk⟩ => by subst he; exact hk)

theorem one_app0 (x : Value) (l : Array Value) : (#[x] ++ l)[0]? = some x := by rw [Array.getElem?_append_left (by simp)]; rfl
theorem one_app1 (x : Value) (l : Array Value) : (#[x] ++ l).extract 1 (#[x] ++ l).size = l := by
  apply Array.ext'
  simp

theorem inv_ok {f : Operand} {name : String} {args : Array Operand} {ts : Array TypeId} {τ : Nat → AV} {look : Mem} {g : FuncId} {fr : Bool} {rr : AV} {r : ORes} (hF : Fits A m ρ w) (hup : ∀ b, w.heap.size ≤ b → A b) (hl : ∀ id b, look id = some b → m id = some b)
    (ho : o.op = .call { callee := .invoke f name, args := args, argTypes := ts }) (h : evInv P look (opd τ f) name (args.toList.map (opd τ)) g fr rr = some r) (hob : AllP r.ob) (hf : Rep A m ρ w (opd τ f) (a.eval f)) (ha : ∀ x ∈ args, Rep A m ρ w (opd τ x) (a.eval x)) :
    OpPost P A m ρ w a o n0 r := by
  intro ro K Q hK
  unfold evInv at h
  split at h
  · rename_i t x hfv
    split at h
    · rename_i xs ob b hin
      split at h
      · rename_i hfb
        cases h
        obtain ⟨hinv, ⟨hcal, hfn⟩, hob2⟩ := hob
        rw [hfv] at hf
        obtain ⟨u, hfe, hu⟩ := rep_iface hf
        obtain ⟨hs1, hr1⟩ := args_rep ha
        obtain ⟨e1, e2⟩ := inlArgs_ok hF hl _ _ _ _ hin hob2
        have hvr : ∀ i c, (x :: args.toList.map (opd τ))[i]? = some c → Rep A m ρ w c ((#[u] ++ args.map a.eval).getD i undef) := fun i c hc => by
          rw [Array.getD_eq_getD_getElem?]
          cases i with
          | zero => simp at hc; subst hc; rw [one_app0]; exact hu
          | succ i =>
            have := hr1 i c (by simpa using hc)
            rw [Array.getD_eq_getD_getElem?] at this
            rw [Array.getElem?_append_right (by simp)]
            simpa using this
        refine calls_enter (fid := g) (vs := #[u] ++ args.map a.eval) ?_ ?_
        · simp only [execOp, ho, resolve, hfe, Sem.run_bind, Sem.run_pure, Result.andThen_ok, invoke]
          have := hinv u (args.map a.eval) w
          rw [one_app0]
          simp only
          rw [one_app1]
          exact this
        · refine (hfn (fun q => LentP look ρ b q ∨ Alien A m ρ w q) w _ (by rw [e1]; simp; omega) (fun i c hc => (e2 (fun i => (#[u] ++ args.map a.eval).getD i undef) hvr i c hc).mono (fun q hq => ⟨hq, by rcases hq with h | h; exact h.lt hF hl; exact h.2.1⟩) (fun _ _ _ => rfl))).mono ?_
          rintro e w' ⟨v, rfl, hb, hR⟩
          refine ⟨v, rfl, hK v ρ w' ?_ ?_ ?_⟩
          · rw [updM_none]
            exact ⟨hb.os, hb.tape, hb.output, hb.size, fun k hk _ => hb.block k hk, fun id hid => .inl ⟨hid, rfl⟩, fun id b hb' => ⟨b, hb', .refl b, fun _ => ⟨rfl, fun vs t hv => ⟨vs, by rw [hb.block _ (hF.lt (by rw [hb']; simp))]; exact hv, rfl⟩⟩⟩⟩
          · rw [updM_none]
            have hE : Ext m ρ w m ρ w' := ⟨hb.os, hb.tape, hb.output, hb.size, fun k hk _ => hb.block k hk, fun id hid => .inl ⟨hid, rfl⟩, fun id b hb' => ⟨b, hb', .refl b, fun _ => ⟨rfl, fun vs t hv => ⟨vs, by rw [hb.block _ (hF.lt (by rw [hb']; simp))]; exact hv, rfl⟩⟩⟩⟩
            exact ⟨hF.inj, fun id bl hbl => (hF.at_ id bl hbl).mono hE (hb.block _ (hF.lt (by rw [hbl]; simp)))⟩
          · rw [updM_none]
            refine .base (hR.mono (fun q hq => ?_) (fun _ _ _ => rfl))
            obtain ⟨h1, h2⟩ := hq
            rcases h1 with h1 | ⟨h1, h3⟩
            · exact ⟨hup q h1, h2, fun id hid he => by have := hF.lt hid; omega⟩
            · subst h1
              rcases h3 with ⟨h4, _⟩ | h4
              · subst h4; cases hfb
              · exact ⟨h4.1, h2, h4.2.2⟩
      · cases h
    · cases h
  · cases h

theorem ext_ok {f : Operand} {args : Array Operand} {ts : Array TypeId} {τ : Nat → AV} {look : Mem} {rr : AV} {r : ORes} (hF : Fits A m ρ w) (hl : ∀ id b, look id = some b → m id = some b)
    (ho : o.op = .call { callee := .value f, args := args, argTypes := ts }) (h : evExt P look (opd τ f) (args.toList.map (opd τ)) rr = some r) (hob : AllP r.ob) (hf : Rep A m ρ w (opd τ f) (a.eval f)) (ha : ∀ x ∈ args, Rep A m ρ w (opd τ x) (a.eval x)) :
    OpPost P A m ρ w a o n0 r := by
  unfold evExt at h
  split at h
  · rename_i fid p c hfv
    split at h
    · rename_i xs ob b hin
      split at h
      · rename_i hp
        cases h
        obtain ⟨hext, hob2⟩ := hob
        rw [hfv] at hf
        obtain ⟨ps, cs, hfe, hsz, hri⟩ := call_core hF hl hin hob2 hf ha
        obtain ⟨v, h1, h2⟩ := hext w _ hsz fun i x hx => (hri i x hx).plain (plainL_get hp hx)
        refine post_pure hF (v := v) ?_ (.base (h2.mono (fun _ h => h.elim) (fun _ _ _ => rfl)))
        simp only [execOp, ho, resolve, hfe, Deferred.ofValue, Sem.run_bind, Sem.run_pure, Result.andThen_ok, invoke]
        exact h1
      · cases h
    · cases h
  · cases h

end
end Go.Proofs.Ytkijlggnnbdeiaa
