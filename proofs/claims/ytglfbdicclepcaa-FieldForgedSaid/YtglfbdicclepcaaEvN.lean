/- Calls, and regions in the order of the text. For every program. States of a function; regions in the order of the text; codes. For every program. Regions that draw their order. For every program. -/
import Derived.Test.YtglfbdicclepcaaEvK
set_option linter.unusedVariables false
set_option linter.unusedSimpArgs false
namespace Go.Proofs.Ytglfbdicclepcaa
set_option maxRecDepth 100000
section
open Go.RowKit

/-! ### Calls -/

def inl0 (look : Mem) : AV → Option (AV × List Prop × Bool)
  | .slice id lo len ver => match look id with
    | some (.row _ es ver') => if Nat.beq ver ver' then some (.list ((es.drop lo).take len), [∀ e ∈ es, idsOf e = []], true) else none
    | _ => none
  | v => if (idsOf v).isEmpty then some (v, [], false) else none

def liftL (g : AV → Option (AV × List Prop × Bool)) : List AV → Option (List AV × List Prop × Bool)
  | [] => some ([], [], false)
  | v :: l => match g v, liftL g l with
    | some (x, o, b), some (xs, os, bs) => some (x :: xs, o ++ os, b || bs)
    | _, _ => none

/-- An own variable is lent to be read. -/
def inlP (look : Mem) : AV → Option (AV × List Prop × Bool)
  | .ptr id off => match look id with
    | some (.cells cs) => match liftL (inl0 look) cs with
      | some (xs, o, _) => some (.ptrIn (.agg xs) off, o, true)
      | none => none
    | _ => none
  | v => inl0 look v

def inl1 (look : Mem) : AV → Option (AV × List Prop × Bool)
  | .func f p c => match liftL (inlP look) p, liftL (inlP look) c with
    | some (ps, o1, b1), some (cs, o2, b2) => some (.func f ps cs, o1 ++ o2, b1 || b2)
    | _, _ => none
  | v => inlP look v

def inl (look : Mem) : AV → Option (AV × List Prop × Bool)
  | .agg cs => match liftL (inl1 look) cs with
    | some (xs, o, b) => some (.agg xs, o, b)
    | none => none
  | v => inl1 look v

def inlArgs (look : Mem) : List AV → Option (List AV × List Prop × Bool) := liftL (inl look)

/-! Rows of rows: own slices within own rows, to a depth. -/
def inlE (g : AV → Option (AV × List Prop × Bool)) : AV → Option (AV × List Prop × Bool)
  | .agg cs => match liftL g cs with
    | some (xs, o, b) => some (.agg xs, o, b)
    | none => none
  | v => match g v with
    | some (.agg _, _, _) => none
    | some (y, o, b) => some (y, o, b)
    | none => none
def inlQ (look : Mem) : Nat → AV → Option (AV × List Prop × Bool)
  | 0, v => inl0 look v
  | d + 1, .slice id lo len ver => match look id with
    | some (.row _ es ver') => if Nat.beq ver ver' then match liftL (inlE (inlQ look d)) es with
        | some (ys, o, _) => some (.list ((ys.drop lo).take len), o, true)
        | none => none
      else none
    | _ => none
  | _ + 1, v => inl0 look v
def inlPg (look : Mem) (g : AV → Option (AV × List Prop × Bool)) : AV → Option (AV × List Prop × Bool)
  | .ptr id off => match look id with
    | some (.cells cs) => match liftL g cs with
      | some (xs, o, _) => some (.ptrIn (.agg xs) off, o, true)
      | none => none
    | _ => none
  | v => g v
def inl1g (look : Mem) (g : AV → Option (AV × List Prop × Bool)) : AV → Option (AV × List Prop × Bool)
  | .func f p c => match liftL (inlPg look g) p, liftL (inlPg look g) c with
    | some (ps, o1, b1), some (cs, o2, b2) => some (.func f ps cs, o1 ++ o2, b1 || b2)
    | _, _ => none
  | v => inlPg look g v
def inlg (look : Mem) (g : AV → Option (AV × List Prop × Bool)) : AV → Option (AV × List Prop × Bool)
  | .agg cs => match liftL (inl1g look g) cs with
    | some (xs, o, b) => some (.agg xs, o, b)
    | none => none
  | v => inl1g look g v
def inlA (look : Mem) (d : Nat) : List AV → Option (List AV × List Prop × Bool) := liftL (inlg look (inlQ look d))

def lentOb (b : Bool) (r : AV) (R : List Blk) : List Prop := if b then [plainV r = true, ∀ x ∈ R, PlainB x] else []

def shiftR (n : Nat) (r : AV) : List Blk → AV
  | [] => r
  | _ => shiftV n r

/-- What a function gives for values that bear no names: the result bears none either; if `fr`, it lies in no block that was there. -/
def FnF (P : Program) (f : FuncId) (fr : Bool) (args : List AV) (r : AV) : Prop :=
  callable P f = true ∧ ∀ (B : Nat → Prop) (w : World) (vs : Array Value), vs.size = args.length → (∀ i x, args[i]? = some x → RI w (fun b => B b ∧ b < w.heap.size) x (vs.getD i undef)) →
    Calls P f vs w fun e w' => ∃ v, e = .returned v ∧ Below w.heap.size w w' ∧ RI w' (fun b => (w.heap.size ≤ b ∨ fr = false ∧ B b) ∧ b < w'.heap.size) r v

/-- Blocks of a result under new names: rows bear none within. -/
def shiftC (n : Nat) : Blk → Blk
  | .cells cs => .cells (shiftL n cs)
  | .row k es ver => .row k es ver
  | .mp es => .mp es
def freeOb : List Blk → List Prop
  | [] => []
  | .cells _ :: l => freeOb l
  | .mp es :: l => (∀ e ∈ es, idsOf e = []) :: freeOb l
  | .row _ es _ :: l => (∀ e ∈ es, idsOf e = []) :: freeOb l

mutual
theorem shiftV_id (n : Nat) : ∀ (x : AV), idsOf x = [] → shiftV n x = x
  | .agg cs, h => by simp only [shiftV]; rw [shiftL_id n cs (by simpa [idsOf] using h)]
  | .tuple cs, h => by simp only [shiftV]; rw [shiftL_id n cs (by simpa [idsOf] using h)]
  | .func f p c, h => by
    simp only [idsOf, List.append_eq_nil_iff] at h
    simp only [shiftV]; rw [shiftL_id n p h.1, shiftL_id n c h.2]
  | .iface t v, h => by simp only [shiftV]; rw [shiftV_id n v (by simpa [idsOf] using h)]
  | .ptr _ _, h => by simp [idsOf] at h
  | .ptrR _ _ _ _, h => by simp [idsOf] at h
  | .slice _ _ _ _, h => by simp [idsOf] at h
  | .map _, h => by simp [idsOf] at h
  | .any, _ => by simp [shiftV]
  | .bool _, _ => by simp [shiftV]
  | .int _ _, _ => by simp [shiftV]
  | .str _, _ => by simp [shiftV]
  | .nilptr, _ => by simp [shiftV]
  | .nilslice, _ => by simp [shiftV]
  | .nilfunc, _ => by simp [shiftV]
  | .niliface, _ => by simp [shiftV]
  | .nilmap, _ => by simp [shiftV]
  | .ptrIn _ _, _ => by simp [shiftV]
  | .list _, _ => by simp [shiftV]
  | .val _, _ => by simp [shiftV]
  | .pin _ _, _ => by simp [shiftV]
theorem shiftL_id (n : Nat) : ∀ (l : List AV), idsL l = [] → shiftL n l = l
  | [], _ => by simp [shiftL]
  | v :: l, h => by
    simp only [idsL, List.append_eq_nil_iff] at h
    simp only [shiftL]; rw [shiftV_id n v h.1, shiftL_id n l h.2]
end
theorem idsL_free : ∀ {l : List AV}, (∀ e ∈ l, idsOf e = []) → idsL l = []
  | [], _ => rfl
  | v :: l, h => by simp only [idsL]; rw [h v List.mem_cons_self, idsL_free fun e he => h e (List.mem_cons_of_mem _ he)]; rfl
theorem shiftC_is (n : Nat) : ∀ (R : List Blk), AllP (freeOb R) → R.map (shiftC n) = R.map (shiftB n)
  | [], _ => rfl
  | .cells cs :: l, h => by simp only [List.map_cons, shiftC, shiftB]; rw [shiftC_is n l h]
  | .mp es :: l, h => by
    have h : (∀ e ∈ es, idsOf e = []) ∧ AllP (freeOb l) := h
    simp only [List.map_cons, shiftC, shiftB]; rw [shiftC_is n l h.2, shiftL_id n es (idsL_free h.1)]
  | .row k es ver :: l, h => by
    have h : (∀ e ∈ es, idsOf e = []) ∧ AllP (freeOb l) := h
    simp only [List.map_cons, shiftC, shiftB]; rw [shiftC_is n l h.2, shiftL_id n es (idsL_free h.1)]

def evCallA (inA : List AV → Option (List AV × List Prop × Bool)) (P : Program) (n0 : Nat) (fv : AV) (args : List AV) (s : Sup) : Option ORes :=
  match fv, s with
  | .func (.func f) p c, .f fr r => match inA (p ++ args ++ c) with
    | some (xs, ob, b) => if fr || !b then some ⟨r, none, [], FnF P f fr xs r :: ob⟩ else none
    | none => none
  | .func (.func f) p c, .c r R => match inA (p ++ args ++ c) with
    | some (xs, ob, b) => some ⟨shiftR n0 r R, none, R.map (shiftC n0), FnM P f [] xs r R :: (lentOb b r R ++ (freeOb R ++ ob))⟩
    | none => none
  | _, _ => none
def evCall (P : Program) (look : Mem) (n0 : Nat) (fv : AV) (args : List AV) (s : Sup) : Option ORes :=
  match s with
  | .n d s => evCallA (inlA look d) P n0 fv args s
  | s => evCallA (inlArgs look) P n0 fv args s

/-- What a function that the model itself gives answers. -/
def ExtF (P : Program) (f : FuncId) (args : List AV) (r : AV) : Prop :=
  ∀ (w : World) (vs : Array Value), vs.size = args.length → (∀ i x, args[i]? = some x → RI w (fun _ => False) x (vs.getD i undef)) → ∃ v, (callFunc f vs).run P w = .ok (.value v) w ∧ RI w (fun _ => False) r v

/-- A method of a type. -/
def InvP (P : Program) (t : TypeId) (name : String) (f : FuncId) : Prop := ∀ (v : Value) (args : Array Value) (w : World), (callMethod (.iface t v) name args).run P w = .ok (.enter f (#[v] ++ args)) w

def evExt (P : Program) (look : Mem) (fv : AV) (args : List AV) (r : AV) : Option ORes :=
  match fv with
  | .func (.func f) p c => match inlArgs look (p ++ args ++ c) with
    | some (xs, ob, _) => if plainL xs then some ⟨r, none, [], ExtF P f xs r :: ob⟩ else none
    | none => none
  | _ => none

def evInv (P : Program) (look : Mem) (recv : AV) (name : String) (args : List AV) (f : FuncId) (fr : Bool) (r : AV) : Option ORes :=
  match recv with
  | .iface t v => match inlArgs look (v :: args) with
    | some (xs, ob, b) => if fr || !b then some ⟨r, none, [], InvP P t name f :: FnF P f fr xs r :: ob⟩ else none
    | none => none
  | _ => none

/-- What a function gives that is lent a map to be read: the keys are known, and how old the entries are. -/
def FnG (P : Program) (f : FuncId) (es : List AV) (r : AV) (R : List Blk) : Prop :=
  callable P f = true ∧ ∀ (w : World) (b : Nat) (ents : Array MapEntry), w.heap[b]? = some (.map ents ents.size) → ents.size = es.length →
    (∀ (i : Nat) (x : AV) (e : MapEntry), es[i]? = some x → ents[i]? = some e → ∃ (k : Int) (v : AV), x = .agg [.int .i64 k, v] ∧ e.key = .int .i64 k ∧ e.born = i) →
    Calls P f #[.map (some b)] w fun e w' => ∃ v ρ', e = .returned v ∧ Ext (memL []) ρ' w (memL R) ρ' w' ∧ Fits (fun c => w.heap.size ≤ c) (memL R) ρ' w' ∧ Rep (fun c => w.heap.size ≤ c) (memL R) ρ' w' r v
def evMapCall (P : Program) (look : Mem) (n0 : Nat) (fv : AV) (args : List AV) (r : AV) (R : List Blk) : Option ORes :=
  match fv, args with
  | .func (.func f) [] [], [.map id] => match look id with
    | some (.mp es) => some ⟨shiftR n0 r R, none, R.map (shiftC n0), FnG P f es r R :: freeOb R⟩
    | _ => none
  | _, _ => none

def evAny (P : Program) (op : Op) (ty : TypeId) (τ : Nat → AV) (look : Mem) (n0 : Nat) (s : Sup) : Option ORes :=
  match op with
  | .call { callee := .value f, args, argTypes := _ } => match s with
    | .x r => evExt P look (opd τ f) (args.toList.map (opd τ)) r
    | .g r R => evMapCall P look n0 (opd τ f) (args.toList.map (opd τ)) r R
    | s => evCall P look n0 (opd τ f) (args.toList.map (opd τ)) s
  | .call { callee := .invoke f name, args, argTypes := _ } => match s with
    | .iv g fr r => evInv P look (opd τ f) name (args.toList.map (opd τ)) g fr r
    | _ => none
  | op => (evOp P op ty τ look n0 s).map (fin s)

/-- A block of the text's own that is lent. -/
def LentP (look : Mem) (ρ : Nat → Nat) (b : Bool) (q : Nat) : Prop := b = true ∧ ∃ id blk, look id = some blk ∧ ρ id = q
section
variable {P : Program} {A : Nat → Prop} {m : Mem} {ρ : Nat → Nat} {w : World} {a : Act} {o : Oper} {n0 : Nat}

theorem LentP.lt {look : Mem} {b : Bool} {q : Nat} (hF : Fits A m ρ w) (hl : ∀ id b, look id = some b → m id = some b) (h : LentP look ρ b q) : q < w.heap.size := by
  obtain ⟨_, id, blk, h1, rfl⟩ := h
  exact hF.lt (by rw [hl _ _ h1]; simp)
theorem LentP.or {look : Mem} {b b' : Bool} {q : Nat} (hb : b = true → b' = true) (h : LentP look ρ b q ∨ Alien A m ρ w q) : LentP look ρ b' q ∨ Alien A m ρ w q := by
  rcases h with ⟨h1, h2⟩ | h
  · exact .inl ⟨hb h1, h2⟩
  · exact .inr h

theorem inl0_ok {look : Mem} {x y : AV} {ob : List Prop} {b : Bool} {v : Value} (hF : Fits A m ρ w) (hl : ∀ id b, look id = some b → m id = some b) (h : inl0 look x = some (y, ob, b)) (hob : AllP ob) (hx : Rep A m ρ w x v) :
    RI w (fun q => LentP look ρ b q ∨ Alien A m ρ w q) y v := by
  have gen : ∀ {x : AV}, (if (idsOf x).isEmpty then some (x, ([] : List Prop), false) else none) = some (y, ob, b) → Rep A m ρ w x v → RI w (fun q => LentP look ρ b q ∨ Alien A m ρ w q) y v := fun h hx => by
    split at h
    · rename_i hi
      cases h
      exact (hx.ri (by simpa using hi)).mono (fun q hq => .inr hq) (fun _ _ _ => rfl)
    · cases h
  unfold inl0 at h
  split at h
  · rename_i id lo len ver
    split at h
    · rename_i k es ver' hlk
      split at h
      · rename_i hc
        obtain rfl := Nat.eq_of_beq_eq_true hc
        cases h
        have hm := hl _ _ hlk
        obtain ⟨h3, o', c, vs, t', rfl, h4, h5, h6, h7⟩ := rep_slice hx hm
        obtain ⟨h8, vs2, t2, h9, hR⟩ := row_of_fits hF hm
        rw [h6] at h9
        cases h9
        have hlen : ((es.drop lo).take len).length = len := by simp; omega
        have hlt : ρ id < w.heap.size := hF.lt (by rw [hm]; simp)
        have hel : ∀ i e, ((es.drop lo).take len)[i]? = some e → es[lo + i]? = some e ∧ i < len := fun i e he => by
          rw [List.getElem?_take] at he
          split at he
          · rw [List.getElem?_drop] at he; exact ⟨he, by assumption⟩
          · cases he
        have := RI.list (w := w) (B := fun q => LentP look ρ true q ∨ Alien A m ρ w q) ((es.drop lo).take len) (ρ id) o' c k (fun i j => vs.getD ((lo + i) * k + j) undef) (by omega) (fun _ => .inl ⟨rfl, _, _, hlk, rfl⟩)
          (fun e he => hR.len e (List.mem_of_mem_drop (List.mem_of_mem_take he))) (fun i e j c' he hc' => by
            obtain ⟨e1, e2⟩ := hel i e he
            have hlt2 := (hR.lt e1 hc').1
            rw [cell_of_cells h6, h4 (by omega), ← getD_of hlt2, Nat.add_mul]) (fun i e j c' he hc' => by
            obtain ⟨e1, e2⟩ := hel i e he
            have hid : idsOf c' = [] := by
              have h10 := hob.1 e (List.mem_iff_getElem?.2 ⟨_, e1⟩)
              rw [List.eq_nil_iff_forall_not_mem]
              intro n hn
              have : n ∈ idsOf e := by
                cases e with
                | agg cs => simp only [idsOf]; exact idsL_get hc' hn
                | _ =>
                  simp only [cellsOf] at hc'
                  obtain ⟨q1, q2⟩ := List.getElem?_eq_some_iff.1 hc'
                  have : j = 0 := by simp at q1; omega
                  subst this
                  simp at q2
                  rw [← q2] at hn; exact hn
              rw [h10] at this; cases this
            exact ((hR.at_ _ e j c' e1 hc').ri hid).mono (fun q hq => .inr hq) (fun _ _ _ => rfl))
        rw [hlen] at this
        exact this
      · cases h
    · cases h
  · exact gen h hx

theorem liftL_ok {look : Mem} {g : AV → Option (AV × List Prop × Bool)} (hg : ∀ v y ob b, g v = some (y, ob, b) → AllP ob → ∀ u, Rep A m ρ w v u → RI w (fun q => LentP look ρ b q ∨ Alien A m ρ w q) y u) :
    ∀ (l : List AV) (ys : List AV) (ob : List Prop) (b : Bool), liftL g l = some (ys, ob, b) → AllP ob → ys.length = l.length ∧
    ∀ (x : Nat → Value), (∀ i c, l[i]? = some c → Rep A m ρ w c (x i)) → ∀ i c, ys[i]? = some c → RI w (fun q => LentP look ρ b q ∨ Alien A m ρ w q) c (x i) := by
  intro l
  induction l with
  | nil =>
    intro ys ob b h _
    simp only [liftL] at h
    cases h
    exact ⟨rfl, fun x _ i c hc => by simp at hc⟩
  | cons v l ih =>
    intro ys ob b h hob
    simp only [liftL] at h
    split at h
    · rename_i y o1 b1 xs os bs h1 h2
      cases h
      obtain ⟨hob1, hob2⟩ := AllP.append hob
      obtain ⟨e1, e2⟩ := ih _ _ _ h2 hob2
      refine ⟨by simp [e1], fun x hx i c hc => ?_⟩
      cases i with
      | zero =>
        simp at hc; subst hc
        exact (hg _ _ _ _ h1 hob1 _ (hx 0 v rfl)).mono (fun q hq => LentP.or (by simp_all) hq) (fun _ _ _ => rfl)
      | succ i =>
        simp at hc
        exact (e2 (fun i => x (i + 1)) (fun i c hc => hx (i + 1) c (by simpa using hc)) i c hc).mono (fun q hq => LentP.or (by simp_all) hq) (fun _ _ _ => rfl)
    · cases h

theorem inlP_ok {look : Mem} (hF : Fits A m ρ w) (hl : ∀ id b, look id = some b → m id = some b) (v y : AV) (ob : List Prop) (b : Bool) (h : inlP look v = some (y, ob, b)) (hob : AllP ob) (u : Value) (hx : Rep A m ρ w v u) :
    RI w (fun q => LentP look ρ b q ∨ Alien A m ρ w q) y u := by
  unfold inlP at h
  split at h
  · rename_i id off
    split at h
    · rename_i cs hlk
      split at h
      · rename_i xs o b1 h1
        cases h
        have hm := hl _ _ hlk
        obtain ⟨rfl, _⟩ := rep_ptr hx
        obtain ⟨vs, t, h2, h3, h4⟩ := hF.at_ id _ hm
        have hlt : ρ id < w.heap.size := hF.lt (by rw [hm]; simp)
        obtain ⟨e1, e2⟩ := liftL_ok (fun v y ob b h hob u hu => inl0_ok hF hl h hob hu) _ _ _ _ h1 hob
        have := RI.ptrIn (w := w) (B := fun q => LentP look ρ true q ∨ Alien A m ρ w q) (.agg xs) off (ρ id) 0 (fun j => vs.getD j undef) (.inl ⟨rfl, _, _, hlk, rfl⟩) (fun j c hc => by
          have hj : j < vs.size := by
            have := (List.getElem?_eq_some_iff.1 (show xs[j]? = some c from hc)).1
            omega
          rw [cell_of_cells h2, Nat.zero_add]; exact getD_of hj) (fun j c hc => by
          exact (e2 (fun j => vs.getD j undef) h4 j c hc).mono (fun q hq => LentP.or (fun _ => rfl) hq) (fun _ _ _ => rfl))
        rw [Nat.zero_add] at this
        exact this
      · cases h
    · cases h
  · exact inl0_ok hF hl h hob hx

theorem inl1_ok {look : Mem} (hF : Fits A m ρ w) (hl : ∀ id b, look id = some b → m id = some b) (v y : AV) (ob : List Prop) (b : Bool) (h : inl1 look v = some (y, ob, b)) (hob : AllP ob) (u : Value) (hx : Rep A m ρ w v u) :
    RI w (fun q => LentP look ρ b q ∨ Alien A m ρ w q) y u := by
  unfold inl1 at h
  split at h
  · rename_i f p c
    split at h
    · rename_i ps o1 b1 cs o2 b2 h1 h2
      cases h
      obtain ⟨hob1, hob2⟩ := AllP.append hob
      obtain ⟨pv, cv, rfl, hps, hcs, hp, hc⟩ := rep_func hx
      obtain ⟨e1, e2⟩ := liftL_ok (inlP_ok hF hl) _ _ _ _ h1 hob1
      obtain ⟨e3, e4⟩ := liftL_ok (inlP_ok hF hl) _ _ _ _ h2 hob2
      refine .func f ps cs pv cv (by omega) (by omega) (fun i x hi => ?_) (fun i x hi => ?_)
      · exact (e2 (fun i => pv.getD i undef) hp i x hi).mono (fun q hq => LentP.or (by simp_all) hq) (fun _ _ _ => rfl)
      · exact (e4 (fun i => cv.getD i undef) hc i x hi).mono (fun q hq => LentP.or (by simp_all) hq) (fun _ _ _ => rfl)
    · cases h
  · exact inlP_ok hF hl v y ob b h hob u hx

theorem inl_ok {look : Mem} (hF : Fits A m ρ w) (hl : ∀ id b, look id = some b → m id = some b) (v y : AV) (ob : List Prop) (b : Bool) (h : inl look v = some (y, ob, b)) (hob : AllP ob) (u : Value) (hx : Rep A m ρ w v u) :
    RI w (fun q => LentP look ρ b q ∨ Alien A m ρ w q) y u := by
  unfold inl at h
  split at h
  · split at h
    · rename_i cs xs o1 b1 h1
      cases h
      obtain ⟨vs, rfl, hs, hr⟩ := rep_agg hx
      obtain ⟨e1, e2⟩ := liftL_ok (inl1_ok hF hl) _ _ _ _ h1 hob
      exact .agg _ vs (by omega) fun i c hc => e2 (fun i => vs.getD i undef) hr i c hc
    · cases h
  · exact inl1_ok hF hl v y ob b h hob u hx

theorem inlArgs_ok {look : Mem} (hF : Fits A m ρ w) (hl : ∀ id b, look id = some b → m id = some b) (l : List AV) (ys : List AV) (ob : List Prop) (b : Bool) (h : inlArgs look l = some (ys, ob, b)) (hob : AllP ob) : ys.length = l.length ∧
    ∀ (x : Nat → Value), (∀ i c, l[i]? = some c → Rep A m ρ w c (x i)) → ∀ i c, ys[i]? = some c → RI w (fun q => LentP look ρ b q ∨ Alien A m ρ w q) c (x i) := liftL_ok (inl_ok hF hl) l ys ob b h hob

theorem callable_ok {f : FuncId} (h : callable P f = true) (args : Array Value) (w : World) : (callFunc f args).run P w = .ok (.enter f args) w := by
  unfold callable at h
  split at h
  · rename_i fn hf
    simp only [Bool.and_eq_true, bne_iff_ne, ne_eq] at h
    obtain ⟨h1, h2⟩ := h
    have h3 : (fn.name == "runtime.NumGoroutine") = false := by simpa using h1
    have h4 : fn.body.isNone = false := by cases hb : fn.body <;> simp_all
    have h5 : fn.body ≠ none := by cases hb : fn.body <;> simp_all
    simp [callFunc, hf, h1, h5]
  · cases h

theorem shift_nil {R : List Blk} {ρ' : Nat → Nat} {w' : World} {A' : Nat → Prop} {r : AV} {v : Value} {m2 : Mem} {ρ2 : Nat → Nat} (h : Rep A' (memL []) ρ' w' r v) (ha : ∀ b, Alien A' (memL []) ρ' w' b → Alien A m2 ρ2 w' b) : Rep A m2 ρ2 w' r v := by
  have key : ∀ {x : AV} {v : Value}, Rep A' (memL []) ρ' w' x v → RI w' (Alien A' (memL []) ρ' w') x v := fun h => by
    induction h with
    | base h => exact h
    | ptr id off cs h => simp [memL] at h
    | ptrR id ver i off k es ver' a h => simp [memL] at h
    | slice id lo len ver k es ver' a n c h => simp [memL] at h
    | map id es h => simp [memL] at h
    | agg cs vs hs h ih => exact .agg cs vs hs ih
    | tuple cs vs hs h ih => exact .tuple cs vs hs ih
    | func f p c ps cs hp hc h k ih ik => exact .func f p c ps cs hp hc ih ik
    | iface t x v h ih => exact .iface t x v ih
  exact .base ((key h).mono ha (fun _ _ _ => rfl))

/-- What lends arguments as they are to be read. -/
def InOk (A : Nat → Prop) (m : Mem) (ρ : Nat → Nat) (w : World) (look : Mem) (inA : List AV → Option (List AV × List Prop × Bool)) : Prop := ∀ (l : List AV) (ys : List AV) (ob : List Prop) (b : Bool), inA l = some (ys, ob, b) → AllP ob → ys.length = l.length ∧
    ∀ (x : Nat → Value), (∀ i c, l[i]? = some c → Rep A m ρ w c (x i)) → ∀ i c, ys[i]? = some c → RI w (fun q => LentP look ρ b q ∨ Alien A m ρ w q) c (x i)
theorem inlE_ok {look : Mem} {g : AV → Option (AV × List Prop × Bool)} (hg : ∀ v y ob b, g v = some (y, ob, b) → AllP ob → ∀ u, Rep A m ρ w v u → RI w (fun q => LentP look ρ b q ∨ Alien A m ρ w q) y u) (e y : AV) (ob : List Prop) (b : Bool) (h : inlE g e = some (y, ob, b)) (hob : AllP ob) :
    (cellsOf y).length = (cellsOf e).length ∧ ∀ (u : Nat → Value), (∀ j c, (cellsOf e)[j]? = some c → Rep A m ρ w c (u j)) → ∀ j c, (cellsOf y)[j]? = some c → RI w (fun q => LentP look ρ b q ∨ Alien A m ρ w q) c (u j) := by
  have one : ∀ {v : AV}, (∀ cs, v ≠ .agg cs) → cellsOf v = [v] := fun {v} hv => by cases v <;> first | rfl | exact absurd rfl (hv _)
  unfold inlE at h
  split at h
  · split at h
    · rename_i cs xs o b1 h1
      cases h
      exact liftL_ok hg _ _ _ _ h1 hob
    · cases h
  · rename_i hne
    split at h
    · cases h
    · rename_i y' o b1 hna h1
      cases h
      rw [one (v := e) (fun cs hc => hne cs hc), one (v := y) (fun cs hc => hna cs hc)]
      refine ⟨rfl, fun u hu j c hc => ?_⟩
      cases j with
      | zero => simp at hc; subst hc; exact hg _ _ _ _ h1 hob _ (hu 0 e rfl)
      | succ j => simp at hc
    · cases h
theorem liftE_ok {look : Mem} {g : AV → Option (AV × List Prop × Bool)} (hg : ∀ v y ob b, g v = some (y, ob, b) → AllP ob → ∀ u, Rep A m ρ w v u → RI w (fun q => LentP look ρ b q ∨ Alien A m ρ w q) y u) : ∀ (l ys : List AV) (ob : List Prop) (b : Bool), liftL (inlE g) l = some (ys, ob, b) → AllP ob → ys.length = l.length ∧
    ∀ (i : Nat) (y : AV), ys[i]? = some y → ∃ e : AV, l[i]? = some e ∧ (cellsOf y).length = (cellsOf e).length ∧ ∀ (u : Nat → Value), (∀ j c, (cellsOf e)[j]? = some c → Rep A m ρ w c (u j)) → ∀ j c, (cellsOf y)[j]? = some c → RI w (fun q => LentP look ρ true q ∨ Alien A m ρ w q) c (u j)
  | [], ys, ob, b, h, _ => by simp only [liftL] at h; cases h; exact ⟨rfl, fun i y hy => by simp at hy⟩
  | v :: l, ys, ob, b, h, hob => by
    simp only [liftL] at h
    split at h
    · rename_i y o1 b1 xs os bs h1 h2
      cases h
      obtain ⟨hob1, hob2⟩ := AllP.append hob
      obtain ⟨e1, e2⟩ := liftE_ok hg l xs os bs h2 hob2
      refine ⟨by simp [e1], fun i z hz => ?_⟩
      cases i with
      | zero =>
        simp at hz; subst hz
        obtain ⟨q1, q2⟩ := inlE_ok hg v y o1 b1 h1 hob1
        exact ⟨v, rfl, q1, fun u hu j c hc => (q2 u hu j c hc).mono (fun q hq => LentP.or (fun _ => rfl) hq) (fun _ _ _ => rfl)⟩
      | succ i =>
        obtain ⟨e, q1, q2⟩ := e2 i z (by simpa using hz)
        exact ⟨e, by simpa using q1, q2⟩
    · cases h
theorem inlQ_ok {look : Mem} (hF : Fits A m ρ w) (hl : ∀ id b, look id = some b → m id = some b) : ∀ (d : Nat) (v y : AV) (ob : List Prop) (b : Bool), inlQ look d v = some (y, ob, b) → AllP ob → ∀ u, Rep A m ρ w v u → RI w (fun q => LentP look ρ b q ∨ Alien A m ρ w q) y u
  | 0, v, y, ob, b, h, hob, u, hx => inl0_ok hF hl h hob hx
  | d + 1, v, y, ob, b, h, hob, u, hx => by
    unfold inlQ at h
    split at h
    · rename_i heq; cases heq
    · rename_i d' id lo len ver heq
      cases heq
      split at h
      · rename_i k es ver' hlk
        split at h
        · rename_i hc
          obtain rfl := Nat.eq_of_beq_eq_true hc
          split at h
          · rename_i ys o b1 hys
            cases h
            have hm := hl _ _ hlk
            obtain ⟨h3, o', c, vs, t', rfl, h4, h5, h6, h7⟩ := rep_slice hx hm
            obtain ⟨h8, vs2, t2, h9, hR⟩ := row_of_fits hF hm
            rw [h6] at h9
            cases h9
            obtain ⟨hyl, hye⟩ := liftE_ok (inlQ_ok hF hl d) _ _ _ _ hys hob
            have hlen : ((ys.drop lo).take len).length = len := by simp; omega
            have hel : ∀ i e, ((ys.drop lo).take len)[i]? = some e → ys[lo + i]? = some e ∧ i < len := fun i e he => by
              rw [List.getElem?_take] at he
              split at he
              · rw [List.getElem?_drop] at he; exact ⟨he, by assumption⟩
              · cases he
            have := RI.list (w := w) (B := fun q => LentP look ρ true q ∨ Alien A m ρ w q) ((ys.drop lo).take len) (ρ id) o' c k (fun i j => vs.getD ((lo + i) * k + j) undef) (by omega) (fun _ => .inl ⟨rfl, _, _, hlk, rfl⟩)
              (fun e he => by
                obtain ⟨i, hi⟩ := List.mem_iff_getElem?.1 (List.mem_of_mem_drop (List.mem_of_mem_take he))
                obtain ⟨e0, q1, q2, _⟩ := hye i e hi
                rw [q2]; exact hR.len e0 (List.mem_of_getElem? q1)) (fun i e j c' he hc' => by
                obtain ⟨e1, e2⟩ := hel i e he
                obtain ⟨e0, q1, q2, _⟩ := hye _ e e1
                obtain ⟨c0, hc0⟩ : ∃ c0, (cellsOf e0)[j]? = some c0 := ⟨_, List.getElem?_eq_getElem (by rw [← q2]; exact (List.getElem?_eq_some_iff.1 hc').1)⟩
                have hlt2 := (hR.lt q1 hc0).1
                rw [cell_of_cells h6, h4 (by omega), ← getD_of hlt2, Nat.add_mul]) (fun i e j c' he hc' => by
                obtain ⟨e1, e2⟩ := hel i e he
                obtain ⟨e0, q1, q2, q3⟩ := hye _ e e1
                exact q3 (fun j => vs.getD ((lo + i) * k + j) undef) (fun j c hc => hR.at_ _ e0 j c q1 hc) j c' hc')
            rw [hlen] at this
            exact this
          · cases h
        · cases h
      · cases h
    · exact inl0_ok hF hl h hob hx
theorem inlPg_ok {look : Mem} {g : AV → Option (AV × List Prop × Bool)} (hF : Fits A m ρ w) (hl : ∀ id b, look id = some b → m id = some b) (hg : ∀ v y ob b, g v = some (y, ob, b) → AllP ob → ∀ u, Rep A m ρ w v u → RI w (fun q => LentP look ρ b q ∨ Alien A m ρ w q) y u) (v y : AV) (ob : List Prop) (b : Bool) (h : inlPg look g v = some (y, ob, b)) (hob : AllP ob) (u : Value) (hx : Rep A m ρ w v u) :
    RI w (fun q => LentP look ρ b q ∨ Alien A m ρ w q) y u := by
  unfold inlPg at h
  split at h
  · rename_i id off
    split at h
    · rename_i cs hlk
      split at h
      · rename_i xs o b1 h1
        cases h
        have hm := hl _ _ hlk
        obtain ⟨rfl, _⟩ := rep_ptr hx
        obtain ⟨vs, t, h2, h3, h4⟩ := hF.at_ id _ hm
        obtain ⟨e1, e2⟩ := liftL_ok hg _ _ _ _ h1 hob
        have := RI.ptrIn (w := w) (B := fun q => LentP look ρ true q ∨ Alien A m ρ w q) (.agg xs) off (ρ id) 0 (fun j => vs.getD j undef) (.inl ⟨rfl, _, _, hlk, rfl⟩) (fun j c hc => by
          have hj : j < vs.size := by
            have := (List.getElem?_eq_some_iff.1 (show xs[j]? = some c from hc)).1
            omega
          rw [cell_of_cells h2, Nat.zero_add]; exact getD_of hj) (fun j c hc => by
          exact (e2 (fun j => vs.getD j undef) h4 j c hc).mono (fun q hq => LentP.or (fun _ => rfl) hq) (fun _ _ _ => rfl))
        rw [Nat.zero_add] at this
        exact this
      · cases h
    · cases h
  · exact hg _ _ _ _ h hob _ hx
theorem inl1g_ok {look : Mem} {g : AV → Option (AV × List Prop × Bool)} (hF : Fits A m ρ w) (hl : ∀ id b, look id = some b → m id = some b) (hg : ∀ v y ob b, g v = some (y, ob, b) → AllP ob → ∀ u, Rep A m ρ w v u → RI w (fun q => LentP look ρ b q ∨ Alien A m ρ w q) y u) (v y : AV) (ob : List Prop) (b : Bool) (h : inl1g look g v = some (y, ob, b)) (hob : AllP ob) (u : Value) (hx : Rep A m ρ w v u) :
    RI w (fun q => LentP look ρ b q ∨ Alien A m ρ w q) y u := by
  unfold inl1g at h
  split at h
  · rename_i f p c
    split at h
    · rename_i ps o1 b1 cs o2 b2 h1 h2
      cases h
      obtain ⟨hob1, hob2⟩ := AllP.append hob
      obtain ⟨pv, cv, rfl, hps, hcs, hp, hc⟩ := rep_func hx
      obtain ⟨e1, e2⟩ := liftL_ok (inlPg_ok hF hl hg) _ _ _ _ h1 hob1
      obtain ⟨e3, e4⟩ := liftL_ok (inlPg_ok hF hl hg) _ _ _ _ h2 hob2
      refine .func f ps cs pv cv (by omega) (by omega) (fun i x hi => ?_) (fun i x hi => ?_)
      · exact (e2 (fun i => pv.getD i undef) hp i x hi).mono (fun q hq => LentP.or (by simp_all) hq) (fun _ _ _ => rfl)
      · exact (e4 (fun i => cv.getD i undef) hc i x hi).mono (fun q hq => LentP.or (by simp_all) hq) (fun _ _ _ => rfl)
    · cases h
  · exact inlPg_ok hF hl hg v y ob b h hob u hx
theorem inlg_ok {look : Mem} {g : AV → Option (AV × List Prop × Bool)} (hF : Fits A m ρ w) (hl : ∀ id b, look id = some b → m id = some b) (hg : ∀ v y ob b, g v = some (y, ob, b) → AllP ob → ∀ u, Rep A m ρ w v u → RI w (fun q => LentP look ρ b q ∨ Alien A m ρ w q) y u) (v y : AV) (ob : List Prop) (b : Bool) (h : inlg look g v = some (y, ob, b)) (hob : AllP ob) (u : Value) (hx : Rep A m ρ w v u) :
    RI w (fun q => LentP look ρ b q ∨ Alien A m ρ w q) y u := by
  unfold inlg at h
  split at h
  · split at h
    · rename_i cs xs o1 b1 h1
      cases h
      obtain ⟨vs, rfl, hs, hr⟩ := rep_agg hx
      obtain ⟨e1, e2⟩ := liftL_ok (inl1g_ok hF hl hg) _ _ _ _ h1 hob
      exact .agg _ vs (by omega) fun i c hc => e2 (fun i => vs.getD i undef) hr i c hc
    · cases h
  · exact inl1g_ok hF hl hg v y ob b h hob u hx
theorem inlA_ok {look : Mem} (hF : Fits A m ρ w) (hl : ∀ id b, look id = some b → m id = some b) (d : Nat) : InOk A m ρ w look (inlA look d) := fun l ys ob b h hob => liftL_ok (inlg_ok hF hl (inlQ_ok hF hl d)) l ys ob b h hob
theorem call_core {args : Array Operand} {τ : Nat → AV} {look : Mem} {fv : Value} {fid : FuncId} {p c : List AV} {xs : List AV} {ob : List Prop} {b : Bool} {inA : List AV → Option (List AV × List Prop × Bool)} (hA : InOk A m ρ w look inA)
    (hin : inA (p ++ args.toList.map (opd τ) ++ c) = some (xs, ob, b)) (hob : AllP ob) (hf : Rep A m ρ w (.func (.func fid) p c) fv) (ha : ∀ x ∈ args, Rep A m ρ w (opd τ x) (a.eval x)) :
    ∃ ps cs : Array Value, fv = .func (.func fid) ps cs ∧ (ps ++ args.map a.eval ++ cs).size = xs.length ∧ ∀ i x, xs[i]? = some x → RI w (fun q => LentP look ρ b q ∨ Alien A m ρ w q) x ((ps ++ args.map a.eval ++ cs).getD i undef) := by
  obtain ⟨hs1, hr1⟩ := args_rep ha
  obtain ⟨ps, cs, hfe, hps, hcs, hpr, hcr⟩ := rep_func hf
  let vs : Array Value := ps ++ args.map a.eval ++ cs
  have hvs : vs.size = (p ++ args.toList.map (opd τ) ++ c).length := by simp [vs, hps, hcs]
  have hvr : ∀ i x, (p ++ args.toList.map (opd τ) ++ c)[i]? = some x → Rep A m ρ w x (vs.getD i undef) := fun i x hx => by
    simp only [vs]
    rw [Array.getD_eq_getD_getElem?]
    by_cases h1 : i < p.length
    · rw [List.append_assoc, List.getElem?_append_left h1] at hx
      rw [Array.append_assoc, Array.getElem?_append_left (by omega), ← Array.getD_eq_getD_getElem?]
      exact hpr i x hx
    · by_cases h2 : i < p.length + args.size
      · rw [List.getElem?_append_left (by simp; omega), List.getElem?_append_right (by omega)] at hx
        rw [Array.getElem?_append_left (by simp; omega), Array.getElem?_append_right (by omega), hps, ← Array.getD_eq_getD_getElem?]
        exact hr1 _ x hx
      · rw [List.getElem?_append_right (by simp; omega)] at hx
        rw [Array.getElem?_append_right (by simp; omega), ← Array.getD_eq_getD_getElem?]
        have := hcr _ x hx
        simpa [hps] using this
  obtain ⟨e1, e2⟩ := hA _ _ _ _ hin hob
  exact ⟨ps, cs, hfe, hvs.trans e1.symm, e2 (fun i => vs.getD i undef) hvr⟩

theorem enter_fr {ro : Option Nat} {fid : FuncId} {vs : Array Value} {K : Act → World → Prop} {Q : Exit → Act → World → Prop} (h : (execOp a.eval o).run P w = .ok (.enter fid vs) w) (hc : Calls P fid vs w fun
    | .returned v, w'' => K (a.put o.dst v) w''
    | .panicked chain, w'' => Q (.panic chain) a w''
    | .outgrown, _ => LetsOut Q) : o.wpIn (FR ro) 0 P a w K Q := by
  refine ⟨fun _ _ => trivial, ?_⟩
  rw [show (FR ro).round = ro from rfl, sem_at h (fun d => by simp)]
  exact ⟨fun h => (by cases h), calls_fr ro _ hc⟩

theorem callA_ok {inA : List AV → Option (List AV × List Prop × Bool)} {f : Operand} {args : Array Operand} {ts : Array TypeId} {τ : Nat → AV} {look : Mem} {s : Sup} {r : ORes} (hF : Fits A m ρ w) (hup : ∀ b, w.heap.size ≤ b → A b) (hl : ∀ id b, look id = some b → m id = some b) (hn : ∀ j, j < r.ns.length → m (n0 + j) = none)
    (ho : o.op = .call { callee := .value f, args := args, argTypes := ts }) (hA : InOk A m ρ w look inA) (h : evCallA inA P n0 (opd τ f) (args.toList.map (opd τ)) s = some r) (hob : AllP r.ob) (hf : Rep A m ρ w (opd τ f) (a.eval f)) (ha : ∀ x ∈ args, Rep A m ρ w (opd τ x) (a.eval x)) :
    OpPost P A m ρ w a o n0 r := by
  intro ro K Q hK
  have hrun : ∀ {fid : FuncId} {ps cs : Array Value}, callable P fid = true → a.eval f = .func (.func fid) ps cs → (execOp a.eval o).run P w = .ok (.enter fid (ps ++ args.map a.eval ++ cs)) w := fun hcal hfe => by
    simp only [execOp, ho, resolve, hfe, Deferred.ofValue, Sem.run_bind, Sem.run_pure, Result.andThen_ok, invoke]
    exact callable_ok hcal _ w
  have nm : ∀ {i : Nat}, ¬ (memL [] i ≠ none) := fun h => h (by simp [memL])
  have h0 : ∀ {A' : Nat → Prop} {ρ : Nat → Nat} {w : World}, Fits A' (memL []) ρ w := ⟨fun i j hi => absurd hi nm, fun id b hb => by simp [memL] at hb⟩
  have fin : ∀ {R : List Blk} {rr : AV} {v : Value} {w' : World} {ρc : Nat → Nat} {A' : Nat → Prop} (_ : r = ⟨shiftR n0 rr R, none, R.map (shiftB n0), r.ob⟩), Ext (memL []) ρ w (memL []) ρ w → Ext (memL []) ρ w (memL R) ρc w' → Fits A' (memL R) ρc w' → Rep A' (memL R) ρc w' rr v → (∀ b, A' b → w.heap.size ≤ b ∨ Alien A m ρ w b) → K (a.put o.dst v) w' := fun {R rr v w' ρc A'} hr _ hE h1 h2 h3 => by
    rw [hr] at hK hn
    obtain ⟨ρ', s1, s2, s3, s4⟩ := step_call hF hup (fun j hj => hn j (by simpa using hj)) hE h1 h3 h2
    refine hK v ρ' w' s1 s2 ?_
    show Rep A _ ρ' w' (shiftR n0 rr R) v
    cases R with
    | nil => exact shift_nil (R := []) h2 s4
    | cons _ _ => exact s3
  unfold evCallA at h
  split at h
  · rename_i fid p c fr rr hfv
    split at h
    · rename_i xs ob b hin
      split at h
      · rename_i hfb
        cases h
        obtain ⟨⟨hcal, hfn⟩, hob2⟩ := hob
        rw [hfv] at hf
        obtain ⟨ps, cs, hfe, hsz, hri⟩ := call_core hA hin hob2 hf ha
        refine enter_fr (hrun hcal hfe) ?_
        refine (hfn (fun q => LentP look ρ b q ∨ Alien A m ρ w q) w _ hsz (fun i x hx => (hri i x hx).mono (fun q hq => ⟨hq, by rcases hq with h | h; exact h.lt hF hl; exact h.2.1⟩) (fun _ _ _ => rfl))).mono ?_
        rintro e w' ⟨v, rfl, hb, hR⟩
        refine fin (R := []) (rr := rr) (ρc := ρ) (A' := fun q => w.heap.size ≤ q ∨ fr = false ∧ (LentP look ρ b q ∨ Alien A m ρ w q)) rfl (.refl _ _ _) ⟨hb.os, hb.tape, hb.output, hb.size, fun k hk _ => hb.block k hk, fun id hid => absurd hid nm, fun id b hb => by simp [memL] at hb⟩ h0
          (.base (hR.mono (fun q hq => ⟨hq.1, hq.2, fun id hid => absurd hid nm⟩) (fun _ _ _ => rfl))) ?_
        rintro q (h | ⟨h1, h2⟩)
        · exact .inl h
        · subst h1
          rcases h2 with ⟨h3, _⟩ | h3
          · subst h3; cases hfb
          · exact .inr h3
      · cases h
    · cases h
  · rename_i fid p c rr R hfv
    split at h
    · rename_i xs ob b hin
      cases h
      obtain ⟨⟨hcal, hfn⟩, hob2⟩ := hob
      obtain ⟨hlent, hob4⟩ := AllP.append hob2
      obtain ⟨hfree, hob3⟩ := AllP.append hob4
      have hsc := shiftC_is n0 R hfree
      rw [hfv] at hf
      obtain ⟨ps, cs, hfe, hsz, hri⟩ := call_core hA hin hob3 hf ha
      refine enter_fr (hrun hcal hfe) ?_
      refine (hfn (fun q => LentP look ρ b q ∨ Alien A m ρ w q) ρ w _ h0 hsz (fun i x hx => .base ((hri i x hx).mono (fun q hq => ⟨.inl hq, by rcases hq with h | h; exact h.lt hF hl; exact h.2.1, fun id hid => absurd hid nm⟩) (fun _ _ _ => rfl)))).mono ?_
      · rintro e w' ⟨v, ρc, rfl, hE, hFR, hRR⟩
        show K (a.put o.dst v) w'
        cases b with
        | true =>
          have hl1 : plainV rr = true := hlent.1
          have hl2 : ∀ x ∈ R, PlainB x := hlent.2.1
          exact fin (R := R) (rr := rr) (A' := fun _ => False) (by rw [hsc]) (.refl _ _ _) hE (hFR.plain fun id b hb => hl2 b (List.mem_iff_getElem?.2 ⟨id, hb⟩)) (hRR.plain hl1) (fun _ h => h.elim)
        | false =>
          refine fin (R := R) (rr := rr) (by rw [hsc]) (.refl _ _ _) hE hFR hRR (fun q hq => ?_)
          rcases hq with (⟨h, _⟩ | h) | h
          · cases h
          · exact .inr h
          · exact .inl h
    · cases h
  · cases h

theorem call_ok {f : Operand} {args : Array Operand} {ts : Array TypeId} {τ : Nat → AV} {look : Mem} {s : Sup} {r : ORes} (hF : Fits A m ρ w) (hup : ∀ b, w.heap.size ≤ b → A b) (hl : ∀ id b, look id = some b → m id = some b) (hn : ∀ j, j < r.ns.length → m (n0 + j) = none)
    (ho : o.op = .call { callee := .value f, args := args, argTypes := ts }) (h : evCall P look n0 (opd τ f) (args.toList.map (opd τ)) s = some r) (hob : AllP r.ob) (hf : Rep A m ρ w (opd τ f) (a.eval f)) (ha : ∀ x ∈ args, Rep A m ρ w (opd τ x) (a.eval x)) :
    OpPost P A m ρ w a o n0 r := by
  unfold evCall at h
  split at h
  · exact callA_ok hF hup hl hn ho (inlA_ok hF hl _) h hob hf ha
  · exact callA_ok hF hup hl hn ho (inlArgs_ok hF hl) h hob hf ha

theorem calls_enter {ro : Option Nat} {fid : FuncId} {vs : Array Value} {K : Act → World → Prop} {Q : Exit → Act → World → Prop} (h : (execOp a.eval o).run P w = .ok (.enter fid vs) w) (hc : Calls P fid vs w fun e w' => ∃ v, e = .returned v ∧ K (a.put o.dst v) w') : o.wpIn (FR ro) 0 P a w K Q :=
  enter_fr h (hc.mono fun e w' ⟨v, he, hk⟩ => by subst he; exact hk)

theorem one_app0 (x : Value) (l : Array Value) : (#[x] ++ l)[0]? = some x := by rw [Array.getElem?_append_left (by simp)]; rfl
theorem one_app1 (x : Value) (l : Array Value) : (#[x] ++ l).extract 1 (#[x] ++ l).size = l := by
  apply Array.ext'
  simp

theorem inv_ok {f : Operand} {name : String} {args : Array Operand} {ts : Array TypeId} {τ : Nat → AV} {look : Mem} {g : FuncId} {fr : Bool} {rr : AV} {r : ORes} (hF : Fits A m ρ w) (hup : ∀ b, w.heap.size ≤ b → A b) (hl : ∀ id b, look id = some b → m id = some b)
    (ho : o.op = .call { callee := .invoke f name, args := args, argTypes := ts }) (h : evInv P look (opd τ f) name (args.toList.map (opd τ)) g fr rr = some r) (hob : AllP r.ob) (hf : Rep A m ρ w (opd τ f) (a.eval f)) (ha : ∀ x ∈ args, Rep A m ρ w (opd τ x) (a.eval x)) :
    OpPost P A m ρ w a o n0 r := by
  intro ro K Q hK
  unfold evInv at h
  split at h
  · rename_i t x hfv
    split at h
    · rename_i xs ob b hin
      split at h
      · rename_i hfb
        cases h
        obtain ⟨hinv, ⟨hcal, hfn⟩, hob2⟩ := hob
        rw [hfv] at hf
        obtain ⟨u, hfe, hu⟩ := rep_iface hf
        obtain ⟨hs1, hr1⟩ := args_rep ha
        obtain ⟨e1, e2⟩ := inlArgs_ok hF hl _ _ _ _ hin hob2
        have hvr : ∀ i c, (x :: args.toList.map (opd τ))[i]? = some c → Rep A m ρ w c ((#[u] ++ args.map a.eval).getD i undef) := fun i c hc => by
          rw [Array.getD_eq_getD_getElem?]
          cases i with
          | zero => simp at hc; subst hc; rw [one_app0]; exact hu
          | succ i =>
            have := hr1 i c (by simpa using hc)
            rw [Array.getD_eq_getD_getElem?] at this
            rw [Array.getElem?_append_right (by simp)]
            simpa using this
        refine calls_enter (fid := g) (vs := #[u] ++ args.map a.eval) ?_ ?_
        · simp only [execOp, ho, resolve, hfe, Sem.run_bind, Sem.run_pure, Result.andThen_ok, invoke]
          have := hinv u (args.map a.eval) w
          rw [one_app0]
          simp only
          rw [one_app1]
          exact this
        · refine (hfn (fun q => LentP look ρ b q ∨ Alien A m ρ w q) w _ (by rw [e1]; simp; omega) (fun i c hc => (e2 (fun i => (#[u] ++ args.map a.eval).getD i undef) hvr i c hc).mono (fun q hq => ⟨hq, by rcases hq with h | h; exact h.lt hF hl; exact h.2.1⟩) (fun _ _ _ => rfl))).mono ?_
          rintro e w' ⟨v, rfl, hb, hR⟩
          refine ⟨v, rfl, hK v ρ w' ?_ ?_ ?_⟩
          · rw [updM_none]
            exact ⟨hb.os, hb.tape, hb.output, hb.size, fun k hk _ => hb.block k hk, fun id hid => .inl ⟨hid, rfl⟩, fun id b hb' => ⟨b, hb', .refl b, fun _ => ⟨rfl, fun vs t hv => ⟨vs, t, by rw [hb.block _ (hF.lt (by rw [hb']; simp))]; exact hv, rfl⟩⟩⟩⟩
          · rw [updM_none]
            have hE : Ext m ρ w m ρ w' := ⟨hb.os, hb.tape, hb.output, hb.size, fun k hk _ => hb.block k hk, fun id hid => .inl ⟨hid, rfl⟩, fun id b hb' => ⟨b, hb', .refl b, fun _ => ⟨rfl, fun vs t hv => ⟨vs, t, by rw [hb.block _ (hF.lt (by rw [hb']; simp))]; exact hv, rfl⟩⟩⟩⟩
            exact ⟨hF.inj, fun id bl hbl => (hF.at_ id bl hbl).mono hE (hb.block _ (hF.lt (by rw [hbl]; simp)))⟩
          · rw [updM_none]
            refine .base (hR.mono (fun q hq => ?_) (fun _ _ _ => rfl))
            obtain ⟨h1, h2⟩ := hq
            rcases h1 with h1 | ⟨h1, h3⟩
            · exact ⟨hup q h1, h2, fun id hid he => by have := hF.lt hid; omega⟩
            · subst h1
              rcases h3 with ⟨h4, _⟩ | h4
              · subst h4; cases hfb
              · exact ⟨h4.1, h2, h4.2.2⟩
      · cases h
    · cases h
  · cases h

theorem ext_ok {f : Operand} {args : Array Operand} {ts : Array TypeId} {τ : Nat → AV} {look : Mem} {rr : AV} {r : ORes} (hF : Fits A m ρ w) (hl : ∀ id b, look id = some b → m id = some b)
    (ho : o.op = .call { callee := .value f, args := args, argTypes := ts }) (h : evExt P look (opd τ f) (args.toList.map (opd τ)) rr = some r) (hob : AllP r.ob) (hf : Rep A m ρ w (opd τ f) (a.eval f)) (ha : ∀ x ∈ args, Rep A m ρ w (opd τ x) (a.eval x)) :
    OpPost P A m ρ w a o n0 r := by
  unfold evExt at h
  split at h
  · rename_i fid p c hfv
    split at h
    · rename_i xs ob b hin
      split at h
      · rename_i hp
        cases h
        obtain ⟨hext, hob2⟩ := hob
        rw [hfv] at hf
        obtain ⟨ps, cs, hfe, hsz, hri⟩ := call_core (inlArgs_ok hF hl) hin hob2 hf ha
        obtain ⟨v, h1, h2⟩ := hext w _ hsz fun i x hx => (hri i x hx).plain (plainL_get hp hx)
        refine post_pure hF (v := v) ?_ (.base (h2.mono (fun _ h => h.elim) (fun _ _ _ => rfl)))
        simp only [execOp, ho, resolve, hfe, Deferred.ofValue, Sem.run_bind, Sem.run_pure, Result.andThen_ok, invoke]
        exact h1
      · cases h
    · cases h
  · cases h

end
end
section
open Go.RowKit

structure St where
  tmps : List AV
  mem : List Blk

def St.τ (s : St) (t : Nat) : AV := s.tmps.getD t (.tuple [])
def St.put (s : St) (d : Option Nat) (v : AV) : St := match d with
  | some d => ⟨s.tmps.set d v, s.mem⟩
  | none => s

def wantedAV (ops : List Oper) (τ : Nat → AV) (o : Oper) : Option Bool :=
  match o.guard with
  | none => some true
  | some (j, want) => match (ops[j]?).bind (·.dst) with
    | some d => match τ d with
      | .bool b => some (b == want)
      | .tuple _ => some false
      | _ => none
    | none => some false

def applyR (M : List Blk) (r : ORes) : Option (List Blk) := match r.wr with
  | some (i, b) => if Nat.blt i M.length then some (M.set i b ++ r.ns) else none
  | none => some (M ++ r.ns)

/-- A call that is lent all of the text's own memory. -/
def evMem (P : Program) (o : Oper) (st : St) (r : AV) (M : List Blk) : Option (St × List Prop) :=
  match o.op with
  | .call { callee := .value f, args, argTypes := _ } => match opd st.τ f with
    | .func (.func g) p c => some ((St.mk st.tmps M).put o.dst r, [FnM P g st.mem (p ++ args.toList.map (opd st.τ) ++ c) r M])
    | _ => none
  | _ => none

/-! A call that is lent some of the text's own blocks: they get names of the callee's (0, 1, ..). -/
def posN (is : List Nat) (id : Nat) : Option Nat := is.findIdx? (Nat.beq id)
mutual
def inN (look : Mem) (is : List Nat) : AV → Option AV
  | .ptr id off => (posN is id).map fun j => .ptr j off
  | .slice id lo len ver => match posN is id, look id with
    | some j, some (.row _ _ v) => if Nat.beq v ver then some (.slice j lo len 0) else none
    | _, _ => none
  | .ptrR _ _ _ _ => none
  | .map id => (posN is id).map .map
  | .tuple _ => none
  | .agg cs => (inNL look is cs).map .agg
  | .func f p c => match inNL look is p, inNL look is c with
    | some p', some c' => some (.func f p' c')
    | _, _ => none
  | .iface t v => (inN look is v).map (.iface t)
  | x => some x
def inNL (look : Mem) (is : List Nat) : List AV → Option (List AV)
  | [] => some []
  | x :: l => match inN look is x, inNL look is l with
    | some y, some l' => some (y :: l')
    | _, _ => none
end
def lentB (look : Mem) : List Nat → Option (List Blk × List Prop)
  | [] => some ([], [])
  | id :: is => match look id, lentB look is with
    | some (.cells cs), some (bs, ob) => (match idsL cs with
      | [] => some (.cells cs :: bs, ob)
      | _ => none)
    | some (.row k es _), some (bs, ob) => some (.row k es 0 :: bs, (∀ e ∈ es, idsOf e = []) :: ob)
    | some (.mp es), some (bs, ob) => some (.mp es :: bs, (∀ e ∈ es, idsOf e = []) :: ob)
    | _, _ => none
mutual
def outN (σ b : Nat → Nat) : AV → AV
  | .ptr id off => .ptr (σ id) off
  | .ptrR id ver i off => .ptrR (σ id) (ver + b id) i off
  | .slice id lo len ver => .slice (σ id) lo len (ver + b id)
  | .map id => .map (σ id)
  | .agg cs => .agg (outNL σ b cs)
  | .tuple cs => .tuple (outNL σ b cs)
  | .func f p c => .func f (outNL σ b p) (outNL σ b c)
  | .iface t v => .iface t (outN σ b v)
  | x => x
def outNL (σ b : Nat → Nat) : List AV → List AV
  | [] => []
  | x :: l => outN σ b x :: outNL σ b l
end
def outBk (σ b : Nat → Nat) (j : Nat) : Blk → Blk
  | .cells cs => .cells (outNL σ b cs)
  | .row k es ver => .row k es (ver + b j)
  | .mp es => .mp es
def outBs (σ b : Nat → Nat) : Nat → List Blk → List Blk
  | _, [] => []
  | j, x :: l => outBk σ b j x :: outBs σ b (j + 1) l
def freeBs : List Blk → List Prop
  | [] => []
  | .cells _ :: l => freeBs l
  | .mp es :: l => (∀ e ∈ es, idsOf e = []) :: freeBs l
  | .row _ es _ :: l => (∀ e ∈ es, idsOf e = []) :: freeBs l
def sameBs : List Blk → List Blk → Bool
  | [], _ => true
  | .cells cs :: l, .cells cs' :: l' => Nat.beq cs.length cs'.length && sameBs l l'
  | .row k _ _ :: l, .row k' _ _ :: l' => Nat.beq k k' && sameBs l l'
  | .mp _ :: l, .mp _ :: l' => sameBs l l'
  | _, _ => false
def setBs (N : List Blk) : List Nat → List Blk → List Blk
  | i :: is, b :: bs => setBs (N.set i b) is bs
  | [], bs => N ++ bs
  | _ :: _, [] => N
def nodupL : List Nat → Bool
  | [] => true
  | x :: l => !l.any (Nat.beq x) && nodupL l
def sigN (n0 : Nat) (is : List Nat) (j : Nat) : Nat := match is[j]? with | some i => i | none => n0 + (j - is.length)
def bmpN (look : Mem) (is : List Nat) (j : Nat) : Nat := match is[j]? with
  | some i => match look i with
    | some (.row _ _ v) => v + 1
    | _ => 0
  | none => 0
def evLent (P : Program) (o : Oper) (st : St) (is : List Nat) (r : AV) (R : List Blk) : Option (St × List Prop) :=
  match o.op with
  | .call { callee := .value f, args, argTypes := _ } => match opd st.τ f with
    | .func (.func g) p c => match inNL (memL st.mem) is (p ++ args.toList.map (opd st.τ) ++ c), lentB (memL st.mem) is with
      | some xs, some (M, ob) => if nodupL is && sameBs M R then
          some ((St.mk st.tmps (setBs st.mem is (outBs (sigN st.mem.length is) (bmpN (memL st.mem) is) 0 R))).put o.dst (outN (sigN st.mem.length is) (bmpN (memL st.mem) is) r), FnL P g M xs r R :: (ob ++ freeBs R)) else none
      | _, _ => none
    | _ => none
  | _ => none

def evStep (P : Program) (ops : List Oper) (o : Oper) (s : Sup) (st : St) : Option (St × List Prop) :=
  match wantedAV ops st.τ o with
  | some true => match s with
    | .m r M => evMem P o st r M
    | .l is r R => evLent P o st is r R
    | s => match evAny P o.op o.type st.τ (memL st.mem) st.mem.length s with
      | some r => match applyR st.mem r with
        | some M => some ((St.mk st.tmps M).put o.dst r.v, r.ob)
        | none => none
      | none => none
  | some false => some (st.put o.dst (.tuple []), [])
  | none => none

def evSeq (P : Program) (ops : List Oper) : List Oper → List Sup → St → Option (St × List Sup × List Prop)
  | [], ss, st => some (st, ss, [])
  | o :: l, s :: ss, st => match evStep P ops o s st with
    | some (st1, o1) => match evSeq P ops l ss st1 with
      | some (st2, ss2, o2) => some (st2, ss2, o1 ++ o2)
      | none => none
    | none => none
  | _ :: _, [], _ => none

structure RS (dd : List Deferred) (A : Nat → Prop) (ρ : Nat → Nat) (st : St) (a : Act) (w : World) : Prop where
  fits : Fits A (memL st.mem) ρ w
  size : a.tmps.size = st.tmps.length
  df : a.defers = dd
  rep : ∀ t v, st.tmps[t]? = some v → Rep A (memL st.mem) ρ w v (a.tmps.getD t undef)

section
variable {P : Program} {dd : List Deferred} {ro : Option Nat} {A : Nat → Prop} {m : Mem} {ρ : Nat → Nat} {w : World} {a : Act} {o : Oper} {n0 : Nat}

theorem mapCall_ok {f : Operand} {args : Array Operand} {ts : Array TypeId} {τ : Nat → AV} {look : Mem} {rr : AV} {RR : List Blk} {r : ORes} (hF : Fits A m ρ w) (hup : ∀ b, w.heap.size ≤ b → A b) (hl : ∀ id b, look id = some b → m id = some b) (hn : ∀ j, j < r.ns.length → m (n0 + j) = none)
    (ho : o.op = .call { callee := .value f, args := args, argTypes := ts }) (h : evMapCall P look n0 (opd τ f) (args.toList.map (opd τ)) rr RR = some r) (hob : AllP r.ob) (hf : Rep A m ρ w (opd τ f) (a.eval f)) (ha : ∀ x ∈ args, Rep A m ρ w (opd τ x) (a.eval x)) :
    OpPost P A m ρ w a o n0 r := by
  intro ro K Q hK
  unfold evMapCall at h
  split at h
  · rename_i g id hfv hav
    split at h
    · rename_i es hlk
      cases h
      obtain ⟨⟨hcal, hfn⟩, hfree⟩ := hob
      rw [hfv] at hf
      obtain ⟨ps, cs, hfe, hps, hcs, _, _⟩ := rep_func hf
      obtain rfl : ps = #[] := by simpa using hps
      obtain rfl : cs = #[] := by simpa using hcs
      obtain ⟨x, hx⟩ : ∃ x, args = #[x] := by
        have : args.toList.length = 1 := by have := congrArg List.length hav; simpa using this
        match args, this with
        | ⟨[x]⟩, _ => exact ⟨x, rfl⟩
      subst hx
      have hxr := ha x (by simp)
      have hxo : opd τ x = .map id := by simpa using hav
      rw [hxo] at hxr
      obtain ⟨hxe, _⟩ := rep_map hxr
      obtain ⟨ents, hv, hs, hr⟩ := mp_of_fits hF (hl _ _ hlk)
      refine calls_enter (fid := g) (vs := #[.map (some (ρ id))]) ?_ ((hfn w (ρ id) ents hv hs fun i y e h1 h2 => by
        obtain ⟨k, v, e1, e2, e3, _⟩ := hr i y e h1 h2
        exact ⟨k, v, e1, e2, e3⟩).mono ?_)
      · simp only [execOp, ho, resolve, hfe, Deferred.ofValue, Sem.run_bind, Sem.run_pure, Result.andThen_ok, invoke]
        have := callable_ok hcal #[.map (some (ρ id))] w
        simpa [hxe] using this
      · rintro e w' ⟨v, ρc, rfl, hE, hR, hrv⟩
        obtain ⟨ρ', g1, g2, g3, g4⟩ := step_call (n0 := n0) hF hup (R := RR) (fun j hj => hn j (by simpa using hj)) hE hR (fun b hb => .inl hb) hrv
        refine ⟨v, rfl, hK v ρ' w' ?_ ?_ ?_⟩
        · show Ext m ρ w (updM m none n0 (RR.map (shiftC n0))) ρ' w'
          rw [shiftC_is n0 RR hfree]; exact g1
        · show Fits A (updM m none n0 (RR.map (shiftC n0))) ρ' w'
          rw [shiftC_is n0 RR hfree]; exact g2
        · show Rep A (updM m none n0 (RR.map (shiftC n0))) ρ' w' (shiftR n0 rr RR) v
          rw [shiftC_is n0 RR hfree]
          cases RR with
          | nil => exact shift_nil (R := []) hrv g4
          | cons x l => exact g3
    · cases h
  · cases h

theorem any_ok {τ : Nat → AV} {look : Mem} {s : Sup} {r : ORes} (hF : Fits A m ρ w) (hup : ∀ b, w.heap.size ≤ b → A b) (hl : ∀ id b, look id = some b → m id = some b) (hn : ∀ j, j < r.ns.length → m (n0 + j) = none) (h : evAny P o.op o.type τ look n0 s = some r) (hob : AllP r.ob)
    (hr : ∀ x ∈ o.op.operands, Rep A m ρ w (opd τ x) (a.eval x)) : OpPost P A m ρ w a o n0 r := by
  unfold evAny at h
  split at h
  · rename_i f args ts hop
    have hf := hr f (by rw [hop]; simp [Op.operands, Call.operands])
    have ha : ∀ x ∈ args, Rep A m ρ w (opd τ x) (a.eval x) := fun x hx => hr x (by rw [hop]; simp [Op.operands, Call.operands, hx])
    split at h
    · exact ext_ok hF hl hop h hob hf ha
    · exact mapCall_ok hF hup hl hn hop h hob hf ha
    · exact call_ok hF hup hl hn hop h hob hf ha
  · rename_i f name args ts hop
    have hf := hr f (by rw [hop]; simp [Op.operands, Call.operands])
    have ha : ∀ x ∈ args, Rep A m ρ w (opd τ x) (a.eval x) := fun x hx => hr x (by rw [hop]; simp [Op.operands, Call.operands, hx])
    split at h
    · exact inv_ok hF hup hl hop h hob hf ha
    · cases h
  · obtain ⟨r', h1, rfl⟩ := Option.map_eq_some_iff.1 h
    exact fin_post (evOp_ok hF hl (fun j hj => hn j (by cases s <;> exact hj)) h1 (fin_ob hob) hr) hob

theorem RS.eval {st : St} (h : RS dd A ρ st a w) (t : Nat) : Rep A (memL st.mem) ρ w (st.τ t) (a.eval (.tmp t)) := by
  unfold St.τ
  show Rep _ _ _ _ _ (a.tmps.getD t undef)
  cases hv : st.tmps[t]? with
  | some v => rw [List.getD_eq_getElem?_getD, hv]; exact h.rep t v hv
  | none =>
    rw [List.getD_eq_getElem?_getD, hv, Array.getD_eq_getD_getElem?, Array.getElem?_eq_none (by rw [h.size]; exact List.getElem?_eq_none_iff.1 hv)]
    exact .base (.tuple [] #[] rfl (fun i c hc => by simp at hc))

theorem RS.opd {st : St} (h : RS dd A ρ st a w) (x : Operand) : Rep A (memL st.mem) ρ w (opd st.τ x) (a.eval x) := rep_opd fun t _ => h.eval t

theorem RS.put {st : St} (h : RS dd A ρ st a w) (d : Option Nat) {x : AV} {v : Value} (hx : Rep A (memL st.mem) ρ w x v) : RS dd A ρ (st.put d x) (a.put d v) w := by
  cases d with
  | none => exact h
  | some d =>
    refine ⟨h.fits, by simp [St.put, Act.put, h.size], h.df, fun t y hy => ?_⟩
    simp only [St.put] at hy ⊢
    rw [List.getElem?_set] at hy
    simp only [Act.put]
    rw [Array.getD_eq_getD_getElem?, Array.getElem?_setIfInBounds]
    by_cases hd : d = t
    · subst hd
      rw [if_pos rfl] at hy ⊢
      split at hy
      · rename_i hlt
        rw [if_pos (by rw [h.size]; exact hlt)]
        obtain rfl := Option.some.inj hy
        exact hx
      · cases hy
    · rw [if_neg hd] at hy ⊢
      rw [← Array.getD_eq_getD_getElem?]
      exact h.rep t y hy

theorem applyR_ok {M M' : List Blk} {r : ORes} (h : applyR M r = some M') : memL M' = updM (memL M) r.wr M.length r.ns := by
  unfold applyR at h
  split at h
  · rename_i i b hwr
    split at h
    · rename_i hlt
      have hlt : i < M.length := Eq.mp Nat.blt_eq hlt
      obtain rfl := Option.some.inj h
      funext id
      rw [hwr]
      simp only [memL, updM]
      by_cases h1 : M.length ≤ id
      · rw [if_pos h1, List.getElem?_append_right (by simpa using h1)]
        simp only [List.length_set]
        cases h2 : r.ns[id - M.length]? with
        | some b' => rfl
        | none => rw [if_neg (by omega), List.getElem?_eq_none h1]
      · rw [if_neg h1, List.getElem?_append_left (by simp; omega), List.getElem?_set]
        by_cases h3 : i = id
        · subst h3; simp [hlt]
        · simp [h3]
    · cases h
  · rename_i hwr
    obtain rfl := Option.some.inj h
    funext id
    rw [hwr]
    simp only [memL, updM]
    by_cases h1 : M.length ≤ id
    · rw [if_pos h1, List.getElem?_append_right h1]
      cases h2 : r.ns[id - M.length]? with
      | some b' => rfl
      | none => rw [List.getElem?_eq_none h1]
    · rw [if_neg h1, List.getElem?_append_left (by omega)]

theorem memL_out (M : List Blk) (j : Nat) : memL M (M.length + j) = none := by simp [memL]

theorem RS.step {st : St} (h : RS dd A ρ st a w) {M : List Blk} {ρ' : Nat → Nat} {w' : World} (hE : Ext (memL st.mem) ρ w (memL M) ρ' w') (hF : Fits A (memL M) ρ' w') : RS dd A ρ' ⟨st.tmps, M⟩ a w' :=
  ⟨hF, h.size, h.df, fun t v hv => (h.rep t v hv).mono hE⟩

theorem wanted_ok {ops : Array Oper} {τ : Nat → AV} {b : Bool} (hτ : ∀ j c t, o.guard = some (j, c) → (ops[j]?).bind (·.dst) = some t → Rep A m ρ w (τ t) (a.eval (.tmp t))) (h : wantedAV ops.toList τ o = some b) : Region.wanted o (yielded ops a.tmps) = b := by
  unfold wantedAV at h
  unfold Region.wanted
  split at h
  · rename_i hg
    obtain rfl := Option.some.inj h
    rw [hg]
  · rename_i j want hg
    rw [hg]
    simp only [yielded]
    have hj : (ops.toList[j]?).bind (·.dst) = (ops[j]?).bind (·.dst) := by simp
    rw [hj] at h
    split at h
    · rename_i d hd
      have hv := hτ j want d hg (hj ▸ hd)
      have he : a.eval (.tmp d) = (a.tmps[d]?).getD undef := by show a.tmps.getD d undef = _; rw [Array.getD_eq_getD_getElem?]
      split at h
      · rename_i c hc
        obtain rfl := Option.some.inj h
        rw [hc] at hv
        have := rep_bool hv
        rw [he] at this
        simp only [hd, Option.bind_some]
        cases hx : a.tmps[d]? with
        | none => rw [hx] at this; cases this
        | some v =>
          rw [hx] at this
          simp only [Option.getD_some] at this
          subst this
          cases c <;> cases want <;> rfl
      · rename_i c hc
        obtain rfl := Option.some.inj h
        rw [hc] at hv
        obtain ⟨us, hu, _⟩ := rep_tuple hv
        rw [he] at hu
        simp only [hd, Option.bind_some]
        cases hx : a.tmps[d]? with
        | none => rfl
        | some v =>
          rw [hx] at hu
          simp only [Option.getD_some] at hu
          subst hu
          rfl
      · cases h
    · rename_i hd
      obtain rfl := Option.some.inj h
      simp [hd]

theorem up_ext {m' : Mem} {ρ' : Nat → Nat} {w' : World} (h : Ext m ρ w m' ρ' w') (hup : ∀ b, w.heap.size ≤ b → A b) : ∀ b, w'.heap.size ≤ b → A b := fun b hb => hup b (Nat.le_trans h.size hb)

theorem Rep.subA {A' : Nat → Prop} (hA : ∀ b, A b → A' b) {x : AV} {v : Value} (h : Rep A m ρ w x v) : Rep A' m ρ w x v := by
  induction h with
  | base h => exact .base (h.mono (fun b hb => ⟨hA b hb.1, hb.2.1, hb.2.2⟩) (fun _ _ _ => rfl))
  | ptr id off cs hm => exact .ptr id off cs hm
  | ptrR id ver i off k es ver' a hm hle hv => exact .ptrR id ver i off k es ver' a hm hle hv
  | slice id lo len ver k es ver' a n c hm hle hv => exact .slice id lo len ver k es ver' a n c hm hle hv
  | map id es hm => exact .map id es hm
  | agg cs vs hs h ih => exact .agg cs vs hs ih
  | tuple cs vs hs h ih => exact .tuple cs vs hs ih
  | func f p c ps cs hp hc h k ih ik => exact .func f p c ps cs hp hc ih ik
  | iface t x v h ih => exact .iface t x v ih
theorem Fits.subA {A' : Nat → Prop} (hA : ∀ b, A b → A' b) (h : Fits A m ρ w) : Fits A' m ρ w := ⟨h.inj, fun id b hb => by
  have := h.at_ id b hb
  cases b with
  | cells cs =>
    obtain ⟨vs, t, h1, h2, h3⟩ := this
    exact ⟨vs, t, h1, h2, fun i c hc => (h3 i c hc).subA hA⟩
  | row k es ver =>
    obtain ⟨h0, h4, vs, t, h1, h2, h3⟩ := this
    exact ⟨h0, h4, vs, t, h1, h2, fun i e j c he hc => (h3 i e j c he hc).subA hA⟩
  | mp es =>
    obtain ⟨ents, h1, h2, h3⟩ := this
    exact ⟨ents, h1, h2, fun i x e q1 q2 => by
      obtain ⟨k, v, e1, e2, e3, e4⟩ := h3 i x e q1 q2
      exact ⟨k, v, e1, e2, e3, e4.subA hA⟩⟩⟩

theorem mem_ok {st st' : St} {rr : AV} {M : List Blk} {ob : List Prop} {K : Act → World → Prop} {Q : Exit → Act → World → Prop} (h : RS dd A ρ st a w) (hup : ∀ b, w.heap.size ≤ b → A b) (he : evMem P o st rr M = some (st', ob)) (hob : AllP ob)
    (hK : ∀ a' ρ' w', RS dd A ρ' st' a' w' → Ext (memL st.mem) ρ w (memL st'.mem) ρ' w' → K a' w') : o.wpIn (FR ro) 0 P a w K Q := by
  unfold evMem at he
  split at he
  · rename_i f args ts hop
    split at he
    · rename_i g p c hfv
      cases he
      obtain ⟨⟨hcal, hfn⟩, _⟩ := hob
      obtain ⟨ps, cs, hfe, hps, hcs, hpr, hcr⟩ := rep_func (hfv ▸ h.opd f)
      obtain ⟨hs1, hr1⟩ := args_rep (q := args) (fun x _ => h.opd x)
      have up : ∀ b, A b → Allow A w.heap.size b := fun b hb => .inl hb
      have dn : ∀ b, Allow A w.heap.size b → A b := fun b hb => by rcases hb with hb | hb; exact hb; exact hup b hb
      refine calls_enter (fid := g) (vs := ps ++ args.map a.eval ++ cs) ?_ ((hfn A ρ w _ (h.fits.subA up) ?_ ?_).mono ?_)
      · simp only [execOp, hop, resolve, hfe, Deferred.ofValue, Sem.run_bind, Sem.run_pure, Result.andThen_ok, invoke]
        exact callable_ok hcal _ w
      · simp [hps, hcs]
      · intro i x hx
        refine Rep.subA up ?_
        rw [Array.getD_eq_getD_getElem?]
        by_cases h1 : i < p.length
        · rw [List.append_assoc, List.getElem?_append_left h1] at hx
          rw [Array.append_assoc, Array.getElem?_append_left (by omega), ← Array.getD_eq_getD_getElem?]
          exact hpr i x hx
        · by_cases h2 : i < p.length + args.size
          · rw [List.getElem?_append_left (by simp; omega), List.getElem?_append_right (by omega)] at hx
            rw [Array.getElem?_append_left (by simp; omega), Array.getElem?_append_right (by omega), hps, ← Array.getD_eq_getD_getElem?]
            exact hr1 _ x hx
          · rw [List.getElem?_append_right (by simp; omega)] at hx
            rw [Array.getElem?_append_right (by simp; omega), ← Array.getD_eq_getD_getElem?]
            have := hcr _ x hx
            simpa [hps] using this
      · rintro e w' ⟨v, ρ', rfl, hE, hF', hR'⟩
        refine ⟨v, rfl, hK _ ρ' w' (((h.step (M := M) hE (hF'.subA dn)).put o.dst (hR'.subA dn))) ?_⟩
        have : (St.put ⟨st.tmps, M⟩ o.dst rr).mem = M := by cases o.dst <;> rfl
        rw [this]; exact hE
    · cases he
  · cases he

theorem ids_cell {e c : AV} {j : Nat} (h : idsOf e = []) (hc : (cellsOf e)[j]? = some c) : idsOf c = [] := by
  rw [List.eq_nil_iff_forall_not_mem]
  intro n hn
  have : n ∈ idsOf e := by
    cases e with
    | agg cs => simp only [idsOf]; exact idsL_get hc hn
    | _ =>
      simp only [cellsOf] at hc
      obtain ⟨q1, q2⟩ := List.getElem?_eq_some_iff.1 hc
      have : j = 0 := by simp at q1; omega
      subst this
      simp at q2
      rw [← q2] at hn; exact hn
  rw [h] at this; cases this

theorem nodupL_ok : ∀ {l : List Nat}, nodupL l = true → l.Nodup
  | [], _ => List.nodup_nil
  | x :: l, h => by
    simp only [nodupL, Bool.and_eq_true, Bool.not_eq_true', List.any_eq_false] at h
    exact List.nodup_cons.2 ⟨fun hx => h.1 x hx (Nat.beq_refl x), nodupL_ok h.2⟩
theorem posN_ok {is : List Nat} {id j : Nat} (h : posN is id = some j) : is[j]? = some id := by
  unfold posN at h
  obtain ⟨hj, hp, _⟩ := List.findIdx?_eq_some_iff_getElem.1 h
  rw [List.getElem?_eq_getElem hj, Nat.eq_of_beq_eq_true hp]
theorem nodup_at : ∀ {l : List Nat} {i j x : Nat}, l.Nodup → l[i]? = some x → l[j]? = some x → i = j
  | [], _, _, _, _, h, _ => by simp at h
  | y :: l, i, j, x, hn, h, k => by
    obtain ⟨h1, h2⟩ := List.nodup_cons.1 hn
    cases i with
    | zero =>
      cases j with
      | zero => rfl
      | succ j => simp at h k; subst h; exact absurd (List.mem_of_getElem? k) h1
    | succ i =>
      cases j with
      | zero => simp at h k; subst k; exact absurd (List.mem_of_getElem? h) h1
      | succ j => simp at h k; rw [nodup_at h2 h k]

/-- What the lent blocks are to the callee. -/
theorem lentB_get {look : Mem} : ∀ (is : List Nat) (M : List Blk) (ob : List Prop), lentB look is = some (M, ob) → AllP ob → M.length = is.length ∧ ∀ (j id : Nat), is[j]? = some id →
    (∃ cs, look id = some (.cells cs) ∧ M[j]? = some (.cells cs) ∧ idsL cs = []) ∨ (∃ k es ver, look id = some (.row k es ver) ∧ M[j]? = some (.row k es 0) ∧ ∀ e ∈ es, idsOf e = []) ∨ (∃ es, look id = some (.mp es) ∧ M[j]? = some (.mp es) ∧ ∀ e ∈ es, idsOf e = [])
  | [], M, ob, h, _ => by
    cases h; exact ⟨rfl, fun j id h => by simp at h⟩
  | i :: is, M, ob, h, hob => by
    unfold lentB at h
    split at h
    · rename_i cs bs o1 h1 h2
      split at h
      · rename_i h3
        cases h
        obtain ⟨h4, h5⟩ := lentB_get is bs _ h2 hob
        refine ⟨by simp [h4], fun j id hj => ?_⟩
        cases j with
        | zero => simp at hj; subst hj; exact .inl ⟨cs, h1, rfl, h3⟩
        | succ j => simpa using h5 j id (by simpa using hj)
      · cases h
    · rename_i k es v bs o1 h1 h2
      cases h
      obtain ⟨h4, h5⟩ := lentB_get is bs o1 h2 hob.2
      refine ⟨by simp [h4], fun j id hj => ?_⟩
      cases j with
      | zero => simp at hj; subst hj; exact .inr (.inl ⟨k, es, v, h1, rfl, hob.1⟩)
      | succ j => simpa using h5 j id (by simpa using hj)
    · rename_i es bs o1 h1 h2
      cases h
      obtain ⟨h4, h5⟩ := lentB_get is bs o1 h2 hob.2
      refine ⟨by simp [h4], fun j id hj => ?_⟩
      cases j with
      | zero => simp at hj; subst hj; exact .inr (.inr ⟨es, h1, rfl, hob.1⟩)
      | succ j => simpa using h5 j id (by simpa using hj)
    · cases h
theorem outBs_get (σ b : Nat → Nat) : ∀ (R : List Blk) (k j : Nat), (outBs σ b k R)[j]? = (R[j]?).map (outBk σ b (k + j))
  | [], k, j => by simp [outBs]
  | x :: l, k, j => by
    cases j with
    | zero => simp [outBs]
    | succ j =>
      simp only [outBs, List.getElem?_cons_succ]
      rw [outBs_get σ b l (k + 1) j, show k + 1 + j = k + (j + 1) by omega]
theorem outBs_len (σ b : Nat → Nat) : ∀ (R : List Blk) (k : Nat), (outBs σ b k R).length = R.length
  | [], k => rfl
  | x :: l, k => by simp [outBs, outBs_len σ b l]
theorem sameBs_get : ∀ {M R : List Blk}, sameBs M R = true → M.length ≤ R.length ∧ ∀ (j : Nat) (b : Blk), M[j]? = some b → ∃ b' : Blk, R[j]? = some b' ∧ match b, b' with
    | .cells cs, .cells cs' => cs.length = cs'.length
    | .row k _ _, .row k' _ _ => k = k'
    | .mp _, .mp _ => True
    | _, _ => False
  | [], R, _ => ⟨Nat.zero_le _, fun j b h => by simp at h⟩
  | .cells cs :: l, .cells cs' :: l', h => by
    simp only [sameBs, Bool.and_eq_true] at h
    obtain ⟨h1, h2⟩ := sameBs_get h.2
    refine ⟨by simp; exact h1, fun j b hj => ?_⟩
    cases j with
    | zero => simp at hj; subst hj; exact ⟨_, rfl, Nat.eq_of_beq_eq_true h.1⟩
    | succ j => simpa using h2 j b (by simpa using hj)
  | .row k es v :: l, .row k' es' v' :: l', h => by
    simp only [sameBs, Bool.and_eq_true] at h
    obtain ⟨h1, h2⟩ := sameBs_get h.2
    refine ⟨by simp; exact h1, fun j b hj => ?_⟩
    cases j with
    | zero => simp at hj; subst hj; exact ⟨_, rfl, Nat.eq_of_beq_eq_true h.1⟩
    | succ j => simpa using h2 j b (by simpa using hj)
  | .cells _ :: _, [], h => by simp [sameBs] at h
  | .row _ _ _ :: _, [], h => by simp [sameBs] at h
  | .cells _ :: _, .row _ _ _ :: _, h => by simp [sameBs] at h
  | .row _ _ _ :: _, .cells _ :: _, h => by simp [sameBs] at h
  | .mp _ :: _, [], h => by simp [sameBs] at h
  | .mp _ :: _, .cells _ :: _, h => by simp [sameBs] at h
  | .mp _ :: _, .row _ _ _ :: _, h => by simp [sameBs] at h
  | .mp es :: l, .mp es' :: l', h => by
    simp only [sameBs] at h
    obtain ⟨h1, h2⟩ := sameBs_get h
    refine ⟨by simp; exact h1, fun j b hj => ?_⟩
    cases j with
    | zero => simp at hj; subst hj; exact ⟨_, rfl, trivial⟩
    | succ j => simpa using h2 j b (by simpa using hj)
  | .cells _ :: _, .mp _ :: _, h => by simp [sameBs] at h
  | .row _ _ _ :: _, .mp _ :: _, h => by simp [sameBs] at h
theorem freeBs_get' : ∀ {R : List Blk}, AllP (freeBs R) → ∀ (j : Nat) (es : List AV), R[j]? = some (.mp es) → ∀ e ∈ es, idsOf e = []
  | [], _, j, es, h => by simp at h
  | .cells _ :: l, hob, j, es, h => by
    cases j with
    | zero => simp at h
    | succ j => exact freeBs_get' (R := l) hob j es (by simpa using h)
  | .row _ _ _ :: l, hob, j, es, h => by
    cases j with
    | zero => simp at h
    | succ j => exact freeBs_get' (R := l) hob.2 j es (by simpa using h)
  | .mp _ :: l, hob, j, es, h => by
    cases j with
    | zero => simp at h; subst h; exact hob.1
    | succ j => exact freeBs_get' (R := l) hob.2 j es (by simpa using h)
theorem freeBs_get : ∀ {R : List Blk}, AllP (freeBs R) → ∀ (j k : Nat) (es : List AV) (ver : Nat), R[j]? = some (.row k es ver) → ∀ e ∈ es, idsOf e = []
  | [], _, j, k, es, ver, h => by simp at h
  | .cells _ :: l, hob, j, k, es, ver, h => by
    cases j with
    | zero => simp at h
    | succ j => exact freeBs_get (R := l) hob j k es ver (by simpa using h)
  | .mp _ :: l, hob, j, k, es, ver, h => by
    cases j with
    | zero => simp at h
    | succ j => exact freeBs_get (R := l) hob.2 j k es ver (by simpa using h)
  | .row _ _ _ :: l, hob, j, k, es, ver, h => by
    cases j with
    | zero => simp at h; obtain ⟨rfl, rfl, rfl⟩ := h; exact hob.1
    | succ j => exact freeBs_get (R := l) hob.2 j k es ver (by simpa using h)
theorem setBs_out : ∀ (is : List Nat) (bs N : List Blk), is.length ≤ bs.length → (∀ i ∈ is, i < N.length) → ∀ id, id ∉ is → id < N.length → (setBs N is bs)[id]? = N[id]?
  | [], bs, N, _, _, id, _, hlt => by simp [setBs, List.getElem?_append_left hlt]
  | i :: is, [], N, h, _, _, _, _ => by simp at h
  | i :: is, b :: bs, N, h, hi, id, hn, hlt => by
    simp only [setBs]
    rw [setBs_out is bs (N.set i b) (by simpa using h) (fun x hx => by simpa using hi x (List.mem_cons_of_mem _ hx)) id (fun hx => hn (List.mem_cons_of_mem _ hx)) (by simpa using hlt)]
    rw [List.getElem?_set_ne (fun e => hn (by rw [e]; exact List.mem_cons_self))]
theorem setBs_at : ∀ (is : List Nat) (bs N : List Blk), is.length ≤ bs.length → (∀ i ∈ is, i < N.length) → is.Nodup → ∀ (j i : Nat), is[j]? = some i → (setBs N is bs)[i]? = bs[j]?
  | [], bs, N, _, _, _, j, i, h => by simp at h
  | x :: is, [], N, h, _, _, _, _, _ => by simp at h
  | x :: is, b :: bs, N, h, hi, hn, j, i, hj => by
    obtain ⟨n1, n2⟩ := List.nodup_cons.1 hn
    have hi' : ∀ y ∈ is, y < (N.set x b).length := fun y hy => by simpa using hi y (List.mem_cons_of_mem _ hy)
    simp only [setBs]
    cases j with
    | zero =>
      simp at hj; subst hj
      rw [setBs_out is bs _ (by simpa using h) hi' x n1 (by simpa using hi x List.mem_cons_self)]
      simp [List.getElem?_set_self (hi x List.mem_cons_self)]
    | succ j => simpa using setBs_at is bs (N.set x b) (by simpa using h) hi' n2 j i (by simpa using hj)
theorem setBs_new : ∀ (is : List Nat) (bs N : List Blk), is.length ≤ bs.length → ∀ q : Nat, (setBs N is bs)[N.length + q]? = bs[is.length + q]?
  | [], bs, N, _, q => by simp [setBs, List.getElem?_append_right]
  | i :: is, [], N, h, _ => by simp at h
  | i :: is, b :: bs, N, h, q => by
    simp only [setBs]
    have := setBs_new is bs (N.set i b) (by simpa using h) q
    rw [List.length_set] at this
    rw [this, List.length_cons, show is.length + 1 + q = (is.length + q) + 1 by omega, List.getElem?_cons_succ]

theorem outN_ri (σ b : Nat → Nat) {w : World} {B : Nat → Prop} {x : AV} {v : Value} (h : RI w B x v) : RI w B (outN σ b x) v := by
  have lst : ∀ (cs : List AV), outNL σ b cs = cs.map (outN σ b) := fun cs => by
    induction cs with
    | nil => rfl
    | cons c cs ih => simp [outNL, ih]
  have get : ∀ (cs : List AV) (u : Nat → Value), (∀ i c, cs[i]? = some c → RI w B (outN σ b c) (u i)) → ∀ i c, (outNL σ b cs)[i]? = some c → RI w B c (u i) := fun cs u hu i c hc => by
    rw [lst, List.getElem?_map] at hc
    obtain ⟨d, hd, rfl⟩ := Option.map_eq_some_iff.1 hc
    exact hu i d hd
  induction h with
  | any v => exact .any v
  | bool b => exact .bool b
  | int k n => exact .int k n
  | str s => exact .str s
  | nilptr => exact .nilptr
  | nilslice => exact .nilslice
  | nilfunc => exact .nilfunc
  | niliface => exact .niliface
  | nilmap => exact .nilmap
  | ptrIn e off b' o x hb hx hr ih => exact .ptrIn e off b' o x hb hx hr
  | lnil a cap h => exact .lnil a cap h
  | list l b' o cap k x hcap hb hk hx hr ih => exact .list l b' o cap k x hcap hb hk hx hr
  | agg cs vs hs h ih => exact .agg _ vs (by rw [lst]; simpa using hs) (get cs _ ih)
  | tuple cs vs hs h ih => exact .tuple _ vs (by rw [lst]; simpa using hs) (get cs _ ih)
  | func f p c ps cs hp hc' h k ih ik => exact .func f _ _ ps cs (by rw [lst]; simpa using hp) (by rw [lst]; simpa using hc') (get p _ ih) (get c _ ik)
  | iface t x v h ih => exact .iface t _ v ih
  | val v => exact .val v
  | pin x v h ih => exact .pin x v h

/-- From the callee's names to the caller's. -/
theorem outN_rep {A' : Nat → Prop} {mc m' : Mem} {ρ2 ρ' : Nat → Nat} {w' : World} (σ b : Nat → Nat) (hA : ∀ q, Alien A' mc ρ2 w' q → Alien A m' ρ' w' q) (hm : ∀ (j : Nat) (blk : Blk), mc j = some blk → m' (σ j) = some (outBk σ b j blk) ∧ ρ' (σ j) = ρ2 j)
    (hf : ∀ (j k : Nat) (es : List AV) (ver : Nat), mc j = some (.row k es ver) → ∀ e ∈ es, idsOf e = []) {x : AV} {v : Value} (h : Rep A' mc ρ2 w' x v) : Rep A m' ρ' w' (outN σ b x) v := by
  have lst : ∀ (cs : List AV), outNL σ b cs = cs.map (outN σ b) := fun cs => by
    induction cs with
    | nil => rfl
    | cons c cs ih => simp [outNL, ih]
  have get : ∀ (cs : List AV) (u : Nat → Value), (∀ i c, cs[i]? = some c → Rep A m' ρ' w' (outN σ b c) (u i)) → ∀ i c, (outNL σ b cs)[i]? = some c → Rep A m' ρ' w' c (u i) := fun cs u hu i c hc => by
    rw [lst, List.getElem?_map] at hc
    obtain ⟨d, hd, rfl⟩ := Option.map_eq_some_iff.1 hc
    exact hu i d hd
  induction h with
  | base h => exact .base (outN_ri σ b (h.mono (fun q hq => hA q hq) (fun _ _ _ => rfl)))
  | ptr id off cs hc =>
    obtain ⟨h1, h2⟩ := hm id _ hc
    rw [← h2]
    exact .ptr (σ id) off _ h1
  | ptrR id ver i off k es ver' a hc hle hv =>
    obtain ⟨h1, h2⟩ := hm id _ hc
    refine .ptrR (σ id) (ver + b id) i off k es (ver' + b id) a h1 (by omega) (fun he => ?_)
    rw [h2]; exact hv (by omega)
  | slice id lo len ver k es ver' a n c hc hle hv =>
    obtain ⟨h1, h2⟩ := hm id _ hc
    refine .slice (σ id) lo len (ver + b id) k es (ver' + b id) a n c h1 (by omega) (fun he => ?_)
    rw [h2]; exact hv (by omega)
  | map id es hc =>
    obtain ⟨h1, h2⟩ := hm id _ hc
    rw [← h2]
    exact .map (σ id) _ h1
  | agg cs vs hs h ih => exact .agg _ vs (by rw [lst]; simpa using hs) (get cs _ ih)
  | tuple cs vs hs h ih => exact .tuple _ vs (by rw [lst]; simpa using hs) (get cs _ ih)
  | func f p c ps cs hp hc h k ih ik => exact .func f _ _ ps cs (by rw [lst]; simpa using hp) (by rw [lst]; simpa using hc) (get p _ ih) (get c _ ik)
  | iface t x v h ih => exact .iface t _ v ih

theorem inNL_get {look : Mem} {is : List Nat} : ∀ {l l' : List AV}, inNL look is l = some l' → l'.length = l.length ∧ ∀ (i : Nat) (y : AV), l'[i]? = some y → ∃ x, l[i]? = some x ∧ inN look is x = some y
  | [], l', h => by unfold inNL at h; cases h; exact ⟨rfl, fun i y h => by simp at h⟩
  | x :: l, l', h => by
    unfold inNL at h
    split at h
    · rename_i y t h1 h2
      cases h
      obtain ⟨h3, h4⟩ := inNL_get h2
      refine ⟨by simp [h3], fun i z hz => ?_⟩
      cases i with
      | zero => simp at hz; subst hz; exact ⟨x, rfl, h1⟩
      | succ i => simpa using h4 i z (by simpa using hz)
    · cases h

/-- From the caller's names to the callee's. -/
theorem inN_rep {A' : Nat → Prop} {mc : Mem} {ρ1 : Nat → Nat} {is : List Nat} (hA : ∀ q, Alien A m ρ w q → Alien A' mc ρ1 w q)
    (hm : ∀ (j id : Nat), is[j]? = some id → ρ1 j = ρ id ∧ ((∃ cs cs', m id = some (.cells cs) ∧ mc j = some (.cells cs')) ∨ (∃ k es ver, m id = some (.row k es ver) ∧ mc j = some (.row k es 0)) ∨ ∃ es es', m id = some (.mp es) ∧ mc j = some (.mp es'))) {x : AV} {v : Value} (h : Rep A m ρ w x v) : ∀ {y : AV}, inN m is x = some y → Rep A' mc ρ1 w y v := by
  have riL : ∀ {x : AV} {v : Value}, RI w (Alien A m ρ w) x v → ∀ {y : AV}, inN m is x = some y → RI w (Alien A' mc ρ1 w) y v := fun {x v} h => by
    induction h with
    | any v => intro y hy; unfold inN at hy; cases hy; exact .any v
    | bool b => intro y hy; unfold inN at hy; cases hy; exact .bool b
    | int k n => intro y hy; unfold inN at hy; cases hy; exact .int k n
    | str s => intro y hy; unfold inN at hy; cases hy; exact .str s
    | nilptr => intro y hy; unfold inN at hy; cases hy; exact .nilptr
    | nilslice => intro y hy; unfold inN at hy; cases hy; exact .nilslice
    | nilfunc => intro y hy; unfold inN at hy; cases hy; exact .nilfunc
    | niliface => intro y hy; unfold inN at hy; cases hy; exact .niliface
    | nilmap => intro y hy; unfold inN at hy; cases hy; exact .nilmap
    | val v => intro y hy; unfold inN at hy; cases hy; exact .val v
    | pin x v h ih => intro y hy; unfold inN at hy; cases hy; exact (RI.pin x v h).mono (fun q hq => hA q hq) (fun _ _ _ => rfl)
    | ptrIn e off b' o x hb hx hr ih => intro y hy; unfold inN at hy; cases hy; exact (RI.ptrIn e off b' o x hb hx hr).mono (fun q hq => hA q hq) (fun _ _ _ => rfl)
    | lnil a cap h => intro y hy; unfold inN at hy; cases hy; exact .lnil a cap h
    | list l b' o cap k x hcap hb hk hx hr ih => intro y hy; unfold inN at hy; cases hy; exact (RI.list l b' o cap k x hcap hb hk hx hr).mono (fun q hq => hA q hq) (fun _ _ _ => rfl)
    | agg cs vs hs h ih =>
      intro y hy; unfold inN at hy
      obtain ⟨cs', h1, rfl⟩ := Option.map_eq_some_iff.1 hy
      obtain ⟨h2, h3⟩ := inNL_get h1
      exact .agg _ vs (by omega) (fun i c hc => by obtain ⟨x, hx, he⟩ := h3 i c hc; exact ih i x hx he)
    | tuple cs vs hs h ih => intro y hy; unfold inN at hy; cases hy
    | func f p c ps cs hp hc' h k ih ik =>
      intro y hy; unfold inN at hy
      split at hy
      · rename_i p' c' h1 h2
        cases hy
        obtain ⟨h3, h4⟩ := inNL_get h1
        obtain ⟨h5, h6⟩ := inNL_get h2
        exact .func f _ _ ps cs (by omega) (by omega) (fun i c hc => by obtain ⟨x, hx, he⟩ := h4 i c hc; exact ih i x hx he) (fun i c hc => by obtain ⟨x, hx, he⟩ := h6 i c hc; exact ik i x hx he)
      · cases hy
    | iface t x v h ih =>
      intro y hy; unfold inN at hy
      obtain ⟨z, h1, rfl⟩ := Option.map_eq_some_iff.1 hy
      exact .iface t _ v (ih h1)
  induction h with
  | base h => intro y hy; exact .base (riL h hy)
  | map id es hc =>
    intro y hy; unfold inN at hy
    obtain ⟨j, h1, rfl⟩ := Option.map_eq_some_iff.1 hy
    obtain ⟨e1, e2⟩ := hm j id (posN_ok h1)
    rw [← e1]
    rcases e2 with ⟨cs', cs2, h2, h3⟩ | ⟨k, es', ver, h2, h3⟩ | ⟨es', es2, h2, h3⟩
    · rw [hc] at h2; cases h2
    · rw [hc] at h2; cases h2
    · exact .map j es2 h3
  | ptr id off cs hc =>
    intro y hy; unfold inN at hy
    obtain ⟨j, h1, rfl⟩ := Option.map_eq_some_iff.1 hy
    obtain ⟨e1, e2⟩ := hm j id (posN_ok h1)
    rw [← e1]
    rcases e2 with ⟨cs', cs2, h2, h3⟩ | ⟨k, es, ver, h2, h3⟩ | ⟨es, es2, h2, h3⟩
    · exact .ptr j off _ h3
    · rw [h2] at hc; cases hc
    · rw [h2] at hc; cases hc
  | ptrR => intro y hy; unfold inN at hy; cases hy
  | slice id lo len ver k es ver' a n c hc hle hv =>
    intro y hy; unfold inN at hy
    split at hy
    · rename_i j k2 es2 v2 h1 h2
      split at hy
      · rename_i h3
        cases hy
        rw [h2] at hc; cases hc
        have h3 := Nat.eq_of_beq_eq_true h3
        obtain ⟨e1, e2⟩ := hm j id (posN_ok h1)
        rcases e2 with ⟨cs', cs2, h4, h5⟩ | ⟨k, es, ver, h4, h5⟩ | ⟨es', es2, h4, h5⟩
        rotate_left 2
        · rw [h2] at h4; cases h4
        · rw [h2] at h4; cases h4
        · rw [h2] at h4; cases h4
          refine .slice j lo len 0 _ _ 0 a n c h5 (Nat.le_refl _) (fun _ => ?_)
          rw [e1]; exact hv h3.symm
      · cases hy
    · cases hy
  | agg cs vs hs h ih =>
    intro y hy; unfold inN at hy
    obtain ⟨cs', h1, rfl⟩ := Option.map_eq_some_iff.1 hy
    obtain ⟨h2, h3⟩ := inNL_get h1
    exact .agg _ vs (by omega) (fun i c hc => by obtain ⟨x, hx, he⟩ := h3 i c hc; exact ih i x hx he)
  | tuple cs vs hs h ih => intro y hy; unfold inN at hy; cases hy
  | func f p c ps cs hp hc' h k ih ik =>
    intro y hy; unfold inN at hy
    split at hy
    · rename_i p' c' h1 h2
      cases hy
      obtain ⟨h3, h4⟩ := inNL_get h1
      obtain ⟨h5, h6⟩ := inNL_get h2
      exact .func f _ _ ps cs (by omega) (by omega) (fun i c hc => by obtain ⟨x, hx, he⟩ := h4 i c hc; exact ih i x hx he) (fun i c hc => by obtain ⟨x, hx, he⟩ := h6 i c hc; exact ik i x hx he)
    · cases hy
  | iface t x v h ih =>
    intro y hy; unfold inN at hy
    obtain ⟨z, h1, rfl⟩ := Option.map_eq_some_iff.1 hy
    exact .iface t _ v (ih h1)
theorem lent_ok {st st' : St} {is : List Nat} {rr : AV} {R : List Blk} {ob : List Prop} {K : Act → World → Prop} {Q : Exit → Act → World → Prop} (h : RS dd A ρ st a w) (hup : ∀ b, w.heap.size ≤ b → A b) (he : evLent P o st is rr R = some (st', ob)) (hob : AllP ob)
    (hK : ∀ a' ρ' w', RS dd A ρ' st' a' w' → Ext (memL st.mem) ρ w (memL st'.mem) ρ' w' → K a' w') : o.wpIn (FR ro) 0 P a w K Q := by
  unfold evLent at he
  split at he
  · rename_i f args ts hop
    split at he
    · rename_i g p c hfv
      split at he
      · rename_i xs M ob1 hin hlent
        split at he
        · rename_i hchk
          cases he
          obtain ⟨hfn, hob⟩ := hob
          obtain ⟨hob1, hfree⟩ := AllP.append hob
          simp only [Bool.and_eq_true] at hchk
          have hnd := nodupL_ok hchk.1
          obtain ⟨hlen, hsame⟩ := sameBs_get hchk.2
          obtain ⟨hM1, hM2⟩ := lentB_get is M ob1 hlent hob1
          obtain ⟨hcal, hfn⟩ := hfn
          have hne : ∀ j id, is[j]? = some id → memL st.mem id ≠ none ∧ id < st.mem.length := fun j id hj => by
            have : memL st.mem id ≠ none := by
              rcases hM2 j id hj with ⟨cs, h1, _⟩ | ⟨k, es, ver, h1, _⟩ | ⟨es, h1, _⟩ <;> rw [h1] <;> simp
            refine ⟨this, ?_⟩
            rcases Nat.lt_or_ge id st.mem.length with h1 | h1
            · exact h1
            · exact absurd (by simp [memL, List.getElem?_eq_none h1]) this
          obtain ⟨ps, cs, hfe, hps, hcs, hpr, hcr⟩ := rep_func (hfv ▸ h.opd f)
          obtain ⟨hs1, hr1⟩ := args_rep (q := args) (fun x _ => h.opd x)
          -- the callee's view
          have hal : ∀ q, Alien A (memL st.mem) ρ w q → Alien (Allow (Alien A (memL st.mem) ρ w) w.heap.size) (memL M) (fun j => ρ (is.getD j 0)) w q := fun q hq => ⟨.inl hq, hq.2.1, fun j hj he => by
            have hjl : j < is.length := by
              rcases Nat.lt_or_ge j M.length with h1 | h1
              · omega
              · exact absurd (by simp [memL, List.getElem?_eq_none h1]) hj
            have hg : is[j]? = some (is.getD j 0) := by rw [List.getD_eq_getElem?_getD, List.getElem?_eq_getElem hjl]; rfl
            exact hq.2.2 _ (hne j _ hg).1 he⟩
          have hget : ∀ j id, is[j]? = some id → is.getD j 0 = id := fun j id hj => by rw [List.getD_eq_getElem?_getD, hj]; rfl
          have hisl : ∀ j, memL M j ≠ none → j < is.length := fun j hj => by
            rcases Nat.lt_or_ge j M.length with h1 | h1
            · omega
            · exact absurd (by simp [memL, List.getElem?_eq_none h1]) hj
          have hisg : ∀ j, j < is.length → is[j]? = some (is.getD j 0) := fun j hj => by rw [List.getD_eq_getElem?_getD, List.getElem?_eq_getElem hj]; rfl
          have hfree1 : ∀ {x : AV} {v : Value}, idsOf x = [] → Rep A (memL st.mem) ρ w x v → Rep (Allow (Alien A (memL st.mem) ρ w) w.heap.size) (memL M) (fun j => ρ (is.getD j 0)) w x v := fun hi hx => .base ((hx.ri hi).mono (fun q hq => hal q hq) (fun _ _ _ => rfl))
          have hidc : ∀ {l : List AV} {i : Nat} {x : AV}, idsL l = [] → l[i]? = some x → idsOf x = [] := fun {l i x} hl hx => by
            rw [List.eq_nil_iff_forall_not_mem]
            intro n hn
            have := idsL_get hx hn
            rw [hl] at this; cases this
          have hF1 : Fits (Allow (Alien A (memL st.mem) ρ w) w.heap.size) (memL M) (fun j => ρ (is.getD j 0)) w := by
            refine ⟨fun i j hi hj he => ?_, fun j b hb => ?_⟩
            · have hi' := hisl i hi
              have hj' := hisl j hj
              have := h.fits.inj _ _ (hne i _ (hisg i hi')).1 (hne j _ (hisg j hj')).1 he
              exact nodup_at hnd (hisg i hi') (by rw [this]; exact hisg j hj')
            · have hj' := hisl j (by rw [hb]; simp)
              rcases hM2 j _ (hisg j hj') with ⟨cs, h1, h2, h3⟩ | ⟨k, es, ver, h1, h2, h3⟩ | ⟨es, h1, h2, h3⟩
              · rw [show memL M j = M[j]? from rfl, h2] at hb
                obtain rfl := Option.some.inj hb
                obtain ⟨us, t, e1, e2, e3⟩ := h.fits.at_ _ _ h1
                exact ⟨us, t, e1, e2, fun i x hx => hfree1 (hidc h3 hx) (e3 i x hx)⟩
              · rw [show memL M j = M[j]? from rfl, h2] at hb
                obtain rfl := Option.some.inj hb
                obtain ⟨e0, e4, us, t, e1, e2, e3⟩ := h.fits.at_ _ _ h1
                refine ⟨e0, e4, us, t, e1, e2, fun i e j' x hx hx' => hfree1 ?_ (e3 i e j' x hx hx')⟩
                exact ids_cell (h3 e (List.mem_of_getElem? hx)) hx'
              · rw [show memL M j = M[j]? from rfl, h2] at hb
                obtain rfl := Option.some.inj hb
                obtain ⟨ents, e1, e2, e3⟩ := h.fits.at_ _ _ h1
                refine ⟨ents, e1, e2, fun i x e hx he => ?_⟩
                obtain ⟨k, v, rfl, g2, g3, g4⟩ := e3 i x e hx he
                exact ⟨k, v, rfl, g2, g3, hfree1 (ids_cell (j := 1) (h3 _ (List.mem_of_getElem? hx)) rfl) g4⟩
          have hmap : ∀ j id, is[j]? = some id → (fun j => ρ (is.getD j 0)) j = ρ id ∧ ((∃ cs cs', memL st.mem id = some (.cells cs) ∧ memL M j = some (.cells cs')) ∨ (∃ k es ver, memL st.mem id = some (.row k es ver) ∧ memL M j = some (.row k es 0)) ∨ ∃ es es', memL st.mem id = some (.mp es) ∧ memL M j = some (.mp es')) := fun j id hj => by
            refine ⟨by simp only [hget j id hj], ?_⟩
            rcases hM2 j id hj with ⟨cs, h1, h2, _⟩ | ⟨k, es, ver, h1, h2, _⟩ | ⟨es, h1, h2, _⟩
            · exact .inl ⟨cs, cs, h1, h2⟩
            · exact .inr (.inl ⟨k, es, ver, h1, h2⟩)
            · exact .inr (.inr ⟨es, es, h1, h2⟩)
          obtain ⟨hxl, hxg⟩ := inNL_get hin
          refine calls_enter (fid := g) (vs := ps ++ args.map a.eval ++ cs) ?_ ((hfn (Alien A (memL st.mem) ρ w) (fun j => ρ (is.getD j 0)) w _ hF1 ?_ ?_).mono ?_)
          · simp only [execOp, hop, resolve, hfe, Deferred.ofValue, Sem.run_bind, Sem.run_pure, Result.andThen_ok, invoke]
            exact callable_ok hcal _ w
          · rw [hxl]; simp [hps, hcs]
          · intro i y hy
            obtain ⟨x, hx, hxy⟩ := hxg i y hy
            refine inN_rep hal hmap ?_ hxy
            rw [Array.getD_eq_getD_getElem?]
            by_cases h1 : i < p.length
            · rw [List.append_assoc, List.getElem?_append_left h1] at hx
              rw [Array.append_assoc, Array.getElem?_append_left (by omega), ← Array.getD_eq_getD_getElem?]
              exact hpr i x hx
            · by_cases h2 : i < p.length + args.size
              · rw [List.getElem?_append_left (by simp; omega), List.getElem?_append_right (by omega)] at hx
                rw [Array.getElem?_append_left (by simp; omega), Array.getElem?_append_right (by omega), hps, ← Array.getD_eq_getD_getElem?]
                exact hr1 _ x hx
              · rw [List.getElem?_append_right (by simp; omega)] at hx
                rw [Array.getElem?_append_right (by simp; omega), ← Array.getD_eq_getD_getElem?]
                have := hcr _ x hx
                simpa [hps] using this
          · rintro e w' ⟨v, ρ2, rfl, hE, hP, hF2, hR2⟩
            -- the caller's view of what came
            obtain ⟨R', hR'⟩ : ∃ R', R' = outBs (sigN st.mem.length is) (bmpN (memL st.mem) is) 0 R := ⟨_, rfl⟩
            rw [← hR'] at hK
            have hR'l : R'.length = R.length := by rw [hR', outBs_len]
            have hR'g : ∀ j, R'[j]? = (R[j]?).map (outBk (sigN st.mem.length is) (bmpN (memL st.mem) is) j) := fun j => by rw [hR', outBs_get, Nat.zero_add]
            have hil : ∀ i ∈ is, i < st.mem.length := fun i hi => by
              obtain ⟨j, hj⟩ := List.mem_iff_getElem?.1 hi
              exact (hne j i hj).2
            have hle : is.length ≤ R'.length := by omega
            obtain ⟨N', hN'⟩ : ∃ N', N' = setBs st.mem is R' := ⟨_, rfl⟩
            rw [← hN'] at hK
            obtain ⟨ρ', hρ'⟩ : ∃ ρ' : Nat → Nat, ρ' = fun id => match posN is id with | some j => ρ2 j | none => if st.mem.length ≤ id then ρ2 (is.length + (id - st.mem.length)) else ρ id := ⟨_, rfl⟩
            have posOf : ∀ j id, is[j]? = some id → posN is id = some j := fun j id hj => by
              cases hp : posN is id with
              | none =>
                unfold posN at hp
                rw [List.findIdx?_eq_none_iff] at hp
                have := hp id (List.mem_of_getElem? hj)
                rw [Nat.beq_refl] at this; cases this
              | some k => rw [nodup_at hnd (posN_ok hp) hj]
            have posNo : ∀ id, id ∉ is → posN is id = none := fun id hid => by
              cases hp : posN is id with
              | none => rfl
              | some k => exact absurd (List.mem_of_getElem? (posN_ok hp)) hid
            -- each name of the callee's
            have hit : ∀ j b, R[j]? = some b → memL N' (sigN st.mem.length is j) = some (outBk (sigN st.mem.length is) (bmpN (memL st.mem) is) j b) ∧ ρ' (sigN st.mem.length is j) = ρ2 j := fun j b hj => by
              by_cases hjl : j < is.length
              · have hg := hisg j hjl
                have hs : sigN st.mem.length is j = is.getD j 0 := by unfold sigN; rw [hg]
                rw [hs]
                refine ⟨?_, ?_⟩
                · show N'[is.getD j 0]? = _
                  rw [hN', setBs_at is R' st.mem hle hil hnd j _ hg, hR'g, hj]; rfl
                · rw [hρ']; simp only [posOf j _ hg]
              · have hs : sigN st.mem.length is j = st.mem.length + (j - is.length) := by unfold sigN; rw [List.getElem?_eq_none (by omega)]
                rw [hs]
                refine ⟨?_, ?_⟩
                · show N'[st.mem.length + (j - is.length)]? = _
                  rw [hN', setBs_new is R' st.mem hle, show is.length + (j - is.length) = j by omega, hR'g, hj]; rfl
                · rw [hρ']; simp only
                  rw [posNo _ (fun hm => by have := hil _ hm; omega)]
                  simp only
                  rw [if_pos (by omega), show is.length + (st.mem.length + (j - is.length) - st.mem.length) = j by omega]
            have miss : ∀ id, id ∉ is → id < st.mem.length → memL N' id = memL st.mem id ∧ ρ' id = ρ id := fun id h1 h2 => by
              refine ⟨?_, ?_⟩
              · show N'[id]? = st.mem[id]?
                rw [hN', setBs_out is R' st.mem hle hil id h1 h2]
              · rw [hρ']; simp only
                rw [posNo _ h1]; simp only
                rw [if_neg (by omega)]
            have cases3 : ∀ id, memL N' id ≠ none → (∃ j b, R[j]? = some b ∧ sigN st.mem.length is j = id) ∨ (id ∉ is ∧ id < st.mem.length) := fun id hid => by
              by_cases h1 : id ∈ is
              · obtain ⟨j, hj⟩ := List.mem_iff_getElem?.1 h1
                have hjl := (List.getElem?_eq_some_iff.1 hj).1
                exact .inl ⟨j, R[j]'(by omega), List.getElem?_eq_getElem (by omega), by unfold sigN; rw [hj]⟩
              · by_cases h2 : id < st.mem.length
                · exact .inr ⟨h1, h2⟩
                · left
                  have e : memL N' id = R'[is.length + (id - st.mem.length)]? := by
                    show N'[id]? = _
                    rw [show id = st.mem.length + (id - st.mem.length) by omega, hN', setBs_new is R' st.mem hle]
                    congr 2; omega
                  have hlt : is.length + (id - st.mem.length) < R.length := by
                    rcases Nat.lt_or_ge (is.length + (id - st.mem.length)) R'.length with h3 | h3
                    · omega
                    · rw [e, List.getElem?_eq_none h3] at hid; exact absurd rfl hid
                  refine ⟨is.length + (id - st.mem.length), _, List.getElem?_eq_getElem hlt, ?_⟩
                  unfold sigN
                  rw [List.getElem?_eq_none (by omega)]
                  simp only; omega
            have hlt : ∀ id, memL st.mem id ≠ none → ρ id < w.heap.size := fun id hid => h.fits.lt hid
            -- where the callee's names lie
            have hids : ∀ j, memL R j ≠ none → (j < is.length ∧ ρ2 j = ρ (is.getD j 0)) ∨ w.heap.size ≤ ρ2 j := fun j hj => by
              rcases hE.ids j hj with ⟨h1, h2⟩ | h1
              · exact .inl ⟨hisl j h1, h2⟩
              · exact .inr h1
            have hframe : ∀ q, q < w.heap.size → (∀ i ∈ is, ρ i ≠ q) → w'.heap[q]? = w.heap[q]? := fun q hq hn => hE.frame q hq fun j hj he => hn (is.getD j 0) (List.mem_of_getElem? (hisg j (hisl j hj))) he
            have hext : Ext (memL st.mem) ρ w (memL N') ρ' w' := by
              refine ⟨hE.os, hE.tape, hE.output, hE.size, fun q hq hn => hframe q hq fun i hi => ?_, fun id hid => ?_, fun id b hb => ?_⟩
              · obtain ⟨j, hj⟩ := List.mem_iff_getElem?.1 hi
                exact hn i (hne j i hj).1
              · rcases cases3 id hid with ⟨j, b, hj, rfl⟩ | ⟨h1, h2⟩
                · rw [(hit j b hj).2]
                  rcases hids j (by show R[j]? ≠ none; rw [hj]; simp) with ⟨h1, h2⟩ | h1
                  · left
                    have hs : sigN st.mem.length is j = is.getD j 0 := by unfold sigN; rw [hisg j h1]
                    rw [hs]; exact ⟨(hne j _ (hisg j h1)).1, h2⟩
                  · exact .inr h1
                · obtain ⟨e1, e2⟩ := miss id h1 h2
                  rw [e1] at hid
                  exact .inl ⟨hid, e2⟩
              · by_cases h1 : id ∈ is
                · obtain ⟨j, hj⟩ := List.mem_iff_getElem?.1 h1
                  have hjl := (List.getElem?_eq_some_iff.1 hj).1
                  have hs : sigN st.mem.length is j = id := by unfold sigN; rw [hj]
                  rcases hM2 j id hj with ⟨cs, q1, q2, q3⟩ | ⟨k, es, ver, q1, q2, q3⟩ | ⟨es, q1, q2, q3⟩
                  · rw [q1] at hb; obtain rfl := Option.some.inj hb
                    obtain ⟨b', q4, q5⟩ := hsame j _ q2
                    cases b' with
                    | row _ _ _ => exact q5.elim
                    | mp _ => exact q5.elim
                    | cells cs' =>
                      obtain ⟨q6, q7⟩ := hit j _ q4
                      rw [hs] at q6 q7
                      have hll : (outNL (sigN st.mem.length is) (bmpN (memL st.mem) is) cs').length = cs.length := by
                        have : ∀ l : List AV, (outNL (sigN st.mem.length is) (bmpN (memL st.mem) is) l).length = l.length := fun l => by
                          induction l with
                          | nil => rfl
                          | cons x l ih => simp [outNL, ih]
                        rw [this]; exact q5.symm
                      obtain ⟨_, q8⟩ := hP.c (id := j) (by omega) (cs := cs) (by show M[j]? = _; exact q2)
                      have q9 : ρ' id = ρ id := by rw [q7, q8]; simp only [hget j id hj]
                      refine ⟨_, q6, hll, fun _ => ⟨q9, fun vs t hv => ?_⟩⟩
                      obtain ⟨us, u, e1, e2, _⟩ := hF2.at_ j _ (show memL R j = some (.cells cs') from q4)
                      obtain ⟨us0, u0, g1, g2, _⟩ := h.fits.at_ id _ q1
                      rw [g1] at hv; cases hv
                      rw [q8] at e1
                      simp only [hget j id hj] at e1
                      exact ⟨us, u, e1, by omega⟩
                  · rw [q1] at hb; obtain rfl := Option.some.inj hb
                    obtain ⟨b', q4, q5⟩ := hsame j _ q2
                    cases b' with
                    | cells _ => exact q5.elim
                    | mp _ => exact q5.elim
                    | row k' es' v' =>
                      obtain ⟨q6, q7⟩ := hit j _ q4
                      rw [hs] at q6
                      have hbm : bmpN (memL st.mem) is j = ver + 1 := by unfold bmpN; rw [hj]; simp only [q1]
                      refine ⟨_, q6, ⟨q5.symm, by rw [hbm]; omega, fun he => by rw [hbm] at he; omega⟩, fun he => ?_⟩
                      simp only [outBk, BlkSame, hbm] at he
                      omega
                  · rw [q1] at hb; obtain rfl := Option.some.inj hb
                    obtain ⟨b', q4, q5⟩ := hsame j _ q2
                    cases b' with
                    | cells _ => exact q5.elim
                    | row _ _ _ => exact q5.elim
                    | mp es' =>
                      obtain ⟨q6, q7⟩ := hit j _ q4
                      rw [hs] at q6 q7
                      obtain ⟨_, q8⟩ := hP.m (id := j) (by omega) (es := es) (by show M[j]? = _; exact q2)
                      have q9 : ρ' id = ρ id := by rw [q7, q8]; simp only [hget j id hj]
                      refine ⟨_, q6, trivial, fun _ => ⟨q9, fun vs t hv => ?_⟩⟩
                      obtain ⟨ents, g1, _⟩ := h.fits.at_ id _ q1
                      rw [g1] at hv; cases hv
                · have hidl : id < st.mem.length := by
                    rcases Nat.lt_or_ge id st.mem.length with h2 | h2
                    · exact h2
                    · simp [memL, List.getElem?_eq_none h2] at hb
                  obtain ⟨e1, e2⟩ := miss id h1 hidl
                  refine ⟨b, by rw [e1, hb], .refl b, fun _ => ⟨e2, fun vs t hv => ⟨vs, t, ?_, rfl⟩⟩⟩
                  rw [hframe _ (hlt id (by rw [hb]; simp)) fun i hi he => ?_]
                  · exact hv
                  · obtain ⟨j, hj⟩ := List.mem_iff_getElem?.1 hi
                    exact h1 (h.fits.inj i id (hne j i hj).1 (by rw [hb]; simp) he ▸ hi)
            have hAl : ∀ q, Alien (Allow (Alien A (memL st.mem) ρ w) w.heap.size) (memL R) ρ2 w' q → Alien A (memL N') ρ' w' q := fun q ⟨q1, q2, q3⟩ => by
              refine ⟨?_, q2, fun id hid he => ?_⟩
              · rcases q1 with q1 | q1
                · exact q1.1
                · exact hup q q1
              · rcases cases3 id hid with ⟨j, b, hj, rfl⟩ | ⟨h1, h2⟩
                · rw [(hit j b hj).2] at he
                  exact q3 j (by show R[j]? ≠ none; rw [hj]; simp) he
                · obtain ⟨e1, e2⟩ := miss id h1 h2
                  rw [e1] at hid
                  rw [e2] at he
                  rcases q1 with q1 | q1
                  · exact q1.2.2 id hid he
                  · have := hlt id hid; omega
            have hrow : ∀ j k es ver, memL R j = some (.row k es ver) → ∀ e ∈ es, idsOf e = [] := fun j k es ver hj => freeBs_get hfree j k es ver hj
            have hrep : ∀ {x : AV} {u : Value}, Rep (Allow (Alien A (memL st.mem) ρ w) w.heap.size) (memL R) ρ2 w' x u → Rep A (memL N') ρ' w' (outN (sigN st.mem.length is) (bmpN (memL st.mem) is) x) u := fun hx => outN_rep _ _ hAl hit hrow hx
            have hfits : Fits A (memL N') ρ' w' := by
              have hne2 : ∀ {j : Nat} {b : Blk} {id : Nat}, R[j]? = some b → id ∉ is → id < st.mem.length → memL st.mem id ≠ none → ρ2 j ≠ ρ id := fun {j b id} hj h1 h2 h3 he => by
                rcases hids j (by show R[j]? ≠ none; rw [hj]; simp) with ⟨q1, q2⟩ | q1
                · have := h.fits.inj _ _ (hne j _ (hisg j q1)).1 h3 (q2.symm.trans he)
                  exact h1 (this ▸ List.mem_of_getElem? (hisg j q1))
                · have := hlt id h3; omega
              refine ⟨fun i k hi hk he => ?_, fun id b hb => ?_⟩
              · rcases cases3 i hi with ⟨j, b, hj, rfl⟩ | ⟨h1, h2⟩
                · rcases cases3 k hk with ⟨j', b', hj', rfl⟩ | ⟨h3, h4⟩
                  · rw [(hit j b hj).2, (hit j' b' hj').2] at he
                    rw [hF2.inj j j' (by show R[j]? ≠ none; rw [hj]; simp) (by show R[j']? ≠ none; rw [hj']; simp) he]
                  · obtain ⟨e1, e2⟩ := miss k h3 h4
                    rw [e1] at hk
                    rw [(hit j b hj).2, e2] at he
                    exact absurd he (hne2 hj h3 h4 hk)
                · obtain ⟨e1, e2⟩ := miss i h1 h2
                  rw [e1] at hi
                  rcases cases3 k hk with ⟨j', b', hj', rfl⟩ | ⟨h3, h4⟩
                  · rw [(hit j' b' hj').2, e2] at he
                    exact absurd he.symm (hne2 hj' h1 h2 hi)
                  · obtain ⟨e3, e4⟩ := miss k h3 h4
                    rw [e3] at hk
                    rw [e2, e4] at he
                    exact h.fits.inj i k hi hk he
              · rcases cases3 id (by rw [hb]; simp) with ⟨j, b', hj, rfl⟩ | ⟨h1, h2⟩
                · obtain ⟨e1, e2⟩ := hit j b' hj
                  rw [e1] at hb; obtain rfl := Option.some.inj hb
                  rw [e2]
                  have := hF2.at_ j b' (show memL R j = some b' from hj)
                  cases b' with
                  | cells cs' =>
                    obtain ⟨us, t, q1, q2, q3⟩ := this
                    have lst : ∀ l : List AV, outNL (sigN st.mem.length is) (bmpN (memL st.mem) is) l = l.map (outN (sigN st.mem.length is) (bmpN (memL st.mem) is)) := fun l => by
                      induction l with
                      | nil => rfl
                      | cons x l ih => simp [outNL, ih]
                    refine ⟨us, t, q1, by rw [lst]; simpa using q2, fun i x hx => ?_⟩
                    rw [lst, List.getElem?_map] at hx
                    obtain ⟨y, hy, rfl⟩ := Option.map_eq_some_iff.1 hx
                    exact hrep (q3 i y hy)
                  | mp es =>
                    obtain ⟨ents, q1, q2, q3⟩ := this
                    refine ⟨ents, q1, q2, fun i x e hx he => ?_⟩
                    obtain ⟨k, u, rfl, g2, g3, g4⟩ := q3 i x e hx he
                    have hxi := ids_cell (j := 1) (freeBs_get' hfree j es hj _ (List.mem_of_getElem? hx)) rfl
                    exact ⟨k, _, rfl, g2, g3, .base ((g4.ri hxi).mono (fun q hq => hAl q hq) (fun _ _ _ => rfl))⟩
                  | row k es ver =>
                    obtain ⟨q0, q4, us, t, q1, q2, q3⟩ := this
                    refine ⟨q0, q4, us, t, q1, q2, fun i e j' x hx hx' => ?_⟩
                    have hi := hrow j k es ver hj e (List.mem_of_getElem? hx)
                    have hx0 := q3 i e j' x hx hx'
                    have hxi : idsOf x = [] := ids_cell hi hx'
                    exact .base ((hx0.ri hxi).mono (fun q hq => hAl q hq) (fun _ _ _ => rfl))
                · obtain ⟨e1, e2⟩ := miss id h1 h2
                  rw [e1] at hb
                  rw [e2]
                  refine (h.fits.at_ id b hb).mono hext (hframe _ (hlt id (by rw [hb]; simp)) fun i hi he => ?_)
                  obtain ⟨j, hj⟩ := List.mem_iff_getElem?.1 hi
                  exact h1 (h.fits.inj i id (hne j i hj).1 (by rw [hb]; simp) he ▸ hi)
            refine ⟨v, rfl, hK _ ρ' w' (((h.step (M := N') hext hfits).put o.dst (hrep hR2))) ?_⟩
            have : (St.put ⟨st.tmps, N'⟩ o.dst (outN (sigN st.mem.length is) (bmpN (memL st.mem) is) rr)).mem = N' := by cases o.dst <;> rfl
            rw [this]; exact hext
        · cases he
      · cases he
    · cases he
  · cases he

theorem step_ok {ops : Array Oper} {i : Nat} {s : Sup} {st st' : St} {ob : List Prop} {K : Act → World → Prop} {Q : Exit → Act → World → Prop} (h : RS dd A ρ st a w) (hup : ∀ b, w.heap.size ≤ b → A b) (hi : ops[i]? = some o) (he : evStep P ops.toList o s st = some (st', ob)) (hob : AllP ob)
    (hK : ∀ a' ρ' w', RS dd A ρ' st' a' w' → Ext (memL st.mem) ρ w (memL st'.mem) ρ' w' → K a' w') : wpOpIn (FR ro) 0 P ops Q i K a w := by
  unfold evStep at he
  unfold wpOpIn
  rw [hi]
  split at he
  · rename_i hw
    have hw' := wanted_ok (ops := ops) (fun _ _ t _ _ => h.eval t) hw
    split at he
    · rename_i rr M
      simp only [hw', if_true]
      exact mem_ok h hup he hob hK
    · simp only [hw', if_true]
      exact lent_ok h hup he hob hK
    · split at he
      · rename_i r hr
        split at he
        · rename_i M hM
          cases he
          simp only [hw', if_true]
          refine any_ok h.fits hup (fun _ _ h => h) (fun j _ => memL_out st.mem j) hr hob (fun x _ => h.opd x) ro K Q fun v ρ' w' h1 h2 h3 => ?_
          rw [← applyR_ok hM] at h1 h2 h3
          have hs := (h.step h1 h2).put o.dst h3
          refine hK _ ρ' w' hs ?_
          have : (St.put ⟨st.tmps, M⟩ o.dst r.v).mem = M := by cases o.dst <;> rfl
          rw [this]; exact h1
        · cases he
      · cases he
  · rename_i hw
    have hw' := wanted_ok (ops := ops) (fun _ _ t _ _ => h.eval t) hw
    cases he
    simp only [hw', Bool.false_eq_true, if_false]
    refine ⟨fun _ _ => trivial, hK _ ρ w (h.put o.dst (.base (.tuple [] #[] rfl (fun i c hc => by simp at hc)))) ?_⟩
    have : (st.put o.dst (.tuple [])).mem = st.mem := by cases o.dst <;> rfl
    rw [this]; exact .refl _ _ _
  · cases he

theorem seq_ok {ops : Array Oper} {Q : Exit → Act → World → Prop} : ∀ (l : List Oper) (k : Nat) (ss : List Sup) (st st' : St) (ss' : List Sup) (ob : List Prop) (ρ : Nat → Nat) (a : Act) (w : World), ops.toList.drop k = l → evSeq P ops.toList l ss st = some (st', ss', ob) → AllP ob → RS dd A ρ st a w → (∀ b, w.heap.size ≤ b → A b) →
    (∀ a' ρ' w', RS dd A ρ' st' a' w' → Ext (memL st.mem) ρ w (memL st'.mem) ρ' w' → Q .normal a' w') → wpOpsIn (FR ro) 0 P ops Q (List.range' k l.length) a w := by
  intro l
  induction l with
  | nil =>
    intro k ss st st' ss' ob ρ a w _ h _ hR _ hQ
    simp only [evSeq] at h
    cases h
    exact hQ a ρ w hR (.refl _ _ _)
  | cons o l ih =>
    intro k ss st st' ss' ob ρ a w hd h hob hR hup hQ
    cases ss with
    | nil => simp [evSeq] at h
    | cons s ss =>
      simp only [evSeq] at h
      split at h
      · rename_i st1 o1 h1
        split at h
        · rename_i st2 ss2 o2 h2
          cases h
          obtain ⟨hob1, hob2⟩ := AllP.append hob
          have hk : ops[k]? = some o := by
            have : ops.toList[k]? = some o := by
              have := congrArg (fun l => l[0]?) hd
              simpa using this
            simpa using this
          rw [List.length_cons, List.range'_succ, wpOpsIn_cons]
          refine step_ok hR hup hk h1 hob1 fun a' ρ' w' hR' hE => ?_
          refine ih (k + 1) ss st1 st' ss' o2 ρ' a' w' ?_ h2 hob2 hR' (up_ext hE hup) fun a'' ρ'' w'' hR'' hE' => hQ a'' ρ'' w'' hR'' (hE.trans hE')
          have := congrArg (fun l => l.drop 1) hd
          simpa [List.drop_drop, Nat.add_comm] using this
        · cases h
      · cases h

end
end
section
open Go.RowKit

/-! ### Any order that keeps the waits -/

def updE (D : Nat → Bool) (i : Nat) (j : Nat) : Bool := Nat.beq j i || D j
def wts (o : Oper) : List Nat := (o.after.toList.filter (Region.binds .any)).map (·.on)

theorem updE_same (D : Nat → Bool) (i : Nat) : updE D i i = true := by simp [updE]
theorem updE_ne (D : Nat → Bool) {i j : Nat} (h : j ≠ i) : updE D i j = D j := by
  have : Nat.beq j i = false := by rw [← Bool.not_eq_true]; exact fun e => h (Nat.eq_of_beq_eq_true e)
  simp [updE, this]
theorem updE_le (D : Nat → Bool) {i j : Nat} (h : D j = true) : updE D i j = true := by simp [updE, h]

section
variable {P : Program} {ro : Option Nat} {ops : Array Oper} {Q : Exit → Act → World → Prop}

theorem mem_readyE {listed : Array Bool} {i : Nat} : i ∈ Region.ready .any ops listed ↔ listed.getD i true = false ∧ ∃ o, ops[i]? = some o ∧ ∀ j ∈ wts o, listed.getD j false = true := by
  unfold Region.ready wts
  simp only [List.mem_filter, List.mem_range, Bool.and_eq_true, Bool.not_eq_true']
  constructor
  · rintro ⟨hi, h1, h2⟩
    refine ⟨h1, ?_⟩
    cases ho : ops[i]? with
    | none => rw [ho] at h2; simp at h2
    | some o =>
      rw [ho] at h2
      simp only [Option.map_some, Option.getD_some, Array.all_eq_true_iff_forall_mem, Bool.or_eq_true, Bool.not_eq_true'] at h2
      refine ⟨o, rfl, fun j hj => ?_⟩
      simp only [List.mem_map, List.mem_filter] at hj
      obtain ⟨e, ⟨he, hb⟩, rfl⟩ := hj
      rcases h2 e (by simpa using he) with h | h
      · rw [hb] at h; cases h
      · exact h
  · rintro ⟨h1, o, ho, h2⟩
    refine ⟨(Array.getElem?_eq_some_iff.1 ho).1, h1, ?_⟩
    rw [ho]
    simp only [Option.map_some, Option.getD_some, Array.all_eq_true_iff_forall_mem, Bool.or_eq_true, Bool.not_eq_true']
    intro e he
    cases hb : Region.binds .any e with
    | false => exact .inl rfl
    | true => exact .inr (h2 e.on (List.mem_map.2 ⟨e, List.mem_filter.2 ⟨by simpa using he, hb⟩, rfl⟩))

def nopeE (listed : Array Bool) : Nat := listed.toList.countP (fun b => !b)

theorem nopeE_set (listed : Array Bool) (i : Nat) (h : listed.getD i true = false) : nopeE (listed.setIfInBounds i true) + 1 = nopeE listed := by
  have hi : i < listed.size := by
    rcases Nat.lt_or_ge i listed.size with h1 | h1
    · exact h1
    · simp [Array.getElem?_eq_none h1] at h
  have hv : listed.toList[i]'(by simpa using hi) = false := by simpa [hi] using h
  unfold nopeE
  rw [Array.toList_setIfInBounds, List.countP_set (by simpa using hi), hv]
  have : 0 < listed.toList.countP (fun b => !b) := List.countP_pos_iff.2 ⟨false, by rw [← hv]; exact List.getElem_mem _, rfl⟩
  rw [if_pos (show (!false) = true from rfl), if_neg (show ¬ (!true) = true by decide)]
  omega

theorem ready_nilE (hwf : ∀ i o, ops[i]? = some o → ∀ j ∈ wts o, j < i) {listed : Array Bool} (hs : listed.size = ops.size) (hr : Region.ready .any ops listed = []) : ∀ i, i < ops.size → listed.getD i false = true := by
  intro i
  induction i using Nat.strongRecOn with
  | ind i ih =>
    intro hi
    rcases hb : listed.getD i true with _ | _
    · exfalso
      have : i ∈ Region.ready .any ops listed := mem_readyE.2 ⟨hb, ops[i], by simp [hi], fun j hj => ih j (hwf i ops[i] (by simp [hi]) j hj) (by have := hwf i ops[i] (by simp [hi]) j hj; omega)⟩
      rw [hr] at this
      cases this
    · simpa [show i < listed.size by omega] using hb

theorem wpAnyE (Inv : (Nat → Bool) → Act → World → Prop) (hwf : ∀ i o, ops[i]? = some o → ∀ j ∈ wts o, j < i)
    (hs : ∀ i o, ops[i]? = some o → ∀ D a w, Inv D a w → D i = false → (∀ j ∈ wts o, D j = true) → wpOpIn (FR ro) 0 P ops Q i (Inv (updE D i)) a w) (hend : ∀ D a w, (∀ i, i < ops.size → D i = true) → Inv D a w → Q .normal a w) :
    ∀ (fuel : Nat) (listed : Array Bool) (a : Act) (w : World), listed.size = ops.size → nopeE listed ≤ fuel → Inv (fun j => listed.getD j false) a w → wpAnyIn (FR ro) 0 P .any ops Q fuel listed a w := by
  have key : ∀ (listed : Array Bool) (a : Act) (w : World), listed.size = ops.size → Region.ready .any ops listed = [] → Inv (fun j => listed.getD j false) a w → Q .normal a w := fun listed a w h1 h2 h3 => hend _ a w (ready_nilE hwf h1 h2) h3
  intro fuel
  induction fuel with
  | zero =>
    intro listed a w hsz hc hF
    have hr : Region.ready .any ops listed = [] := by
      rw [List.eq_nil_iff_forall_not_mem]
      intro i hi
      have := nopeE_set listed i (mem_readyE.1 hi).1
      omega
    exact ⟨hr, key listed a w hsz hr hF⟩
  | succ fuel ih =>
    intro listed a w hsz hc hF
    refine ⟨fun hr => key listed a w hsz hr hF, fun i hi => ?_⟩
    obtain ⟨hl, o, ho, hw⟩ := mem_readyE.1 hi
    have hio : i < ops.size := (Array.getElem?_eq_some_iff.1 ho).1
    have hil : i < listed.size := by omega
    refine wpOpIn_mono (fun a' w' hF' => ?_) (hs i o ho (fun j => listed.getD j false) a w hF (by simpa [hil] using hl) hw)
    refine ih _ a' w' (by simpa using hsz) (by have := nopeE_set listed i hl; omega) ?_
    have he : (fun j => (listed.setIfInBounds i true).getD j false) = updE (fun j => listed.getD j false) i := by
      funext j
      by_cases hj : j = i
      · subst hj; simp [updE, hil]
      · rw [updE_ne _ hj]; simp [Array.getElem?_setIfInBounds_ne (Ne.symm hj)]
    rw [he]
    exact hF'

theorem region_any {id : Nat} {a : Act} {w : World} (Inv : (Nat → Bool) → Act → World → Prop) (hm : P.follows .mixedOrders = true) (hwf : ∀ i o, ops[i]? = some o → ∀ j ∈ wts o, j < i) (h0 : Inv (fun _ => false) a w.drew)
    (hs : ∀ i o, ops[i]? = some o → ∀ D a w, Inv D a w → D i = false → (∀ j ∈ wts o, D j = true) → wpOpIn (FR ro) 0 P ops Q i (Inv (updE D i)) a w) (hend : ∀ D a w, (∀ i, i < ops.size → D i = true) → Inv D a w → Q .normal a w) : (Code.region id ops true).wpIn (FR ro) 0 P Q a w := by
  refine wpIn_region_any hm ?_
  refine wpAnyE Inv hwf hs hend ops.size (Array.replicate ops.size false) a w.drew (by simp) (Nat.le_trans List.countP_le_length (by simp)) ?_
  have he : (fun j => (Array.replicate ops.size false).getD j false) = fun _ => false := by
    funext j
    simp only [Array.getD_eq_getD_getElem?]
    rw [Array.getElem?_replicate]
    split <;> rfl
  rw [he]
  exact h0

end

/-! ### What each operation writes and looks at -/

structure Rec where
  d : Option Nat
  v : AV
  wr : Option (Nat × Blk)
  n0 : Nat
  ns : List Blk
  fp : List Nat
  rd : List Nat
  ah : Nat

def Rec.app (r : Rec) (s : (Nat → AV) × Mem) : (Nat → AV) × Mem := ((fun t => if r.d = some t then r.v else s.1 t), updM s.2 r.wr r.n0 r.ns)

def Rec.hits (r : Rec) (id : Nat) : Prop := (∃ b, r.wr = some (id, b)) ∨ (r.n0 ≤ id ∧ id < r.n0 + r.ns.length)

theorem app_tmp (r : Rec) (s : (Nat → AV) × Mem) {t : Nat} (h : r.d ≠ some t) : (r.app s).1 t = s.1 t := if_neg h
theorem app_mem (r : Rec) (s : (Nat → AV) × Mem) {id : Nat} (h : ¬ r.hits id) : (r.app s).2 id = s.2 id := by
  simp only [Rec.app, updM]
  have h1 : (if r.n0 ≤ id then r.ns[id - r.n0]? else none) = none := by
    split
    · rename_i hle
      rw [List.getElem?_eq_none]
      have : ¬ (id < r.n0 + r.ns.length) := fun hlt => h (.inr ⟨hle, hlt⟩)
      omega
    · rfl
  rw [h1]
  cases hw : r.wr with
  | none => rfl
  | some x =>
    obtain ⟨i, b⟩ := x
    simp only
    rw [if_neg]
    intro e; subst e
    exact h (.inl ⟨b, hw⟩)

def wrId (r : Rec) : List Nat := match r.wr with | some (i, _) => [i] | none => []

/-- Neither looks at, or writes, what the other one writes. -/
structure Indep (a b : Rec) : Prop where
  d1 : ∀ t, a.d = some t → t ∉ b.rd ∧ b.d ≠ some t
  d2 : ∀ t, b.d = some t → t ∉ a.rd
  m1 : ∀ id, a.hits id → id ∉ b.fp ∧ ¬ b.hits id
  m2 : ∀ id, b.hits id → id ∉ a.fp

def inNew (r : Rec) (id : Nat) : Bool := Nat.ble r.n0 id && Nat.blt id (r.n0 + r.ns.length)

def indepB (a b : Rec) : Bool :=
  (match a.d with | some t => !(b.rd.contains t) && (match b.d with | some u => !(Nat.beq t u) | none => true) | none => true) &&
  (match b.d with | some t => !(a.rd.contains t) | none => true) &&
  (wrId a).all (fun i => !(b.fp.contains i) && !((wrId b).contains i) && !(inNew b i)) && (wrId b).all (fun i => !(a.fp.contains i) && !(inNew a i)) &&
  b.fp.all (fun i => !(inNew a i)) && a.fp.all (fun i => !(inNew b i)) &&
  (Nat.beq a.ns.length 0 || Nat.beq b.ns.length 0 || Nat.ble (a.n0 + a.ns.length) b.n0 || Nat.ble (b.n0 + b.ns.length) a.n0)

theorem inNew_iff {r : Rec} {id : Nat} : inNew r id = true ↔ r.n0 ≤ id ∧ id < r.n0 + r.ns.length := by
  simp only [inNew, Bool.and_eq_true]
  exact ⟨fun h => ⟨Nat.le_of_ble_eq_true h.1, Eq.mp Nat.blt_eq h.2⟩, fun h => ⟨Nat.ble_eq_true_of_le h.1, Eq.mpr Nat.blt_eq h.2⟩⟩
theorem hits_iff {r : Rec} {id : Nat} : r.hits id ↔ id ∈ wrId r ∨ inNew r id = true := by
  rw [inNew_iff]
  unfold Rec.hits wrId
  constructor
  · rintro (⟨b, h⟩ | h)
    · left; rw [h]; simp
    · exact .inr h
  · rintro (h | h)
    · left
      split at h
      · rename_i i b hw
        simp at h; subst h
        exact ⟨b, hw⟩
      · cases h
    · exact .inr h

theorem indep_of {a b : Rec} (h : indepB a b = true) : Indep a b := by
  simp only [indepB, Bool.and_eq_true] at h
  obtain ⟨⟨⟨⟨⟨⟨h1, h2⟩, h3⟩, h4⟩, h5⟩, h6⟩, h7⟩ := h
  refine ⟨fun t ht => ?_, fun t ht => ?_, fun id hid => ?_, fun id hid => ?_⟩
  · rw [ht] at h1
    simp only [Bool.and_eq_true, Bool.not_eq_true'] at h1
    refine ⟨by simpa using h1.1, fun hb => ?_⟩
    rw [hb] at h1
    simp at h1
  · rw [ht] at h2
    simpa using h2
  · rcases hits_iff.1 hid with hw | hn
    · have := List.all_eq_true.1 h3 id hw
      simp only [Bool.and_eq_true, Bool.not_eq_true'] at this
      obtain ⟨⟨e1, e2⟩, e3⟩ := this
      refine ⟨by simpa using e1, fun hb => ?_⟩
      rcases hits_iff.1 hb with hb | hb
      · rw [show (wrId b).contains id = true by simpa using hb] at e2; cases e2
      · rw [hb] at e3; cases e3
    · refine ⟨fun hf => ?_, fun hb => ?_⟩
      · have := List.all_eq_true.1 h5 id hf
        rw [hn] at this; cases this
      · rcases hits_iff.1 hb with hb | hb
        · have := List.all_eq_true.1 h4 id hb
          simp only [Bool.and_eq_true, Bool.not_eq_true'] at this
          rw [hn] at this; cases this.2
        · rw [inNew_iff] at hn hb
          simp only [Bool.or_eq_true] at h7
          rcases h7 with ((h7 | h7) | h7) | h7
          · have := Nat.eq_of_beq_eq_true h7; omega
          · have := Nat.eq_of_beq_eq_true h7; omega
          · have := Nat.le_of_ble_eq_true h7; omega
          · have := Nat.le_of_ble_eq_true h7; omega
  · intro hf
    rcases hits_iff.1 hid with hw | hn
    · have := List.all_eq_true.1 h4 id hw
      simp only [Bool.and_eq_true, Bool.not_eq_true'] at this
      rw [show a.fp.contains id = true by simpa using hf] at this; cases this.1
    · have := List.all_eq_true.1 h6 id hf
      rw [hn] at this; cases this

theorem hits_val {r : Rec} {s s' : (Nat → AV) × Mem} {id : Nat} (h : r.hits id) : (r.app s).2 id = (r.app s').2 id := by
  simp only [Rec.app, updM]
  by_cases hn : r.n0 ≤ id ∧ id < r.n0 + r.ns.length
  · rw [if_pos hn.1]
    have : id - r.n0 < r.ns.length := by omega
    simp [this]
  · have h1 : (if r.n0 ≤ id then r.ns[id - r.n0]? else none) = none := by
      split
      · rw [List.getElem?_eq_none]; omega
      · rfl
    rw [h1]
    rcases h with ⟨b, hw⟩ | h
    · rw [hw]; simp
    · exact absurd h hn

theorem app_comm {a b : Rec} (h : Indep a b) (s : (Nat → AV) × Mem) : a.app (b.app s) = b.app (a.app s) := by
  apply Prod.ext
  · funext t
    by_cases h1 : a.d = some t
    · have := (h.d1 t h1).2
      rw [app_tmp b _ this]
      simp only [Rec.app, if_pos h1]
    · rw [app_tmp a _ h1]
      by_cases h2 : b.d = some t
      · simp only [Rec.app, if_pos h2]
      · rw [app_tmp b _ h2, app_tmp b _ h2, app_tmp a _ h1]
  · funext id
    by_cases h1 : a.hits id
    · have := (h.m1 id h1).2
      rw [app_mem b _ this]
      exact hits_val h1
    · rw [app_mem a _ h1]
      by_cases h2 : b.hits id
      · exact hits_val h2
      · rw [app_mem b _ h2, app_mem b _ h2, app_mem a _ h1]

/-- The records of the operations that have come up, one behind the other. -/
def part (D : Nat → Bool) : Nat → List Rec → (Nat → AV) × Mem → (Nat → AV) × Mem
  | _, [], s => s
  | i, r :: rs, s => part D (i + 1) rs (if D i then r.app s else s)

theorem part_append (D : Nat → Bool) : ∀ (l l' : List Rec) (i : Nat) (s : (Nat → AV) × Mem), part D i (l ++ l') s = part D (i + l.length) l' (part D i l s)
  | [], l', i, s => rfl
  | r :: l, l', i, s => by
    rw [List.cons_append, part, part, part_append D l l' (i + 1), List.length_cons]
    congr 1; omega

theorem part_congr {D D' : Nat → Bool} : ∀ (l : List Rec) (i : Nat) (s : (Nat → AV) × Mem), (∀ j, i ≤ j → j < i + l.length → D j = D' j) → part D i l s = part D' i l s
  | [], _, _, _ => rfl
  | r :: l, i, s, h => by
    rw [part, part, h i (Nat.le_refl _) (by simp), part_congr l (i + 1) _ (fun j h1 h2 => h j (by omega) (by simp; omega))]

/-- A record that parts from all that have come up behind it may be put ahead of them. -/
theorem part_ahead {D : Nat → Bool} {x : Rec} : ∀ (l : List Rec) (i : Nat) (s : (Nat → AV) × Mem), (∀ j r, l[j]? = some r → D (i + j) = true → Indep x r) → part D i l (x.app s) = x.app (part D i l s)
  | [], _, _, _ => rfl
  | r :: l, i, s, h => by
    rw [part, part]
    have h' : ∀ j r', l[j]? = some r' → D (i + 1 + j) = true → Indep x r' := fun j r' h1 h2 => h (j + 1) r' (by simpa using h1) (by rw [show i + (j + 1) = i + 1 + j by omega]; exact h2)
    cases hd : D i with
    | true =>
      simp only [if_true]
      rw [← app_comm (h 0 r rfl (by simpa using hd))]
      exact part_ahead l (i + 1) _ h'
    | false =>
      simp only [Bool.false_eq_true, if_false]
      exact part_ahead l (i + 1) _ h'

/-- What nobody writes stays. -/
theorem part_tmp {D : Nat → Bool} {t : Nat} : ∀ (l : List Rec) (i : Nat) (s : (Nat → AV) × Mem), (∀ j r, l[j]? = some r → D (i + j) = true → r.d ≠ some t) → (part D i l s).1 t = s.1 t
  | [], _, _, _ => rfl
  | r :: l, i, s, h => by
    rw [part, part_tmp l (i + 1) _ (fun j r' h1 h2 => h (j + 1) r' (by simpa using h1) (by rw [show i + (j + 1) = i + 1 + j by omega]; exact h2))]
    cases hd : D i with
    | true => simp only [if_true]; exact app_tmp r s (h 0 r rfl (by simpa using hd))
    | false => rfl
theorem part_mem {D : Nat → Bool} {id : Nat} : ∀ (l : List Rec) (i : Nat) (s : (Nat → AV) × Mem), (∀ j r, l[j]? = some r → D (i + j) = true → ¬ r.hits id) → (part D i l s).2 id = s.2 id
  | [], _, _, _ => rfl
  | r :: l, i, s, h => by
    rw [part, part_mem l (i + 1) _ (fun j r' h1 h2 => h (j + 1) r' (by simpa using h1) (by rw [show i + (j + 1) = i + 1 + j by omega]; exact h2))]
    cases hd : D i with
    | true => simp only [if_true]; exact app_mem r s (h 0 r rfl (by simpa using hd))
    | false => rfl

/-- Two choices that part only in records that do not write a place agree there. -/
theorem part_tmp2 {D D' : Nat → Bool} {t : Nat} : ∀ (l : List Rec) (i : Nat) (s s' : (Nat → AV) × Mem), s.1 t = s'.1 t → (∀ j r, l[j]? = some r → D (i + j) = D' (i + j) ∨ r.d ≠ some t) → (part D i l s).1 t = (part D' i l s').1 t
  | [], _, _, _, h0, _ => h0
  | r :: l, i, s, s', h0, h => by
    rw [part, part]
    refine part_tmp2 l (i + 1) _ _ ?_ (fun j r' h1 => by have := h (j + 1) r' (by simpa using h1); rwa [show i + (j + 1) = i + 1 + j by omega] at this)
    have h1 := h 0 r rfl
    simp only [Nat.add_zero] at h1
    by_cases hd : r.d = some t
    · rcases h1 with h1 | h1
      · rw [h1]
        cases D' i
        · exact h0
        · simp only [if_true, Rec.app, if_pos hd]
      · exact absurd hd h1
    · have e : ∀ (b : Bool) (q : (Nat → AV) × Mem), (if b then r.app q else q).1 t = q.1 t := fun b q => by cases b; rfl; exact app_tmp r q hd
      rw [e, e]; exact h0
theorem part_mem2 {D D' : Nat → Bool} {id : Nat} : ∀ (l : List Rec) (i : Nat) (s s' : (Nat → AV) × Mem), s.2 id = s'.2 id → (∀ j r, l[j]? = some r → D (i + j) = D' (i + j) ∨ ¬ r.hits id) → (part D i l s).2 id = (part D' i l s').2 id
  | [], _, _, _, h0, _ => h0
  | r :: l, i, s, s', h0, h => by
    rw [part, part]
    refine part_mem2 l (i + 1) _ _ ?_ (fun j r' h1 => by have := h (j + 1) r' (by simpa using h1); rwa [show i + (j + 1) = i + 1 + j by omega] at this)
    have h1 := h 0 r rfl
    simp only [Nat.add_zero] at h1
    by_cases hd : r.hits id
    · rcases h1 with h1 | h1
      · rw [h1]
        cases D' i
        · exact h0
        · simp only [if_true]; exact hits_val hd
      · exact absurd hd h1
    · have e : ∀ (b : Bool) (q : (Nat → AV) × Mem), (if b then r.app q else q).2 id = q.2 id := fun b q => by cases b; rfl; exact app_mem r q hd
      rw [e, e]; exact h0
end
end Go.Proofs.Ytglfbdicclepcaa
