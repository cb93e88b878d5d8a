/- Walks with a letter for the frame: each region by one invariant, whether it draws its order or not. For every program. -/
import Derived.Test.YtlokjiniigfaiaaRg
import Derived.Test.YtlokjiniigfaiaaBk
set_option linter.unusedVariables false
set_option linter.unusedSimpArgs false
namespace Go.Proofs.Ytlokjiniigfaiaa
open Go.RowKit

/-- A slot of a frame. -/
def Sl (a : Act) (t : Nat) (v : Value) : Prop := a.tmps[t]?.getD undef = v

/-- What a step may use of the act at hand. -/
structure AIs (a : Act) (N : Nat) (ds : List Nat) (s : Nat → Value) (b : Act) : Prop where
  i : ∀ t v, ds.contains t = true → Nat.blt t N = true → s t = v → b.tmps[t]?.getD undef = v
  o : ∀ t v, ds.contains t = false → Sl a t v → b.tmps[t]?.getD undef = v

section
variable {P : Program} {ops : Array Oper} {Q : Exit → Act → World → Prop} {a : Act} {N : Nat} {ds : List Nat} {F : (Nat → Bool) → (Nat → Value) → World → Prop}

theorem ActIs.to {s : Nat → Value} {b : Act} (hz : a.tmps.size = N) (h : ActIs a ds s b) : AIs a N ds s b :=
  ⟨fun t v h1 h2 h3 => (h.i t h1 (by rw [hz]; exact h2)).trans h3, fun t v h1 h2 => (h.o t h1).trans ((getD_is a t).trans h2)⟩

theorem FSteps.op2 {i : Nat} {o : Oper} {rs dv : List Nat} (hz : a.tmps.size = N) (ho : ops[i]? = some o) (hd : waits o = dv) (hg : o.guard = none) (hin : dstIn ds o.dst = true) (hn : nodupB ds = true)
    (h : ∀ D s W b (K : Act → World → Prop), D i = false → DAll D dv → F D s W → AIs a N ds s b → Shut (∀ v W', F (upd D i) (supo s o.dst v) W' → K (b.put o.dst v) W') → Oper.wp P o b W K Q)
    (hs : FSteps P ops Q a ds F rs) : FSteps P ops Q a ds F (i :: rs) :=
  FSteps.op ho hd hg hin hn (fun D s W b K hD hW hF hA hK => h D s W b K hD hW hF (hA.to hz) hK) hs

theorem FSteps.yes2 {i : Nat} {o : Oper} {rs dv : List Nat} {j d : Nat} {bv : Bool} (hz : a.tmps.size = N) (ho : ops[i]? = some o) (hd : waits o = dv) (hg : o.guard = some (j, bv)) (hj : (ops[j]?).bind (·.dst) = some d) (hdi : ds.contains d = true)
    (hsz : Nat.blt d N = true) (hf : ∀ D s W, DAll D dv → F D s W → s d = .bool bv) (hin : dstIn ds o.dst = true) (hn : nodupB ds = true)
    (h : ∀ D s W b (K : Act → World → Prop), D i = false → DAll D dv → F D s W → AIs a N ds s b → Shut (∀ v W', F (upd D i) (supo s o.dst v) W' → K (b.put o.dst v) W') → Oper.wp P o b W K Q)
    (hs : FSteps P ops Q a ds F rs) : FSteps P ops Q a ds F (i :: rs) :=
  FSteps.yes ho hd hg hj hdi (by rw [hz]; exact hsz) hf hin hn (fun D s W b K hD hW hF hA hK => h D s W b K hD hW hF (hA.to hz) hK) hs

theorem FSteps.no2 {i : Nat} {o : Oper} {rs dv : List Nat} {j d : Nat} {bv : Bool} (hz : a.tmps.size = N) (ho : ops[i]? = some o) (hd : waits o = dv) (hg : o.guard = some (j, bv)) (hj : (ops[j]?).bind (·.dst) = some d) (hdi : ds.contains d = true)
    (hsz : Nat.blt d N = true) (hf : ∀ D s W, DAll D dv → F D s W → s d = .bool (!bv)) (hin : dstIn ds o.dst = true) (hn : nodupB ds = true)
    (h : ∀ D s W, D i = false → F D s W → F (upd D i) (supo s o.dst undef) W)
    (hs : FSteps P ops Q a ds F rs) : FSteps P ops Q a ds F (i :: rs) :=
  FSteps.no ho hd hg hj hdi (by rw [hz]; exact hsz) hf hin hn h hs

theorem FSteps.op3 {i : Nat} {d : Option Tmp} {op : Op} {ty : TypeId} {pos : String} {af : Array Edge} {rs dv : List Nat} (hz : a.tmps.size = N) (ho : ops[i]? = some { dst := d, op := op, type := ty, pos := pos, after := af, guard := none })
    (hd : waits { dst := d, op := op, type := ty, pos := pos, after := af, guard := none } = dv) (hin : dstIn ds d = true) (hn : nodupB ds = true)
    (h : ∀ D s W b (K : Act → World → Prop), D i = false → DAll D dv → F D s W → AIs a N ds s b → Shut (∀ v W', F (upd D i) (supo s d v) W' → K (b.put d v) W') → Oper.wp P { dst := d, op := op, type := ty, pos := pos, after := af, guard := none } b W K Q)
    (hs : FSteps P ops Q a ds F rs) : FSteps P ops Q a ds F (i :: rs) :=
  FSteps.op2 hz ho hd rfl hin hn h hs

theorem FSteps.yes3 {i : Nat} {d0 : Option Tmp} {op : Op} {ty : TypeId} {pos : String} {af : Array Edge} {rs dv : List Nat} {j d : Nat} {bv : Bool} (hz : a.tmps.size = N) (ho : ops[i]? = some { dst := d0, op := op, type := ty, pos := pos, after := af, guard := some (j, bv) })
    (hd : waits { dst := d0, op := op, type := ty, pos := pos, after := af, guard := some (j, bv) } = dv) (hj : (ops[j]?).bind (·.dst) = some d) (hdi : ds.contains d = true)
    (hsz : Nat.blt d N = true) (hf : ∀ D s W, DAll D dv → F D s W → s d = .bool bv) (hin : dstIn ds d0 = true) (hn : nodupB ds = true)
    (h : ∀ D s W b (K : Act → World → Prop), D i = false → DAll D dv → F D s W → AIs a N ds s b → Shut (∀ v W', F (upd D i) (supo s d0 v) W' → K (b.put d0 v) W') → Oper.wp P { dst := d0, op := op, type := ty, pos := pos, after := af, guard := some (j, bv) } b W K Q)
    (hs : FSteps P ops Q a ds F rs) : FSteps P ops Q a ds F (i :: rs) :=
  FSteps.yes2 hz ho hd rfl hj hdi hsz hf hin hn h hs

theorem FSteps.no3 {i : Nat} {d0 : Option Tmp} {op : Op} {ty : TypeId} {pos : String} {af : Array Edge} {rs dv : List Nat} {j d : Nat} {bv : Bool} (hz : a.tmps.size = N) (ho : ops[i]? = some { dst := d0, op := op, type := ty, pos := pos, after := af, guard := some (j, bv) })
    (hd : waits { dst := d0, op := op, type := ty, pos := pos, after := af, guard := some (j, bv) } = dv) (hj : (ops[j]?).bind (·.dst) = some d) (hdi : ds.contains d = true)
    (hsz : Nat.blt d N = true) (hf : ∀ D s W, DAll D dv → F D s W → s d = .bool (!bv)) (hin : dstIn ds d0 = true) (hn : nodupB ds = true)
    (h : ∀ D s W, D i = false → F D s W → F (upd D i) (supo s d0 undef) W)
    (hs : FSteps P ops Q a ds F rs) : FSteps P ops Q a ds F (i :: rs) :=
  FSteps.no2 hz ho hd rfl hj hdi hsz hf hin hn h hs

theorem FSteps.nu {i : Nat} {d0 : Option Tmp} {op : Op} {ty : TypeId} {pos : String} {af : Array Edge} {rs dv : List Nat} {j d : Nat} {bv : Bool} (hz : a.tmps.size = N) (ho : ops[i]? = some { dst := d0, op := op, type := ty, pos := pos, after := af, guard := some (j, bv) })
    (hd : waits { dst := d0, op := op, type := ty, pos := pos, after := af, guard := some (j, bv) } = dv) (hj : (ops[j]?).bind (·.dst) = some d) (hdi : ds.contains d = true)
    (hsz : Nat.blt d N = true) (hf : ∀ D s W, DAll D dv → F D s W → s d = undef) (hin : dstIn ds d0 = true) (hn : nodupB ds = true)
    (h : ∀ D s W, D i = false → F D s W → F (upd D i) (supo s d0 undef) W)
    (hs : FSteps P ops Q a ds F rs) : FSteps P ops Q a ds F (i :: rs) := fun j' hj' o' ho' D s W hD hW hF => by
  rcases List.mem_cons.1 hj' with rfl | hj'
  · obtain rfl := Option.some.inj (ho.symm.trans ho')
    refine wpOp_step ho fun K' hK => ?_
    have he : (putAll a s ds).eval (.tmp d) = undef := (getD_is _ d).trans (((actIs s).i d hdi (by rw [hz]; exact hsz)).trans (hf D s W (hd ▸ hW) hF))
    have hy : yielded ops (putAll a s ds).tmps j = none := by
      have hh : (putAll a s ds).tmps.getD d undef = undef := he
      rw [Array.getD_eq_getD_getElem?] at hh
      unfold yielded
      rw [hj]
      show (match (putAll a s ds).tmps[d]? with | some (.bool b) => some b | _ => none) = none
      cases hx : (putAll a s ds).tmps[d]? with
      | none => rfl
      | some v => rw [hx] at hh; have : v = undef := hh; rw [this]; rfl
    rw [if_neg (by simp [Region.wanted, hy])]
    exact hK _ _ ⟨_, next_act (nodup_of hn) s d0 hin undef, h D s W hD hF⟩
  · exact hs j' hj' o' ho' D s W hD hW hF

theorem putAll_defers (s : Nat → Value) : ∀ (l : List Nat) (a : Act), (putAll a s l).defers = a.defers
  | [], _ => rfl
  | d :: l, a => by rw [putAll, putAll_defers s l]; rfl

/-- A region that draws its order. -/
theorem region_go {id : Nat} {w : World} (F : (Nat → Bool) → (Nat → Value) → World → Prop) (ds : List Nat) (rs : List Nat) (hz : a.tmps.size = N) (df : a.defers = []) (hm : P.follows .mixedOrders = true) (hwf : wfOps ops = true) (hrs : List.range ops.size = rs)
    (h0 : ∀ s, (∀ t v, Sl a t v → s t = v) → F (fun _ => false) s w.drew) (hs : FSteps P ops Q a ds F rs) (hend : ∀ D s W a', DAll D rs → F D s W → a'.tmps.size = N → a'.defers = [] → AIs a N ds s a' → Q .normal a' W) : (Code.region id ops true).wp P Q a w :=
  region_facts0 F ds rs hm hwf hrs (h0 _ fun t v h => (getD_is a t).trans h) hs fun D s W hD hF => hend D s W _ hD hF (by rw [putAll_size, hz]) (by rw [putAll_defers, df]) ((actIs s).to hz)

theorem wpOps_facts (hwf : wfOps ops = true) {rs : List Nat} (hrs : List.range ops.size = rs) (hs : FSteps P ops Q a ds F rs) (hend : ∀ D s W, DAll D rs → F D s W → Q .normal (putAll a s ds) W) :
    ∀ (n k : Nat) (s : Nat → Value) (W : World), k + n = ops.size → F (fun j => Nat.blt j k) s W → wpOps P ops Q (List.range' k n) (putAll a s ds) W := by
  intro n
  induction n with
  | zero =>
    intro k s W hk hF
    refine hend _ s W ((dall_iff _ _).2 fun j hj => ?_) hF
    rw [← hrs] at hj
    have : j < ops.size := by simpa using hj
    exact Eq.mpr Nat.blt_eq (by omega)
  | succ n ih =>
    intro k s W hk hF
    rw [List.range'_succ, wpOps_cons]
    have hko : k < ops.size := by omega
    have h1 := hs k (by rw [← hrs]; simpa using hko) ops[k] (by simp [hko]) (fun j => Nat.blt j k) s W (by show Nat.blt k k = false; rw [← Bool.not_eq_true]; intro h; exact absurd (Eq.mp Nat.blt_eq h) (by omega)) ((dall_iff _ _).2 fun j hj => by
      have h2 := List.all_eq_true.1 hwf k (by simpa using hko)
      simp only [Array.getElem?_eq_getElem hko, List.all_eq_true] at h2
      exact h2 j hj) hF
    refine wpOp_mono ?_ h1
    rintro a' W' ⟨s', rfl, hF'⟩
    refine ih (k + 1) s' W' (by omega) ?_
    have he : (fun j => Nat.blt j (k + 1)) = upd (fun j => Nat.blt j k) k := by
      funext j
      rw [Bool.eq_iff_iff]
      simp only [upd, Bool.or_eq_true, Nat.blt_eq, Nat.beq_eq]
      omega
    rw [he]
    exact hF'

/-- A region in the order of the text. -/
theorem region_run {id : Nat} {w : World} (F : (Nat → Bool) → (Nat → Value) → World → Prop) (ds : List Nat) (rs : List Nat) (hz : a.tmps.size = N) (df : a.defers = []) (hwf : wfOps ops = true) (hrs : List.range ops.size = rs)
    (h0 : ∀ s, (∀ t v, Sl a t v → s t = v) → F (fun _ => false) s w) (hs : FSteps P ops Q a ds F rs) (hend : ∀ D s W a', DAll D rs → F D s W → a'.tmps.size = N → a'.defers = [] → AIs a N ds s a' → Q .normal a' W) : (Code.region id ops false).wp P Q a w := by
  refine wp_region ?_
  have h := wpOps_facts (P := P) (Q := Q) (a := a) (ds := ds) (F := F) hwf hrs hs (fun D s W hD hF => hend D s W _ hD hF (by rw [putAll_size, hz]) (by rw [putAll_defers, df]) ((actIs s).to hz)) ops.size 0 (fun t => a.eval (.tmp t)) w (by omega) (by
    have he : (fun j => Nat.blt j 0) = fun _ => false := by
      funext j
      rw [← Bool.not_eq_true]; intro h; exact absurd (Eq.mp Nat.blt_eq h) (by omega)
    rw [he]
    exact h0 _ fun t v h => (getD_is a t).trans h)
  rw [putAll_self] at h
  rw [List.range_eq_range']
  exact h

/-- A table of what the slots hold: operation, slot, value. -/
def Vals (D : Nat → Bool) (s : Nat → Value) : List (Nat × Nat × Value) → Prop
  | [] => True
  | x :: l => (D x.1 = true → s x.2.1 = x.2.2) ∧ Vals D s l
def look : List (Nat × Nat × Value) → Nat → Option (Nat × Value)
  | [], _ => none
  | x :: l, j => bif Nat.beq x.1 j then some x.2 else look l j
def keysOk : List (Nat × Nat × Value) → Bool
  | [] => true
  | x :: l => (l.all fun y => !(Nat.beq y.1 x.1) && !(Nat.beq y.2.1 x.2.1)) && keysOk l
def outOf (i : Nat) (d : Option Nat) (l : List (Nat × Nat × Value)) : Bool :=
  l.all fun x => !(Nat.beq x.1 i) && match d with | none => true | some d => !(Nat.beq x.2.1 d)

theorem look_mem {j d : Nat} {v : Value} : ∀ {l : List (Nat × Nat × Value)}, look l j = some (d, v) → ∃ y ∈ l, y.1 = j ∧ y.2 = (d, v)
  | [], h => by cases h
  | x :: l, h => by
    unfold look at h
    cases hb : Nat.beq x.1 j with
    | true =>
      rw [hb] at h
      exact ⟨x, by simp, Nat.eq_of_beq_eq_true hb, Option.some.inj h⟩
    | false =>
      rw [hb] at h
      obtain ⟨y, hy, h1, h2⟩ := look_mem h
      exact ⟨y, by simp [hy], h1, h2⟩
theorem Vals.none : ∀ (s : Nat → Value) (l : List (Nat × Nat × Value)), Vals (fun _ => false) s l
  | _, [] => trivial
  | s, _ :: l => ⟨(fun h => no_of' h), Vals.none s l⟩
theorem Vals.get {D : Nat → Bool} {s : Nat → Value} {j d : Nat} {v : Value} : ∀ {l : List (Nat × Nat × Value)}, Vals D s l → look l j = some (d, v) → D j = true → s d = v
  | [], _, h, _ => by cases h
  | x :: l, hv, h, hd => by
    unfold look at h
    cases hb : Nat.beq x.1 j with
    | true =>
      rw [hb] at h
      have he : x.2 = (d, v) := Option.some.inj h
      have hj : x.1 = j := Nat.eq_of_beq_eq_true hb
      have := hv.1 (by rw [hj]; exact hd)
      rw [he] at this
      exact this
    | false =>
      rw [hb] at h
      exact Vals.get hv.2 h hd
theorem Vals.skip {D : Nat → Bool} {s : Nat → Value} {i : Nat} {d : Option Nat} {v : Value} : ∀ {l : List (Nat × Nat × Value)}, Vals D s l → outOf i d l = true → Vals (upd D i) (supo s d v) l
  | [], _, _ => trivial
  | x :: l, hv, h => by
    simp only [outOf, List.all_cons, Bool.and_eq_true, Bool.not_eq_true'] at h
    refine ⟨fun hd => ?_, Vals.skip hv.2 h.2⟩
    have hd' : D x.1 = true := by simpa [upd, h.1.1] using hd
    have := hv.1 hd'
    cases d with
    | none => exact this
    | some d =>
      have hne : Nat.beq x.2.1 d = false := by simpa using h.1.2
      show (bif Nat.beq x.2.1 d then v else s x.2.1) = x.2.2
      rw [hne]
      exact this
theorem Vals.step {D : Nat → Bool} {s : Nat → Value} {i d : Nat} {v : Value} : ∀ {l : List (Nat × Nat × Value)}, Vals D s l → keysOk l = true → look l i = some (d, v) → Vals (upd D i) (supo s (some d) v) l
  | [], _, _, h => by cases h
  | x :: l, hv, hk, h => by
    simp only [keysOk, Bool.and_eq_true] at hk
    unfold look at h
    cases hb : Nat.beq x.1 i with
    | true =>
      rw [hb] at h
      have he : x.2 = (d, v) := Option.some.inj h
      have hi : x.1 = i := Nat.eq_of_beq_eq_true hb
      refine ⟨fun _ => ?_, Vals.skip hv.2 ?_⟩
      · rw [he]; simp [supo, supd]
      · have := hk.1
        rw [he, hi] at this
        exact this
    | false =>
      rw [hb] at h
      refine ⟨fun hd => ?_, Vals.step hv.2 hk.2 h⟩
      have hd' : D x.1 = true := by simpa [upd, hb] using hd
      have hne : Nat.beq x.2.1 d = false := by
        obtain ⟨y, hy, e1, e2⟩ := look_mem h
        have h3 := List.all_eq_true.1 hk.1 y hy
        simp only [Bool.and_eq_true, Bool.not_eq_true'] at h3
        rw [e2] at h3
        have h4 := h3.2
        simp only at h4
        rw [← Bool.not_eq_true] at h4 ⊢
        intro hq
        exact h4 (by rw [Nat.eq_of_beq_eq_true hq]; exact Nat.beq_refl d)
      show (bif Nat.beq x.2.1 d then v else s x.2.1) = x.2.2
      rw [hne]
      exact hv.1 hd'

theorem look_eq {l : List (Nat × Nat × Value)} {j d : Nat} {v v' : Value} (h : look l j = some (d, v')) (e : v = v') : look l j = some (d, v) := e ▸ h

/-- A part of a function's code. -/
def codeOf (fn : Func) : Code := match fn.body with | some c => c | none => .skip
def cAt : Code → List Bool → Code
  | c, [] => c
  | .seq x _, false :: l => cAt x l
  | .seq _ y, true :: l => cAt y l
  | .block _ x, false :: l => cAt x l
  | .loop x, false :: l => cAt x l
  | c, _ => c

theorem cond_t {t : Nat} {x y : Code} {w : World} (u : Sl a t (.bool true)) (h : x.wp P Q a w) : (Code.cond (.tmp t) x y).wp P Q a w := wp_cond_true ((getD_is a t).trans u) h
theorem cond_f {t : Nat} {x y : Code} {w : World} (u : Sl a t (.bool false)) (h : y.wp P Q a w) : (Code.cond (.tmp t) x y).wp P Q a w := wp_cond_false ((getD_is a t).trans u) h
theorem cond_s {t : Nat} {x y : Code} {w : World} {b : Bool} (u : Sl a t (.bool b)) (h : b = true → x.wp P Q a w) (h' : b = false → y.wp P Q a w) : (Code.cond (.tmp t) x y).wp P Q a w := by
  cases b
  · exact cond_f u (h' rfl)
  · exact cond_t u (h rfl)
theorem min_is (x y : Int) : (if y < x then y else x) = min x y := by split <;> omega
theorem max_is (x y : Int) : (if x < y then y else x) = max x y := by split <;> omega
theorem min4_is (a b c d : Int) : Value.int .i64 (if d < (if c < (if b < a then b else a) then c else (if b < a then b else a)) then d else (if c < (if b < a then b else a) then c else (if b < a then b else a))) = Value.int .i64 (min a (min b (min c d))) := by
  rw [min_is a b, min_is _ c, min_is _ d, Int.min_assoc, Int.min_assoc]
theorem max4_is (a b c d : Int) : Value.int .i64 (if (if c > (if b > a then b else a) then c else (if b > a then b else a)) < d then d else (if c > (if b > a then b else a) then c else (if b > a then b else a))) = Value.int .i64 (max a (max b (max c d))) := by
  rw [show (if b > a then b else a) = max a b from max_is a b, show (if c > max a b then c else max a b) = max (max a b) c from max_is _ c, max_is _ d, Int.max_assoc, Int.max_assoc]
theorem then_exit {id : Nat} {K : Act → World → Prop} {w : World} (h : Q (.exit id) a w) : Exit.then K Q (.exit id) a w := h
theorem then_ret {K : Act → World → Prop} {w : World} (h : Q .ret a w) : Exit.then K Q .ret a w := h
theorem block_ret {id : Nat} {w : World} (h : Q .ret a w) : Exit.inBlock id Q .ret a w := h
theorem exit_here {id : Nat} {w : World} (h : Q .normal a w) : Exit.inBlock id Q (.exit id) a w := by simp [Exit.inBlock, h]
theorem exit_on {id j : Nat} {w : World} (hj : Nat.beq j id = false) (h : Q (.exit j) a w) : Exit.inBlock id Q (.exit j) a w := by
  have : j ≠ id := fun e => by subst e; simp at hj
  simp [Exit.inBlock, this, h]

theorem least_of {p : Nat → Prop} : ∀ n, p n → ∃ n, p n ∧ ∀ m, p m → n ≤ m := by
  intro n
  induction n using Nat.strongRecOn with
  | ind n ih =>
    intro h
    by_cases hl : ∃ m, m < n ∧ p m
    · obtain ⟨m, hm, hp⟩ := hl
      exact ih m hm hp
    · exact ⟨n, h, fun m hm => Nat.le_of_not_lt fun hlt => hl ⟨m, hlt, hm⟩⟩

/-- A loop: n goes down in every round. -/
theorem loop_go {c : Code} {w : World} (I : Nat → Act → World → Prop) (n0 : Nat) (h0 : I n0 a w)
    (round : ∀ n a w, I n a w → c.wp P (Exit.then (fun a' w' => ∃ n', n' < n ∧ I n' a' w') Q) a w) : (Code.loop c).wp P Q a w := by
  classical
  have hl : ∀ a w, (∃ n, I n a w) → ∃ n, I n a w ∧ ∀ m, I m a w → n ≤ m := fun a w ⟨n, h⟩ => least_of n h
  refine wp_loop (fun a w => ∃ n, I n a w) (fun a w => if h : ∃ n, I n a w then Classical.choose (hl a w h) else 0) ⟨n0, h0⟩ ?_
  intro a w h
  have hs := Classical.choose_spec (hl a w h)
  have hr := round _ a w hs.1
  refine Code.wp_mono ?_ hr
  intro e a' w' hq
  cases e with
  | normal =>
    obtain ⟨n', hlt, hI⟩ := hq
    refine ⟨⟨n', hI⟩, ?_⟩
    have h' : ∃ n, I n a' w' := ⟨n', hI⟩
    have hs' := (Classical.choose_spec (hl a' w' h')).2 n' hI
    rw [dif_pos h, dif_pos h']
    exact Nat.lt_of_le_of_lt hs' hlt
  | _ => exact hq

theorem calls_go {f : FuncId} {fn : Func} {c : Code} {args : Array Value} {w : World} {R : Ending → World → Prop} (hf : P.funcs[f]? = some fn) (hb : fn.body = some c) (N : Nat) (hN : fn.ntmps = N) (hle : Nat.ble args.size N = true)
    (h : ∀ a : Act, a.tmps.size = N → a.defers = [] → (∀ i v, args[i]? = some v → Sl a i v) → c.wp P (bodyPost P fn R) a w) : Calls P f args w R := by
  have hle' : args.size ≤ N := Nat.le_of_ble_eq_true hle
  refine calls_of_wp hf hb (h _ ?_ rfl ?_)
  · simp [hN]; omega
  · intro i v hi
    have hs : i < args.size := by
      rcases Nat.lt_or_ge i args.size with h1 | h1
      · exact h1
      · rw [Array.getElem?_eq_none h1] at hi; cases hi
    show (args ++ _)[i]?.getD undef = v
    rw [Array.getElem?_append_left hs, hi]
    rfl

theorem end_go {fn : Func} {R : Ending → World → Prop} {w : World} {v : Value} (df : a.defers = []) (hr : (results fn a.tmps).run P w = .ok v w) (h : R (.returned v) w) : bodyPost P fn R .ret a w := ⟨df, v, hr, h⟩

theorem res_tmp {fn : Func} {w : World} {t : Nat} {v : Value} (hr : fn.results = #[.tmp t]) (u : Sl a t v) : (results fn a.tmps).run P w = .ok v w := by
  unfold Sl at u
  simp [results, hr, u]
theorem res_tmp2 {fn : Func} {w : World} {t t' : Nat} {v v' : Value} (hr : fn.results = #[.tmp t, .tmp t']) (u : Sl a t v) (u' : Sl a t' v') : (results fn a.tmps).run P w = .ok (.tuple #[v, v']) w := by
  unfold Sl at u u'
  simp [results, hr, u, u']

end
end Go.Proofs.Ytlokjiniigfaiaa
