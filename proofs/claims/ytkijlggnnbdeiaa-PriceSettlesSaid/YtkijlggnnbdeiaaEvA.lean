/- Values and memory as a program's text alone computes them (block numbers are names of the text's own), and how they lie in a world. For every program. -/
import Derived.WalkKit
import Derived.Below
import Derived.RangeFuncNested
import Derived.RangeFuncLeaves
import Derived.OrdersIn
import Derived.Lib.Hide
set_option linter.unusedVariables false
set_option linter.unusedSimpArgs false
namespace Go.Proofs.Ytkijlggnnbdeiaa
open Go.RowKit

inductive AV where
  | any
  | bool (b : Bool)
  | int (k : IntKind) (n : Int)
  | str (s : ByteArray)
  | nilptr
  | nilslice
  | nilfunc
  | niliface
  | nilmap
  | ptr (id off : Nat)
  | ptrR (id ver i off : Nat)
  | ptrIn (e : AV) (off : Nat)
  | slice (id lo len ver : Nat)
  | list (l : List AV)
  | agg (cs : List AV)
  | tuple (vs : List AV)
  | func (f : Fn) (first captured : List AV)
  | iface (t : TypeId) (v : AV)
  | map (id : Nat)
  deriving Inhabited

def cellsOf : AV → List AV
  | .agg cs => cs
  | v => [v]

inductive Blk where
  | cells (cs : List AV)
  | row (k : Nat) (es : List AV) (ver : Nat)

abbrev Mem := Nat → Option Blk

/-! ### What needs no memory of the text's own -/

inductive RI (w : World) (B : Nat → Prop) : AV → Value → Prop
  | any (v : Value) : RI w B .any v
  | bool (b : Bool) : RI w B (.bool b) (.bool b)
  | int (k : IntKind) (n : Int) : RI w B (.int k n) (.int k n)
  | str (s : ByteArray) : RI w B (.str s) (.string s)
  | nilptr : RI w B .nilptr (.pointer none)
  | nilslice : RI w B .nilslice (.slice none 0 0)
  | nilfunc : RI w B .nilfunc .nilFunc
  | niliface : RI w B .niliface .nilIface
  | nilmap : RI w B .nilmap (.map none)
  | ptrIn (e : AV) (off b o : Nat) (x : Nat → Value) (hB : B b) (hx : ∀ j c, (cellsOf e)[j]? = some c → w.cell? ⟨b, o + j, none⟩ = some (x j))
      (hr : ∀ j c, (cellsOf e)[j]? = some c → RI w B c (x j)) : RI w B (.ptrIn e off) (.pointer (some ⟨b, o + off, none⟩))
  | lnil (a : Option Addr) (cap : Nat) (h : a = none → cap = 0) : RI w B (.list []) (.slice a 0 cap)
  | list (l : List AV) (b o cap k : Nat) (x : Nat → Nat → Value) (hc : l.length ≤ cap) (hB : l ≠ [] → B b) (hk : ∀ e ∈ l, (cellsOf e).length = k)
      (hx : ∀ i e j c, l[i]? = some e → (cellsOf e)[j]? = some c → w.cell? ⟨b, o + i * k + j, none⟩ = some (x i j))
      (hr : ∀ i e j c, l[i]? = some e → (cellsOf e)[j]? = some c → RI w B c (x i j)) : RI w B (.list l) (.slice (some ⟨b, o, none⟩) l.length cap)
  | agg (cs : List AV) (vs : Array Value) (hs : vs.size = cs.length) (h : ∀ i c, cs[i]? = some c → RI w B c (vs.getD i undef)) : RI w B (.agg cs) (.agg vs)
  | tuple (cs : List AV) (vs : Array Value) (hs : vs.size = cs.length) (h : ∀ i c, cs[i]? = some c → RI w B c (vs.getD i undef)) : RI w B (.tuple cs) (.tuple vs)
  | func (f : Fn) (p c : List AV) (ps cs : Array Value) (hp : ps.size = p.length) (hc : cs.size = c.length) (h : ∀ i x, p[i]? = some x → RI w B x (ps.getD i undef))
      (k : ∀ i x, c[i]? = some x → RI w B x (cs.getD i undef)) : RI w B (.func f p c) (.func f ps cs)
  | iface (t : TypeId) (x : AV) (v : Value) (h : RI w B x v) : RI w B (.iface t x) (.iface t v)

theorem RI.mono {w w' : World} {B B' : Nat → Prop} (hB : ∀ b, B b → B' b) (hc : ∀ b, B b → ∀ o, w'.cell? ⟨b, o, none⟩ = w.cell? ⟨b, o, none⟩) {x : AV} {v : Value} (h : RI w B x v) : RI w' B' x v := by
  induction h with
  | any v => exact .any v
  | bool b => exact .bool b
  | int k n => exact .int k n
  | str s => exact .str s
  | nilptr => exact .nilptr
  | nilslice => exact .nilslice
  | nilfunc => exact .nilfunc
  | niliface => exact .niliface
  | nilmap => exact .nilmap
  | ptrIn e off b o x hb hx hr ih => exact .ptrIn e off b o x (hB b hb) (fun j c h => (hc b hb _).trans (hx j c h)) ih
  | lnil a cap h => exact .lnil a cap h
  | list l b o cap k x hcap hb hk hx hr ih =>
    exact .list l b o cap k x hcap (fun h => hB b (hb h)) hk (fun i e j c h h' => (hc b (hb (fun hn => by subst hn; simp at h)) _).trans (hx i e j c h h')) ih
  | agg cs vs hs h ih => exact .agg cs vs hs ih
  | tuple cs vs hs h ih => exact .tuple cs vs hs ih
  | func f p c ps cs hp hc' h k ih ik => exact .func f p c ps cs hp hc' ih ik
  | iface t x v h ih => exact .iface t x v ih

/-! ### With memory of the text's own -/

/-- Blocks that are none of the text's own. -/
def Alien (A : Nat → Prop) (m : Mem) (ρ : Nat → Nat) (w : World) (b : Nat) : Prop := A b ∧ b < w.heap.size ∧ ∀ id, m id ≠ none → ρ id ≠ b

inductive Rep (A : Nat → Prop) (m : Mem) (ρ : Nat → Nat) (w : World) : AV → Value → Prop
  | base {x : AV} {v : Value} (h : RI w (Alien A m ρ w) x v) : Rep A m ρ w x v
  | ptr (id off : Nat) (cs : List AV) (h : m id = some (.cells cs)) : Rep A m ρ w (.ptr id off) (.pointer (some ⟨ρ id, off, none⟩))
  | ptrR (id ver i off k : Nat) (es : List AV) (ver' : Nat) (a : Option Addr) (h : m id = some (.row k es ver')) (hle : ver ≤ ver') (hv : ver = ver' → i < es.length ∧ a = some ⟨ρ id, i * k + off, none⟩) : Rep A m ρ w (.ptrR id ver i off) (.pointer a)
  | slice (id lo len ver k : Nat) (es : List AV) (ver' : Nat) (a : Option Addr) (n c : Nat) (h : m id = some (.row k es ver')) (hle : ver ≤ ver')
      (hv : ver = ver' → lo + len ≤ es.length ∧ n = len ∧ ∃ o vs t, a = some ⟨ρ id, o, none⟩ ∧ (0 < c → o = lo * k) ∧ len ≤ c ∧ w.heap[ρ id]? = some (.cells vs t (0, 0)) ∧ (lo + c) * k ≤ vs.size) : Rep A m ρ w (.slice id lo len ver) (.slice a n c)
  | agg (cs : List AV) (vs : Array Value) (hs : vs.size = cs.length) (h : ∀ i c, cs[i]? = some c → Rep A m ρ w c (vs.getD i undef)) : Rep A m ρ w (.agg cs) (.agg vs)
  | tuple (cs : List AV) (vs : Array Value) (hs : vs.size = cs.length) (h : ∀ i c, cs[i]? = some c → Rep A m ρ w c (vs.getD i undef)) : Rep A m ρ w (.tuple cs) (.tuple vs)
  | func (f : Fn) (p c : List AV) (ps cs : Array Value) (hp : ps.size = p.length) (hc : cs.size = c.length) (h : ∀ i x, p[i]? = some x → Rep A m ρ w x (ps.getD i undef))
      (k : ∀ i x, c[i]? = some x → Rep A m ρ w x (cs.getD i undef)) : Rep A m ρ w (.func f p c) (.func f ps cs)
  | iface (t : TypeId) (x : AV) (v : Value) (h : Rep A m ρ w x v) : Rep A m ρ w (.iface t x) (.iface t v)

def FitsB (A : Nat → Prop) (m : Mem) (ρ : Nat → Nat) (w : World) (b : Nat) : Blk → Prop
  | .cells cs => ∃ vs t, w.heap[b]? = some (.cells vs t (0, 0)) ∧ vs.size = cs.length ∧ ∀ i c, cs[i]? = some c → Rep A m ρ w c (vs.getD i undef)
  | .row k es _ => 0 < k ∧ (∀ e ∈ es, (cellsOf e).length = k) ∧ ∃ vs t, w.heap[b]? = some (.cells vs t (0, 0)) ∧ es.length * k ≤ vs.size ∧
      ∀ i e j c, es[i]? = some e → (cellsOf e)[j]? = some c → Rep A m ρ w c (vs.getD (i * k + j) undef)

structure Fits (A : Nat → Prop) (m : Mem) (ρ : Nat → Nat) (w : World) : Prop where
  inj : ∀ i j, m i ≠ none → m j ≠ none → ρ i = ρ j → i = j
  at_ : ∀ id b, m id = some b → FitsB A m ρ w (ρ id) b

theorem FitsB.lt {A : Nat → Prop} {m : Mem} {ρ : Nat → Nat} {w : World} {b : Nat} {x : Blk} (h : FitsB A m ρ w b x) : b < w.heap.size := by
  cases x with
  | cells cs =>
    obtain ⟨vs, t, h, _⟩ := h
    exact (Array.getElem?_eq_some_iff.1 h).1
  | row k es ver =>
    obtain ⟨_, _, vs, t, h, _⟩ := h
    exact (Array.getElem?_eq_some_iff.1 h).1

/-- How one block may turn. -/
def BlkKeep : Blk → Blk → Prop
  | .cells cs, .cells cs' => cs'.length = cs.length
  | .row k es ver, .row k' es' ver' => k' = k ∧ ver ≤ ver' ∧ (ver = ver' → es.length = es'.length)
  | _, _ => False
def BlkSame : Blk → Blk → Prop
  | .row _ _ ver, .row _ _ ver' => ver = ver'
  | _, _ => True

theorem BlkKeep.refl : ∀ b, BlkKeep b b
  | .cells _ => rfl
  | .row _ _ _ => ⟨rfl, Nat.le_refl _, fun _ => rfl⟩
theorem BlkKeep.trans : ∀ {a b c}, BlkKeep a b → BlkKeep b c → BlkKeep a c
  | .cells _, .cells _, .cells _, h, k => Eq.trans k h
  | .row _ _ _, .row _ _ _, .row _ _ _, ⟨e, h, h'⟩, ⟨e', k, k'⟩ => ⟨e'.trans e, Nat.le_trans h k, fun he => by
      subst he
      have : _ = _ := Nat.le_antisymm h k
      exact (h' this).trans (k' this.symm)⟩
  | .cells _, .row _ _ _, _, h, _ => h.elim
  | .row _ _ _, .cells _, _, h, _ => h.elim
  | .cells _, .cells _, .row _ _ _, _, k => k.elim
  | .row _ _ _, .row _ _ _, .cells _, _, k => k.elim
theorem BlkSame.refl : ∀ b, BlkSame b b
  | .cells _ => trivial
  | .row _ _ _ => rfl

/-- From one state to a later one. -/
structure Ext (m : Mem) (ρ : Nat → Nat) (w : World) (m' : Mem) (ρ' : Nat → Nat) (w' : World) : Prop where
  os : w'.os = w.os
  tape : w'.tape = w.tape
  output : w'.output = w.output
  size : w.heap.size ≤ w'.heap.size
  frame : ∀ b, b < w.heap.size → (∀ id, m id ≠ none → ρ id ≠ b) → w'.heap[b]? = w.heap[b]?
  ids : ∀ id, m' id ≠ none → (m id ≠ none ∧ ρ' id = ρ id) ∨ w.heap.size ≤ ρ' id
  keep : ∀ id b, m id = some b → ∃ b', m' id = some b' ∧ BlkKeep b b' ∧
    (BlkSame b b' → ρ' id = ρ id ∧ ∀ vs t, w.heap[ρ id]? = some (.cells vs t (0, 0)) → ∃ vs', w'.heap[ρ id]? = some (.cells vs' t (0, 0)) ∧ vs'.size = vs.size)

theorem Ext.refl (m : Mem) (ρ : Nat → Nat) (w : World) : Ext m ρ w m ρ w :=
  ⟨rfl, rfl, rfl, Nat.le_refl _, fun _ _ _ => rfl, fun _ h => .inl ⟨h, rfl⟩, fun _ b h => ⟨b, h, .refl b, fun _ => ⟨rfl, fun vs t hv => ⟨vs, hv, rfl⟩⟩⟩⟩

theorem BlkSame.of_trans : ∀ {a b c}, BlkKeep a b → BlkKeep b c → BlkSame a c → BlkSame a b ∧ BlkSame b c
  | .cells _, .cells _, .cells _, _, _, _ => ⟨trivial, trivial⟩
  | .row _ _ _, .row _ _ _, .row _ _ _, ⟨_, h, _⟩, ⟨_, k, _⟩, e => by
    simp only [BlkSame] at *
    omega
  | .cells _, .row _ _ _, _, h, _, _ => h.elim
  | .row _ _ _, .cells _, _, h, _, _ => h.elim
  | .cells _, .cells _, .row _ _ _, _, k, _ => k.elim
  | .row _ _ _, .row _ _ _, .cells _, _, k, _ => k.elim

theorem Ext.trans {m m' m'' : Mem} {ρ ρ' ρ'' : Nat → Nat} {w w' w'' : World} (h : Ext m ρ w m' ρ' w') (k : Ext m' ρ' w' m'' ρ'' w'') : Ext m ρ w m'' ρ'' w'' where
  os := k.os.trans h.os
  tape := k.tape.trans h.tape
  output := k.output.trans h.output
  size := Nat.le_trans h.size k.size
  frame b hb hn := by
    rw [k.frame b (Nat.lt_of_lt_of_le hb h.size) (fun id hid he => ?_), h.frame b hb hn]
    rcases h.ids id hid with ⟨h1, h2⟩ | h1
    · exact hn id h1 (h2 ▸ he)
    · omega
  ids id hid := by
    rcases k.ids id hid with ⟨h1, h2⟩ | h1
    · rcases h.ids id h1 with ⟨h3, h4⟩ | h3
      · exact .inl ⟨h3, h2.trans h4⟩
      · exact .inr (by omega)
    · exact .inr (Nat.le_trans h.size h1)
  keep id b hb := by
    obtain ⟨b', hb', hk, hs⟩ := h.keep id b hb
    obtain ⟨b'', hb'', hk', hs'⟩ := k.keep id b' hb'
    refine ⟨b'', hb'', hk.trans hk', fun hsame => ?_⟩
    obtain ⟨e1, e2⟩ := BlkSame.of_trans hk hk' hsame
    obtain ⟨r1, c1⟩ := hs e1
    obtain ⟨r2, c2⟩ := hs' e2
    refine ⟨r2.trans r1, fun vs t hv => ?_⟩
    obtain ⟨vs', h1, h2⟩ := c1 vs t hv
    obtain ⟨vs'', h3, h4⟩ := c2 vs' t (r1 ▸ h1)
    exact ⟨vs'', r1 ▸ h3, h4.trans h2⟩

theorem cell_of_heap {w w' : World} {b : Nat} (h : w'.heap[b]? = w.heap[b]?) (o : Nat) : w'.cell? ⟨b, o, none⟩ = w.cell? ⟨b, o, none⟩ := World.cell?_of_block (w := w) h

theorem Ext.alien {A : Nat → Prop} {m m' : Mem} {ρ ρ' : Nat → Nat} {w w' : World} (h : Ext m ρ w m' ρ' w') {b : Nat} (k : Alien A m ρ w b) : Alien A m' ρ' w' b :=
  ⟨k.1, Nat.lt_of_lt_of_le k.2.1 h.size, fun id hid he => by
    rcases h.ids id hid with ⟨h1, h2⟩ | h1
    · exact k.2.2 id h1 (h2 ▸ he)
    · have := k.2.1; omega⟩

theorem Ext.ri {A : Nat → Prop} {m m' : Mem} {ρ ρ' : Nat → Nat} {w w' : World} (h : Ext m ρ w m' ρ' w') {x : AV} {v : Value} (k : RI w (Alien A m ρ w) x v) : RI w' (Alien A m' ρ' w') x v :=
  k.mono (fun b hb => h.alien hb) (fun b hb o => cell_of_heap (h.frame b hb.2.1 hb.2.2) o)

theorem Rep.mono {A : Nat → Prop} {m m' : Mem} {ρ ρ' : Nat → Nat} {w w' : World} (h : Ext m ρ w m' ρ' w') {x : AV} {v : Value} (k : Rep A m ρ w x v) : Rep A m' ρ' w' x v := by
  induction k with
  | base k => exact .base (h.ri k)
  | ptr id off cs hm =>
    obtain ⟨b', hb', hk, hs⟩ := h.keep id _ hm
    cases b' with
    | cells cs' => rw [← (hs trivial).1]; exact .ptr id off cs' hb'
    | row k es ver => exact hk.elim
  | ptrR id ver i off k es ver' a hm hle hv =>
    obtain ⟨b', hb', hk, hs⟩ := h.keep id _ hm
    cases b' with
    | cells cs' => exact hk.elim
    | row k' es' ver2 =>
      obtain ⟨rfl, h2, h3⟩ := hk
      refine .ptrR id ver i off k' es' ver2 a hb' (Nat.le_trans hle h2) (fun he => ?_)
      have e1 : ver' = ver2 := by omega
      rw [(hs e1).1, ← h3 e1]
      exact hv (by omega)
  | slice id lo len ver k es ver' a n c hm hle hv =>
    obtain ⟨b', hb', hk, hs⟩ := h.keep id _ hm
    cases b' with
    | cells cs' => exact hk.elim
    | row k' es' ver2 =>
      obtain ⟨rfl, h2, h3⟩ := hk
      refine .slice id lo len ver k' es' ver2 a n c hb' (Nat.le_trans hle h2) (fun he => ?_)
      have e1 : ver' = ver2 := by omega
      obtain ⟨r1, r2⟩ := hs e1
      obtain ⟨l1, e0, o, vs, t, rfl, l2, l3, l4, l5⟩ := hv (by omega)
      obtain ⟨vs', l6, l7⟩ := r2 vs t l4
      exact ⟨by rw [← h3 e1]; exact l1, e0, o, vs', t, by rw [r1], l2, l3, by rw [r1]; exact l6, by omega⟩
  | agg cs vs hs h ih => exact .agg cs vs hs ih
  | tuple cs vs hs h ih => exact .tuple cs vs hs ih
  | func f p c ps cs hp hc h k ih ik => exact .func f p c ps cs hp hc ih ik
  | iface t x v h ih => exact .iface t x v ih

theorem FitsB.mono {A : Nat → Prop} {m m' : Mem} {ρ ρ' : Nat → Nat} {w w' : World} (h : Ext m ρ w m' ρ' w') {b : Nat} {x : Blk} (he : w'.heap[b]? = w.heap[b]?) (k : FitsB A m ρ w b x) : FitsB A m' ρ' w' b x := by
  cases x with
  | cells cs =>
    obtain ⟨vs, t, h1, h2, h3⟩ := k
    exact ⟨vs, t, he.trans h1, h2, fun i c hc => (h3 i c hc).mono h⟩
  | row k es ver =>
    obtain ⟨h0, h4, vs, t, h1, h2, h3⟩ := k
    exact ⟨h0, h4, vs, t, he.trans h1, h2, fun i e j c hc hd => (h3 i e j c hc hd).mono h⟩

/-- The rest of memory, behind a step that turned at most one block. -/
theorem Fits.step {A : Nat → Prop} {m m' : Mem} {ρ ρ' : Nat → Nat} {w w' : World} (h : Ext m ρ w m' ρ' w') (k : Fits A m ρ w) (q : Nat) (hm : ∀ id, id ≠ q → m' id = m id) (hr : ∀ id, id ≠ q → m id ≠ none → ρ' id = ρ id)
    (hw : ∀ id, id ≠ q → m id ≠ none → w'.heap[ρ id]? = w.heap[ρ id]?) (hq : ∀ b, m' q = some b → FitsB A m' ρ' w' (ρ' q) b) (hn : m' q ≠ none → (m q ≠ none ∧ ρ' q = ρ q) ∨ w.heap.size ≤ ρ' q) : Fits A m' ρ' w' where
  inj i j hi hj he := by
    have lt : ∀ id, m id ≠ none → ρ id < w.heap.size := fun id hid => by
      cases hb : m id with
      | none => exact absurd hb hid
      | some b => exact (k.at_ id b hb).lt
    by_cases h1 : i = q
    · by_cases h2 : j = q
      · rw [h1, h2]
      · subst h1
        rw [hm j h2] at hj
        rw [hr j h2 hj] at he
        rcases hn hi with ⟨h3, h4⟩ | h3
        · exact k.inj i j h3 hj (h4.symm.trans he)
        · have := lt j hj; omega
    · rw [hm i h1] at hi
      rw [hr i h1 hi] at he
      by_cases h2 : j = q
      · subst h2
        rcases hn hj with ⟨h3, h4⟩ | h3
        · exact k.inj i j hi h3 (he.trans h4)
        · have := lt i hi; omega
      · rw [hm j h2] at hj
        rw [hr j h2 hj] at he
        exact k.inj i j hi hj he
  at_ id b hb := by
    by_cases h1 : id = q
    · subst h1; exact hq b hb
    · rw [hm id h1] at hb
      have hne : m id ≠ none := by rw [hb]; simp
      rw [hr id h1 hne]
      exact (k.at_ id b hb).mono h (hw id h1 hne)

/-! ### Which names a value bears -/

mutual
def idsOf : AV → List Nat
  | .ptr id _ => [id]
  | .ptrR id _ _ _ => [id]
  | .slice id _ _ _ => [id]
  | .map id => [id]
  | .agg cs => idsL cs
  | .tuple cs => idsL cs
  | .func _ p c => idsL p ++ idsL c
  | .iface _ v => idsOf v
  | _ => []
def idsL : List AV → List Nat
  | [] => []
  | v :: l => idsOf v ++ idsL l
end

theorem idsL_get {l : List AV} {i : Nat} {x : AV} (h : l[i]? = some x) {n : Nat} (hn : n ∈ idsOf x) : n ∈ idsL l := by
  induction l generalizing i with
  | nil => simp at h
  | cons y l ih =>
    cases i with
    | zero => simp at h; subst h; simp [idsL, hn]
    | succ i => simp at h; simp [idsL, ih h]

theorem Rep.ri {A : Nat → Prop} {m : Mem} {ρ : Nat → Nat} {w : World} {x : AV} {v : Value} (h : Rep A m ρ w x v) (hi : idsOf x = []) : RI w (Alien A m ρ w) x v := by
  have key : ∀ {l : List AV}, idsL l = [] → ∀ i x, l[i]? = some x → idsOf x = [] := fun hl i x hx => by
    rw [List.eq_nil_iff_forall_not_mem]
    intro n hn
    have := idsL_get hx hn
    rw [hl] at this; cases this
  induction h with
  | base h => exact h
  | ptr => simp [idsOf] at hi
  | ptrR => simp [idsOf] at hi
  | slice => simp [idsOf] at hi
  | agg cs vs hs h ih => exact .agg cs vs hs fun i c hc => ih i c hc (key (by simpa [idsOf] using hi) i c hc)
  | tuple cs vs hs h ih => exact .tuple cs vs hs fun i c hc => ih i c hc (key (by simpa [idsOf] using hi) i c hc)
  | func f p c ps cs hp hc h k ih ik =>
    simp only [idsOf, List.append_eq_nil_iff] at hi
    exact .func f p c ps cs hp hc (fun i x hx => ih i x hx (key hi.1 i x hx)) (fun i x hx => ik i x hx (key hi.2 i x hx))
  | iface t x v h ih => exact .iface t x v (ih (by simpa [idsOf] using hi))

/-- A value of one cell. -/
def isCell : AV → Bool
  | .any | .agg _ | .tuple _ => false
  | _ => true

def oneC : Value → Bool
  | .agg _ | .tuple _ => false
  | _ => true

theorem RI.oneC {w : World} {B : Nat → Prop} {x : AV} {v : Value} (h : RI w B x v) (hc : isCell x = true) : oneC v = true := by
  cases h <;> first | rfl | cases hc

theorem Rep.oneC {A : Nat → Prop} {m : Mem} {ρ : Nat → Nat} {w : World} {x : AV} {v : Value} (h : Rep A m ρ w x v) (hc : isCell x = true) : oneC v = true := by
  cases h with
  | base h => exact h.oneC hc
  | _ => first | rfl | cases hc

theorem cells_size {A : Nat → Prop} {m : Mem} {ρ : Nat → Nat} {w : World} {x : AV} {v : Value} (h : Rep A m ρ w x v) (hx : isCell x = true ∨ ∃ cs, x = .agg cs) : v.cells.size = (cellsOf x).length ∧ ∀ i c, (cellsOf x)[i]? = some c → Rep A m ρ w c (v.cells.getD i undef) := by
  have one : ∀ {x : AV} {v : Value}, cellsOf x = [x] → v.cells = #[v] → Rep A m ρ w x v → v.cells.size = (cellsOf x).length ∧ ∀ i c, (cellsOf x)[i]? = some c → Rep A m ρ w c (v.cells.getD i undef) := fun h1 h2 hr => by
    rw [h1, h2]
    refine ⟨rfl, fun i c hc => ?_⟩
    cases i with
    | zero => simp at hc; subst hc; simpa using hr
    | succ i => simp at hc
  rcases hx with hx | ⟨cs, rfl⟩
  · cases h with
    | base h =>
      have hh := h
      cases h <;> first | exact one rfl rfl (.base hh) | cases hx
    | ptr id off cs hm => exact one rfl rfl (.ptr id off cs hm)
    | ptrR id ver i off k es ver' a hm hle hv => exact one rfl rfl (.ptrR id ver i off k es ver' a hm hle hv)
    | slice id lo len ver k es ver' a n c hm hle hv => exact one rfl rfl (.slice id lo len ver k es ver' a n c hm hle hv)
    | agg => cases hx
    | tuple => cases hx
    | func f p c ps cs hp hc h k => exact one rfl rfl (.func f p c ps cs hp hc h k)
    | iface t x v h => exact one rfl rfl (.iface t x v h)
  · cases h with
    | base h =>
      cases h with
      | agg cs vs hs h => exact ⟨hs, fun i c hc => .base (h i c hc)⟩
    | agg cs vs hs h => exact ⟨hs, h⟩

end Go.Proofs.Ytkijlggnnbdeiaa
