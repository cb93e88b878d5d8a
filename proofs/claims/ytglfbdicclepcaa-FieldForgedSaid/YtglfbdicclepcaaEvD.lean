/- Values and memory as a program's text alone computes them (block numbers are names of the text's own), and how they lie in a world. For every program. Steps of memory: nothing turns, a new block, a block written, a row laid anew, a call. For every program. Operations on plain values: what each gives, by the text alone, and that it gives this in every world. For every program. Operations without calls: what each gives, and that it gives this in every world. For every program. -/
import Derived.WalkKit
import Derived.Below
import Derived.RangeFuncNested
import Derived.RangeFuncLeaves
import Derived.OrdersIn
import Derived.Lib.Hide
import Derived.MapKept
set_option linter.unusedVariables false
set_option linter.unusedSimpArgs false
namespace Go.Proofs.Ytglfbdicclepcaa
set_option maxRecDepth 100000
section
open Go.RowKit

inductive AV where
  | any
  | bool (b : Bool)
  | int (k : IntKind) (n : Int)
  | str (s : ByteArray)
  | nilptr
  | nilslice
  | nilfunc
  | niliface
  | nilmap
  | ptr (id off : Nat)
  | ptrR (id ver i off : Nat)
  | ptrIn (e : AV) (off : Nat)
  | slice (id lo len ver : Nat)
  | list (l : List AV)
  | agg (cs : List AV)
  | tuple (vs : List AV)
  | func (f : Fn) (first captured : List AV)
  | iface (t : TypeId) (v : AV)
  | map (id : Nat)
  | val (v : Value)
  | pin (x : AV) (v : Value)
  deriving Inhabited

def cellsOf : AV → List AV
  | .agg cs => cs
  | v => [v]

inductive Blk where
  | cells (cs : List AV)
  | row (k : Nat) (es : List AV) (ver : Nat)
  | mp (es : List AV)

abbrev Mem := Nat → Option Blk

/-! ### What needs no memory of the text's own -/

inductive RI (w : World) (B : Nat → Prop) : AV → Value → Prop
  | any (v : Value) : RI w B .any v
  | bool (b : Bool) : RI w B (.bool b) (.bool b)
  | int (k : IntKind) (n : Int) : RI w B (.int k n) (.int k n)
  | str (s : ByteArray) : RI w B (.str s) (.string s)
  | nilptr : RI w B .nilptr (.pointer none)
  | nilslice : RI w B .nilslice (.slice none 0 0)
  | nilfunc : RI w B .nilfunc .nilFunc
  | niliface : RI w B .niliface .nilIface
  | nilmap : RI w B .nilmap (.map none)
  | ptrIn (e : AV) (off b o : Nat) (x : Nat → Value) (hB : B b) (hx : ∀ j c, (cellsOf e)[j]? = some c → w.cell? ⟨b, o + j, none⟩ = some (x j))
      (hr : ∀ j c, (cellsOf e)[j]? = some c → RI w B c (x j)) : RI w B (.ptrIn e off) (.pointer (some ⟨b, o + off, none⟩))
  | lnil (a : Option Addr) (cap : Nat) (h : a = none → cap = 0) : RI w B (.list []) (.slice a 0 cap)
  | list (l : List AV) (b o cap k : Nat) (x : Nat → Nat → Value) (hc : l.length ≤ cap) (hB : l ≠ [] → B b) (hk : ∀ e ∈ l, (cellsOf e).length = k)
      (hx : ∀ i e j c, l[i]? = some e → (cellsOf e)[j]? = some c → w.cell? ⟨b, o + i * k + j, none⟩ = some (x i j))
      (hr : ∀ i e j c, l[i]? = some e → (cellsOf e)[j]? = some c → RI w B c (x i j)) : RI w B (.list l) (.slice (some ⟨b, o, none⟩) l.length cap)
  | agg (cs : List AV) (vs : Array Value) (hs : vs.size = cs.length) (h : ∀ i c, cs[i]? = some c → RI w B c (vs.getD i undef)) : RI w B (.agg cs) (.agg vs)
  | tuple (cs : List AV) (vs : Array Value) (hs : vs.size = cs.length) (h : ∀ i c, cs[i]? = some c → RI w B c (vs.getD i undef)) : RI w B (.tuple cs) (.tuple vs)
  | func (f : Fn) (p c : List AV) (ps cs : Array Value) (hp : ps.size = p.length) (hc : cs.size = c.length) (h : ∀ i x, p[i]? = some x → RI w B x (ps.getD i undef))
      (k : ∀ i x, c[i]? = some x → RI w B x (cs.getD i undef)) : RI w B (.func f p c) (.func f ps cs)
  | iface (t : TypeId) (x : AV) (v : Value) (h : RI w B x v) : RI w B (.iface t x) (.iface t v)
  | val (v : Value) : RI w B (.val v) v
  | pin (x : AV) (v : Value) (h : RI w B x v) : RI w B (.pin x v) v

theorem RI.mono {w w' : World} {B B' : Nat → Prop} (hB : ∀ b, B b → B' b) (hc : ∀ b, B b → ∀ o, w'.cell? ⟨b, o, none⟩ = w.cell? ⟨b, o, none⟩) {x : AV} {v : Value} (h : RI w B x v) : RI w' B' x v := by
  induction h with
  | any v => exact .any v
  | bool b => exact .bool b
  | int k n => exact .int k n
  | str s => exact .str s
  | nilptr => exact .nilptr
  | nilslice => exact .nilslice
  | nilfunc => exact .nilfunc
  | niliface => exact .niliface
  | nilmap => exact .nilmap
  | ptrIn e off b o x hb hx hr ih => exact .ptrIn e off b o x (hB b hb) (fun j c h => (hc b hb _).trans (hx j c h)) ih
  | lnil a cap h => exact .lnil a cap h
  | list l b o cap k x hcap hb hk hx hr ih =>
    exact .list l b o cap k x hcap (fun h => hB b (hb h)) hk (fun i e j c h h' => (hc b (hb (fun hn => by subst hn; simp at h)) _).trans (hx i e j c h h')) ih
  | agg cs vs hs h ih => exact .agg cs vs hs ih
  | tuple cs vs hs h ih => exact .tuple cs vs hs ih
  | func f p c ps cs hp hc' h k ih ik => exact .func f p c ps cs hp hc' ih ik
  | iface t x v h ih => exact .iface t x v ih
  | val v => exact .val v
  | pin x v h ih => exact .pin x v ih

/-! ### With memory of the text's own -/

/-- Blocks that are none of the text's own. -/
def Alien (A : Nat → Prop) (m : Mem) (ρ : Nat → Nat) (w : World) (b : Nat) : Prop := A b ∧ b < w.heap.size ∧ ∀ id, m id ≠ none → ρ id ≠ b

inductive Rep (A : Nat → Prop) (m : Mem) (ρ : Nat → Nat) (w : World) : AV → Value → Prop
  | base {x : AV} {v : Value} (h : RI w (Alien A m ρ w) x v) : Rep A m ρ w x v
  | ptr (id off : Nat) (cs : List AV) (h : m id = some (.cells cs)) : Rep A m ρ w (.ptr id off) (.pointer (some ⟨ρ id, off, none⟩))
  | ptrR (id ver i off k : Nat) (es : List AV) (ver' : Nat) (a : Option Addr) (h : m id = some (.row k es ver')) (hle : ver ≤ ver') (hv : ver = ver' → i < es.length ∧ a = some ⟨ρ id, i * k + off, none⟩) : Rep A m ρ w (.ptrR id ver i off) (.pointer a)
  | slice (id lo len ver k : Nat) (es : List AV) (ver' : Nat) (a : Option Addr) (n c : Nat) (h : m id = some (.row k es ver')) (hle : ver ≤ ver')
      (hv : ver = ver' → lo + len ≤ es.length ∧ n = len ∧ ∃ o vs t, a = some ⟨ρ id, o, none⟩ ∧ (0 < c → o = lo * k) ∧ len ≤ c ∧ w.heap[ρ id]? = some (.cells vs t (0, 0)) ∧ (lo + c) * k ≤ vs.size) : Rep A m ρ w (.slice id lo len ver) (.slice a n c)
  | map (id : Nat) (es : List AV) (h : m id = some (.mp es)) : Rep A m ρ w (.map id) (.map (some (ρ id)))
  | agg (cs : List AV) (vs : Array Value) (hs : vs.size = cs.length) (h : ∀ i c, cs[i]? = some c → Rep A m ρ w c (vs.getD i undef)) : Rep A m ρ w (.agg cs) (.agg vs)
  | tuple (cs : List AV) (vs : Array Value) (hs : vs.size = cs.length) (h : ∀ i c, cs[i]? = some c → Rep A m ρ w c (vs.getD i undef)) : Rep A m ρ w (.tuple cs) (.tuple vs)
  | func (f : Fn) (p c : List AV) (ps cs : Array Value) (hp : ps.size = p.length) (hc : cs.size = c.length) (h : ∀ i x, p[i]? = some x → Rep A m ρ w x (ps.getD i undef))
      (k : ∀ i x, c[i]? = some x → Rep A m ρ w x (cs.getD i undef)) : Rep A m ρ w (.func f p c) (.func f ps cs)
  | iface (t : TypeId) (x : AV) (v : Value) (h : Rep A m ρ w x v) : Rep A m ρ w (.iface t x) (.iface t v)

/-- An entry of a map: a whole number and a value; it was born when there were i of them. -/
def FitsE (A : Nat → Prop) (m : Mem) (ρ : Nat → Nat) (w : World) (i : Nat) (x : AV) (e : MapEntry) : Prop :=
  ∃ k v, x = .agg [.int .i64 k, v] ∧ e.key = .int .i64 k ∧ e.born = i ∧ Rep A m ρ w v e.val
def FitsB (A : Nat → Prop) (m : Mem) (ρ : Nat → Nat) (w : World) (b : Nat) : Blk → Prop
  | .cells cs => ∃ vs t, w.heap[b]? = some (.cells vs t (0, 0)) ∧ vs.size = cs.length ∧ ∀ i c, cs[i]? = some c → Rep A m ρ w c (vs.getD i undef)
  | .row k es _ => 0 < k ∧ (∀ e ∈ es, (cellsOf e).length = k) ∧ ∃ vs t, w.heap[b]? = some (.cells vs t (0, 0)) ∧ es.length * k ≤ vs.size ∧
      ∀ i e j c, es[i]? = some e → (cellsOf e)[j]? = some c → Rep A m ρ w c (vs.getD (i * k + j) undef)
  | .mp es => ∃ ents, w.heap[b]? = some (.map ents ents.size) ∧ ents.size = es.length ∧ ∀ i x e, es[i]? = some x → ents[i]? = some e → FitsE A m ρ w i x e

structure Fits (A : Nat → Prop) (m : Mem) (ρ : Nat → Nat) (w : World) : Prop where
  inj : ∀ i j, m i ≠ none → m j ≠ none → ρ i = ρ j → i = j
  at_ : ∀ id b, m id = some b → FitsB A m ρ w (ρ id) b

theorem FitsB.lt {A : Nat → Prop} {m : Mem} {ρ : Nat → Nat} {w : World} {b : Nat} {x : Blk} (h : FitsB A m ρ w b x) : b < w.heap.size := by
  cases x with
  | cells cs =>
    obtain ⟨vs, t, h, _⟩ := h
    exact (Array.getElem?_eq_some_iff.1 h).1
  | row k es ver =>
    obtain ⟨_, _, vs, t, h, _⟩ := h
    exact (Array.getElem?_eq_some_iff.1 h).1
  | mp es =>
    obtain ⟨ents, h, _⟩ := h
    exact (Array.getElem?_eq_some_iff.1 h).1

/-- How one block may turn. -/
def BlkKeep : Blk → Blk → Prop
  | .cells cs, .cells cs' => cs'.length = cs.length
  | .row k es ver, .row k' es' ver' => k' = k ∧ ver ≤ ver' ∧ (ver = ver' → es.length = es'.length)
  | .mp _, .mp _ => True
  | _, _ => False
def BlkSame : Blk → Blk → Prop
  | .row _ _ ver, .row _ _ ver' => ver = ver'
  | _, _ => True

theorem BlkKeep.refl : ∀ b, BlkKeep b b
  | .cells _ => rfl
  | .row _ _ _ => ⟨rfl, Nat.le_refl _, fun _ => rfl⟩
  | .mp _ => trivial
theorem BlkKeep.trans {a b c : Blk} (h : BlkKeep a b) (k : BlkKeep b c) : BlkKeep a c := by
  cases a <;> cases b <;> first
    | exact h.elim
    | skip
  · cases c <;> first
      | exact k.elim
      | exact Eq.trans k h
  · cases c <;> first
      | exact k.elim
      | skip
    obtain ⟨e, h, h'⟩ := h
    obtain ⟨e', k, k'⟩ := k
    refine ⟨e'.trans e, Nat.le_trans h k, fun he => ?_⟩
    subst he
    have : _ = _ := Nat.le_antisymm h k
    exact (h' this).trans (k' this.symm)
  · cases c <;> first
      | exact k.elim
      | trivial
theorem BlkSame.refl : ∀ b, BlkSame b b
  | .cells _ => trivial
  | .row _ _ _ => rfl
  | .mp _ => trivial

/-- From one state to a later one. -/
structure Ext (m : Mem) (ρ : Nat → Nat) (w : World) (m' : Mem) (ρ' : Nat → Nat) (w' : World) : Prop where
  os : w'.os = w.os
  tape : w'.tape = w.tape
  output : w'.output = w.output
  size : w.heap.size ≤ w'.heap.size
  frame : ∀ b, b < w.heap.size → (∀ id, m id ≠ none → ρ id ≠ b) → w'.heap[b]? = w.heap[b]?
  ids : ∀ id, m' id ≠ none → (m id ≠ none ∧ ρ' id = ρ id) ∨ w.heap.size ≤ ρ' id
  keep : ∀ id b, m id = some b → ∃ b', m' id = some b' ∧ BlkKeep b b' ∧
    (BlkSame b b' → ρ' id = ρ id ∧ ∀ vs t, w.heap[ρ id]? = some (.cells vs t (0, 0)) → ∃ vs' t', w'.heap[ρ id]? = some (.cells vs' t' (0, 0)) ∧ vs'.size = vs.size)

theorem Ext.refl (m : Mem) (ρ : Nat → Nat) (w : World) : Ext m ρ w m ρ w :=
  ⟨rfl, rfl, rfl, Nat.le_refl _, fun _ _ _ => rfl, fun _ h => .inl ⟨h, rfl⟩, fun _ b h => ⟨b, h, .refl b, fun _ => ⟨rfl, fun vs t hv => ⟨vs, t, hv, rfl⟩⟩⟩⟩

theorem BlkSame.of_trans {a b c : Blk} (h : BlkKeep a b) (k : BlkKeep b c) (e : BlkSame a c) : BlkSame a b ∧ BlkSame b c := by
  cases a <;> cases b <;> first
    | exact h.elim
    | skip
  · cases c <;> first
      | exact k.elim
      | exact ⟨trivial, trivial⟩
  · cases c <;> first
      | exact k.elim
      | skip
    obtain ⟨_, h, _⟩ := h
    obtain ⟨_, k, _⟩ := k
    simp only [BlkSame] at *
    omega
  · cases c <;> first
      | exact k.elim
      | exact ⟨trivial, trivial⟩

theorem Ext.trans {m m' m'' : Mem} {ρ ρ' ρ'' : Nat → Nat} {w w' w'' : World} (h : Ext m ρ w m' ρ' w') (k : Ext m' ρ' w' m'' ρ'' w'') : Ext m ρ w m'' ρ'' w'' where
  os := k.os.trans h.os
  tape := k.tape.trans h.tape
  output := k.output.trans h.output
  size := Nat.le_trans h.size k.size
  frame b hb hn := by
    rw [k.frame b (Nat.lt_of_lt_of_le hb h.size) (fun id hid he => ?_), h.frame b hb hn]
    rcases h.ids id hid with ⟨h1, h2⟩ | h1
    · exact hn id h1 (h2 ▸ he)
    · omega
  ids id hid := by
    rcases k.ids id hid with ⟨h1, h2⟩ | h1
    · rcases h.ids id h1 with ⟨h3, h4⟩ | h3
      · exact .inl ⟨h3, h2.trans h4⟩
      · exact .inr (by omega)
    · exact .inr (Nat.le_trans h.size h1)
  keep id b hb := by
    obtain ⟨b', hb', hk, hs⟩ := h.keep id b hb
    obtain ⟨b'', hb'', hk', hs'⟩ := k.keep id b' hb'
    refine ⟨b'', hb'', hk.trans hk', fun hsame => ?_⟩
    obtain ⟨e1, e2⟩ := BlkSame.of_trans hk hk' hsame
    obtain ⟨r1, c1⟩ := hs e1
    obtain ⟨r2, c2⟩ := hs' e2
    refine ⟨r2.trans r1, fun vs t hv => ?_⟩
    obtain ⟨vs', t', h1, h2⟩ := c1 vs t hv
    obtain ⟨vs'', t'', h3, h4⟩ := c2 vs' t' (r1 ▸ h1)
    exact ⟨vs'', t'', r1 ▸ h3, h4.trans h2⟩

theorem cell_of_heap {w w' : World} {b : Nat} (h : w'.heap[b]? = w.heap[b]?) (o : Nat) : w'.cell? ⟨b, o, none⟩ = w.cell? ⟨b, o, none⟩ := World.cell?_of_block (w := w) h

theorem Ext.alien {A : Nat → Prop} {m m' : Mem} {ρ ρ' : Nat → Nat} {w w' : World} (h : Ext m ρ w m' ρ' w') {b : Nat} (k : Alien A m ρ w b) : Alien A m' ρ' w' b :=
  ⟨k.1, Nat.lt_of_lt_of_le k.2.1 h.size, fun id hid he => by
    rcases h.ids id hid with ⟨h1, h2⟩ | h1
    · exact k.2.2 id h1 (h2 ▸ he)
    · have := k.2.1; omega⟩

theorem Ext.ri {A : Nat → Prop} {m m' : Mem} {ρ ρ' : Nat → Nat} {w w' : World} (h : Ext m ρ w m' ρ' w') {x : AV} {v : Value} (k : RI w (Alien A m ρ w) x v) : RI w' (Alien A m' ρ' w') x v :=
  k.mono (fun b hb => h.alien hb) (fun b hb o => cell_of_heap (h.frame b hb.2.1 hb.2.2) o)

theorem Rep.mono {A : Nat → Prop} {m m' : Mem} {ρ ρ' : Nat → Nat} {w w' : World} (h : Ext m ρ w m' ρ' w') {x : AV} {v : Value} (k : Rep A m ρ w x v) : Rep A m' ρ' w' x v := by
  induction k with
  | base k => exact .base (h.ri k)
  | ptr id off cs hm =>
    obtain ⟨b', hb', hk, hs⟩ := h.keep id _ hm
    cases b' with
    | cells cs' => rw [← (hs trivial).1]; exact .ptr id off cs' hb'
    | row k es ver => exact hk.elim
    | mp es => exact hk.elim
  | ptrR id ver i off k es ver' a hm hle hv =>
    obtain ⟨b', hb', hk, hs⟩ := h.keep id _ hm
    cases b' with
    | cells cs' => exact hk.elim
    | mp es => exact hk.elim
    | row k' es' ver2 =>
      obtain ⟨rfl, h2, h3⟩ := hk
      refine .ptrR id ver i off k' es' ver2 a hb' (Nat.le_trans hle h2) (fun he => ?_)
      have e1 : ver' = ver2 := by omega
      rw [(hs e1).1, ← h3 e1]
      exact hv (by omega)
  | slice id lo len ver k es ver' a n c hm hle hv =>
    obtain ⟨b', hb', hk, hs⟩ := h.keep id _ hm
    cases b' with
    | cells cs' => exact hk.elim
    | mp es => exact hk.elim
    | row k' es' ver2 =>
      obtain ⟨rfl, h2, h3⟩ := hk
      refine .slice id lo len ver k' es' ver2 a n c hb' (Nat.le_trans hle h2) (fun he => ?_)
      have e1 : ver' = ver2 := by omega
      obtain ⟨r1, r2⟩ := hs e1
      obtain ⟨l1, e0, o, vs, t, rfl, l2, l3, l4, l5⟩ := hv (by omega)
      obtain ⟨vs', t', l6, l7⟩ := r2 vs t l4
      exact ⟨by rw [← h3 e1]; exact l1, e0, o, vs', t', by rw [r1], l2, l3, by rw [r1]; exact l6, by omega⟩
  | map id es hm =>
    obtain ⟨b', hb', hk, hs⟩ := h.keep id _ hm
    cases b' with
    | cells cs' => exact hk.elim
    | row k es ver => exact hk.elim
    | mp es' => rw [← (hs trivial).1]; exact .map id es' hb'
  | agg cs vs hs h ih => exact .agg cs vs hs ih
  | tuple cs vs hs h ih => exact .tuple cs vs hs ih
  | func f p c ps cs hp hc h k ih ik => exact .func f p c ps cs hp hc ih ik
  | iface t x v h ih => exact .iface t x v ih

theorem FitsB.mono {A : Nat → Prop} {m m' : Mem} {ρ ρ' : Nat → Nat} {w w' : World} (h : Ext m ρ w m' ρ' w') {b : Nat} {x : Blk} (he : w'.heap[b]? = w.heap[b]?) (k : FitsB A m ρ w b x) : FitsB A m' ρ' w' b x := by
  cases x with
  | cells cs =>
    obtain ⟨vs, t, h1, h2, h3⟩ := k
    exact ⟨vs, t, he.trans h1, h2, fun i c hc => (h3 i c hc).mono h⟩
  | row k es ver =>
    obtain ⟨h0, h4, vs, t, h1, h2, h3⟩ := k
    exact ⟨h0, h4, vs, t, he.trans h1, h2, fun i e j c hc hd => (h3 i e j c hc hd).mono h⟩
  | mp es =>
    obtain ⟨ents, h1, h2, h3⟩ := k
    exact ⟨ents, he.trans h1, h2, fun i x e hx hn => by
      obtain ⟨k, v, q1, q2, q3, q4⟩ := h3 i x e hx hn
      exact ⟨k, v, q1, q2, q3, q4.mono h⟩⟩

/-- The rest of memory, behind a step that turned at most one block. -/
theorem Fits.step {A : Nat → Prop} {m m' : Mem} {ρ ρ' : Nat → Nat} {w w' : World} (h : Ext m ρ w m' ρ' w') (k : Fits A m ρ w) (q : Nat) (hm : ∀ id, id ≠ q → m' id = m id) (hr : ∀ id, id ≠ q → m id ≠ none → ρ' id = ρ id)
    (hw : ∀ id, id ≠ q → m id ≠ none → w'.heap[ρ id]? = w.heap[ρ id]?) (hq : ∀ b, m' q = some b → FitsB A m' ρ' w' (ρ' q) b) (hn : m' q ≠ none → (m q ≠ none ∧ ρ' q = ρ q) ∨ w.heap.size ≤ ρ' q) : Fits A m' ρ' w' where
  inj i j hi hj he := by
    have lt : ∀ id, m id ≠ none → ρ id < w.heap.size := fun id hid => by
      cases hb : m id with
      | none => exact absurd hb hid
      | some b => exact (k.at_ id b hb).lt
    by_cases h1 : i = q
    · by_cases h2 : j = q
      · rw [h1, h2]
      · subst h1
        rw [hm j h2] at hj
        rw [hr j h2 hj] at he
        rcases hn hi with ⟨h3, h4⟩ | h3
        · exact k.inj i j h3 hj (h4.symm.trans he)
        · have := lt j hj; omega
    · rw [hm i h1] at hi
      rw [hr i h1 hi] at he
      by_cases h2 : j = q
      · subst h2
        rcases hn hj with ⟨h3, h4⟩ | h3
        · exact k.inj i j hi h3 (he.trans h4)
        · have := lt i hi; omega
      · rw [hm j h2] at hj
        rw [hr j h2 hj] at he
        exact k.inj i j hi hj he
  at_ id b hb := by
    by_cases h1 : id = q
    · subst h1; exact hq b hb
    · rw [hm id h1] at hb
      have hne : m id ≠ none := by rw [hb]; simp
      rw [hr id h1 hne]
      exact (k.at_ id b hb).mono h (hw id h1 hne)

/-! ### Which names a value bears -/

mutual
def idsOf : AV → List Nat
  | .ptr id _ => [id]
  | .ptrR id _ _ _ => [id]
  | .slice id _ _ _ => [id]
  | .map id => [id]
  | .agg cs => idsL cs
  | .tuple cs => idsL cs
  | .func _ p c => idsL p ++ idsL c
  | .iface _ v => idsOf v
  | _ => []
def idsL : List AV → List Nat
  | [] => []
  | v :: l => idsOf v ++ idsL l
end

theorem idsL_get {l : List AV} {i : Nat} {x : AV} (h : l[i]? = some x) {n : Nat} (hn : n ∈ idsOf x) : n ∈ idsL l := by
  induction l generalizing i with
  | nil => simp at h
  | cons y l ih =>
    cases i with
    | zero => simp at h; subst h; simp [idsL, hn]
    | succ i => simp at h; simp [idsL, ih h]

theorem Rep.ri {A : Nat → Prop} {m : Mem} {ρ : Nat → Nat} {w : World} {x : AV} {v : Value} (h : Rep A m ρ w x v) (hi : idsOf x = []) : RI w (Alien A m ρ w) x v := by
  have key : ∀ {l : List AV}, idsL l = [] → ∀ i x, l[i]? = some x → idsOf x = [] := fun hl i x hx => by
    rw [List.eq_nil_iff_forall_not_mem]
    intro n hn
    have := idsL_get hx hn
    rw [hl] at this; cases this
  induction h with
  | base h => exact h
  | ptr => simp [idsOf] at hi
  | ptrR => simp [idsOf] at hi
  | slice => simp [idsOf] at hi
  | map => simp [idsOf] at hi
  | agg cs vs hs h ih => exact .agg cs vs hs fun i c hc => ih i c hc (key (by simpa [idsOf] using hi) i c hc)
  | tuple cs vs hs h ih => exact .tuple cs vs hs fun i c hc => ih i c hc (key (by simpa [idsOf] using hi) i c hc)
  | func f p c ps cs hp hc h k ih ik =>
    simp only [idsOf, List.append_eq_nil_iff] at hi
    exact .func f p c ps cs hp hc (fun i x hx => ih i x hx (key hi.1 i x hx)) (fun i x hx => ik i x hx (key hi.2 i x hx))
  | iface t x v h ih => exact .iface t x v (ih (by simpa [idsOf] using hi))

/-- A value of one cell. -/
def isCell : AV → Bool
  | .any | .agg _ | .tuple _ | .val _ | .pin _ _ => false
  | _ => true

def oneC : Value → Bool
  | .agg _ | .tuple _ => false
  | _ => true

theorem RI.oneC {w : World} {B : Nat → Prop} {x : AV} {v : Value} (h : RI w B x v) (hc : isCell x = true) : oneC v = true := by
  cases h <;> first | rfl | cases hc

theorem Rep.oneC {A : Nat → Prop} {m : Mem} {ρ : Nat → Nat} {w : World} {x : AV} {v : Value} (h : Rep A m ρ w x v) (hc : isCell x = true) : oneC v = true := by
  cases h with
  | base h => exact h.oneC hc
  | _ => first | rfl | cases hc

theorem cells_size {A : Nat → Prop} {m : Mem} {ρ : Nat → Nat} {w : World} {x : AV} {v : Value} (h : Rep A m ρ w x v) (hx : isCell x = true ∨ ∃ cs, x = .agg cs) : v.cells.size = (cellsOf x).length ∧ ∀ i c, (cellsOf x)[i]? = some c → Rep A m ρ w c (v.cells.getD i undef) := by
  have one : ∀ {x : AV} {v : Value}, cellsOf x = [x] → v.cells = #[v] → Rep A m ρ w x v → v.cells.size = (cellsOf x).length ∧ ∀ i c, (cellsOf x)[i]? = some c → Rep A m ρ w c (v.cells.getD i undef) := fun h1 h2 hr => by
    rw [h1, h2]
    refine ⟨rfl, fun i c hc => ?_⟩
    cases i with
    | zero => simp at hc; subst hc; simpa using hr
    | succ i => simp at hc
  rcases hx with hx | ⟨cs, rfl⟩
  · cases h with
    | base h =>
      have hh := h
      cases h <;> first | exact one rfl rfl (.base hh) | cases hx
    | ptr id off cs hm => exact one rfl rfl (.ptr id off cs hm)
    | ptrR id ver i off k es ver' a hm hle hv => exact one rfl rfl (.ptrR id ver i off k es ver' a hm hle hv)
    | slice id lo len ver k es ver' a n c hm hle hv => exact one rfl rfl (.slice id lo len ver k es ver' a n c hm hle hv)
    | map id es hm => exact one rfl rfl (.map id es hm)
    | agg => cases hx
    | tuple => cases hx
    | func f p c ps cs hp hc h k => exact one rfl rfl (.func f p c ps cs hp hc h k)
    | iface t x v h => exact one rfl rfl (.iface t x v h)
  · cases h with
    | base h =>
      cases h with
      | agg cs vs hs h => exact ⟨hs, fun i c hc => .base (h i c hc)⟩
    | agg cs vs hs h => exact ⟨hs, h⟩
end
section
open Go.RowKit

/-- Memory behind a step: one block written, new blocks from n0 on. -/
def updM (m : Mem) (wr : Option (Nat × Blk)) (n0 : Nat) (ns : List Blk) : Mem := fun id =>
  match (if n0 ≤ id then ns[id - n0]? else none) with
  | some b => some b
  | none => match wr with
    | some (i, b) => if i = id then some b else m id
    | none => m id

theorem updM_none (m : Mem) (n0 : Nat) : updM m none n0 [] = m := by
  funext id; simp [updM]
theorem updM_w (m : Mem) (i n0 : Nat) (b : Blk) (id : Nat) : updM m (some (i, b)) n0 [] id = if i = id then some b else m id := by
  simp [updM]
theorem updM_n (m : Mem) (n0 : Nat) (ns : List Blk) (id : Nat) : updM m none n0 ns id = match (if n0 ≤ id then ns[id - n0]? else none) with | some b => some b | none => m id := rfl

section
variable {A : Nat → Prop} {m : Mem} {ρ : Nat → Nat} {w : World}

theorem Fits.lt (h : Fits A m ρ w) {id : Nat} (hid : m id ≠ none) : ρ id < w.heap.size := by
  cases hb : m id with
  | none => exact absurd hb hid
  | some b => exact (h.at_ id b hb).lt

theorem heap_push (w : World) (o : Obj) (b : Nat) (h : b < w.heap.size) : (w.alloc o).heap[b]? = w.heap[b]? := Below.heap_alloc w o b h
theorem heap_new (w : World) (o : Obj) : (w.alloc o).heap[w.heap.size]? = some o := by
  show (w.heap.push o)[w.heap.size]? = _
  simp

/-- A new block. -/
theorem step_new (hF : Fits A m ρ w) {n0 : Nat} (hn : m n0 = none) (o : Obj) (blk : Blk)
    (hb : ∀ m' ρ', Ext m ρ w m' ρ' (w.alloc o) → FitsB A m' ρ' (w.alloc o) w.heap.size blk) :
    ∃ ρ', ρ' n0 = w.heap.size ∧ Ext m ρ w (updM m none n0 [blk]) ρ' (w.alloc o) ∧ Fits A (updM m none n0 [blk]) ρ' (w.alloc o) := by
  have hu : ∀ id, updM m none n0 [blk] id = if id = n0 then some blk else m id := fun id => by
    simp only [updM]
    by_cases h : id = n0
    · subst h; simp
    · rw [if_neg h]
      by_cases h2 : n0 ≤ id
      · obtain ⟨k, rfl⟩ : ∃ k, id = n0 + (k + 1) := ⟨id - n0 - 1, by omega⟩
        simp
      · simp [h2]
  have he : Ext m ρ w (updM m none n0 [blk]) (fun id => if id = n0 then w.heap.size else ρ id) (w.alloc o) := by
    refine ⟨rfl, rfl, rfl, by simp, fun b hb _ => heap_push w o b hb, fun id hid => ?_, fun id b hb => ?_⟩
    · by_cases h : id = n0
      · right; simp [h]
      · left
        rw [hu id, if_neg h] at hid
        exact ⟨hid, by simp [h]⟩
    · have h : id ≠ n0 := fun e => by subst e; rw [hn] at hb; cases hb
      have hlt : ρ id < w.heap.size := hF.lt (by rw [hb]; simp)
      refine ⟨b, by rw [hu, if_neg h, hb], .refl b, fun _ => ⟨by simp [h], fun vs t hv => ⟨vs, t, by rw [heap_push w o _ hlt]; exact hv, rfl⟩⟩⟩
  refine ⟨_, by simp, he, Fits.step he hF n0 (fun id h => by rw [hu, if_neg h]) (fun id h _ => by simp [h]) (fun id _ hid => heap_push w o _ (hF.lt hid)) ?_ (fun _ => .inr (by simp))⟩
  intro b hb'
  rw [hu, if_pos rfl] at hb'
  obtain rfl := Option.some.inj hb'
  simpa using hb _ _ he

/-- One block is written in its place. -/
theorem step_set (hF : Fits A m ρ w) {id n0 : Nat} {blk blk' : Blk} {vs vs' : Array Value} {t : TypeId} {w' : World} (hm : m id = some blk) (hk : BlkKeep blk blk')
    (hv : w.heap[ρ id]? = some (.cells vs t (0, 0))) (ho : w'.os = w.os) (ht : w'.tape = w.tape) (hu : w'.output = w.output) (hs : w'.heap.size = w.heap.size)
    (h1 : w'.heap[ρ id]? = some (.cells vs' t (0, 0))) (h2 : vs'.size = vs.size) (h3 : ∀ b, b ≠ ρ id → w'.heap[b]? = w.heap[b]?)
    (hb : ∀ m', Ext m ρ w m' ρ w' → FitsB A m' ρ w' (ρ id) blk') :
    Ext m ρ w (updM m (some (id, blk')) n0 []) ρ w' ∧ Fits A (updM m (some (id, blk')) n0 []) ρ w' := by
  have hq : m id ≠ none := by rw [hm]; simp
  have he : Ext m ρ w (updM m (some (id, blk')) n0 []) ρ w' := by
    refine ⟨ho, ht, hu, by omega, fun b _ hn => h3 b (fun e => hn id hq e.symm), fun i hi => .inl ⟨?_, rfl⟩, fun i b hi => ?_⟩
    · rw [updM_w] at hi
      by_cases h : id = i
      · subst h; exact hq
      · rwa [if_neg h] at hi
    · by_cases h : id = i
      · subst h
        rw [hm] at hi; obtain rfl := Option.some.inj hi
        refine ⟨blk', by rw [updM_w, if_pos rfl], hk, fun _ => ⟨rfl, fun us u hus => ?_⟩⟩
        rw [hv] at hus
        cases hus
        exact ⟨vs', _, h1, h2⟩
      · have hne : ρ i ≠ ρ id := fun e => h (hF.inj i id (by rw [hi]; simp) hq e).symm
        exact ⟨b, by rw [updM_w, if_neg h, hi], .refl b, fun _ => ⟨rfl, fun us u hus => ⟨us, u, by rw [h3 _ hne]; exact hus, rfl⟩⟩⟩
  refine ⟨he, Fits.step he hF id (fun i h => by rw [updM_w, if_neg (Ne.symm h)]) (fun _ _ _ => rfl) (fun i h hi => h3 _ (fun e => h (hF.inj i id hi hq e))) ?_ (fun _ => .inl ⟨hq, rfl⟩)⟩
  intro b hb'
  rw [updM_w, if_pos rfl] at hb'
  obtain rfl := Option.some.inj hb'
  exact hb _ he

/-- A map is written in its place. -/
theorem step_setM (hF : Fits A m ρ w) {id n0 : Nat} {es es' : List AV} {o : Obj} {w' : World} (hm : m id = some (.mp es))
    (hv : w.heap[ρ id]? = some o) (hnc : ∀ vs t, o ≠ .cells vs t (0, 0)) (ho : w'.os = w.os) (ht : w'.tape = w.tape) (hu : w'.output = w.output) (hs : w'.heap.size = w.heap.size)
    (h3 : ∀ b, b ≠ ρ id → w'.heap[b]? = w.heap[b]?) (hb : ∀ m', Ext m ρ w m' ρ w' → FitsB A m' ρ w' (ρ id) (.mp es')) :
    Ext m ρ w (updM m (some (id, .mp es')) n0 []) ρ w' ∧ Fits A (updM m (some (id, .mp es')) n0 []) ρ w' := by
  have hq : m id ≠ none := by rw [hm]; simp
  have he : Ext m ρ w (updM m (some (id, .mp es')) n0 []) ρ w' := by
    refine ⟨ho, ht, hu, by omega, fun b _ hn => h3 b (fun e => hn id hq e.symm), fun i hi => .inl ⟨?_, rfl⟩, fun i b hi => ?_⟩
    · rw [updM_w] at hi
      by_cases h : id = i
      · subst h; exact hq
      · rwa [if_neg h] at hi
    · by_cases h : id = i
      · subst h
        rw [hm] at hi; obtain rfl := Option.some.inj hi
        refine ⟨.mp es', by rw [updM_w, if_pos rfl], trivial, fun _ => ⟨rfl, fun us u hus => ?_⟩⟩
        rw [hv] at hus
        exact absurd (Option.some.inj hus) (hnc us u)
      · have hne : ρ i ≠ ρ id := fun e => h (hF.inj i id (by rw [hi]; simp) hq e).symm
        exact ⟨b, by rw [updM_w, if_neg h, hi], .refl b, fun _ => ⟨rfl, fun us u hus => ⟨us, u, by rw [h3 _ hne]; exact hus, rfl⟩⟩⟩
  refine ⟨he, Fits.step he hF id (fun i h => by rw [updM_w, if_neg (Ne.symm h)]) (fun _ _ _ => rfl) (fun i h hi => h3 _ (fun e => h (hF.inj i id hi hq e))) ?_ (fun _ => .inl ⟨hq, rfl⟩)⟩
  intro b hb'
  rw [updM_w, if_pos rfl] at hb'
  obtain rfl := Option.some.inj hb'
  exact hb _ he

/-- A row is laid anew in a new block. -/
theorem step_move (hF : Fits A m ρ w) {id n0 : Nat} {blk blk' : Blk} (o : Obj) (hm : m id = some blk) (hk : BlkKeep blk blk') (hne : ¬ BlkSame blk blk')
    (hb : ∀ m' ρ', Ext m ρ w m' ρ' (w.alloc o) → FitsB A m' ρ' (w.alloc o) w.heap.size blk') :
    ∃ ρ', ρ' id = w.heap.size ∧ Ext m ρ w (updM m (some (id, blk')) n0 []) ρ' (w.alloc o) ∧ Fits A (updM m (some (id, blk')) n0 []) ρ' (w.alloc o) := by
  have hq : m id ≠ none := by rw [hm]; simp
  have he : Ext m ρ w (updM m (some (id, blk')) n0 []) (fun i => if i = id then w.heap.size else ρ i) (w.alloc o) := by
    refine ⟨rfl, rfl, rfl, by simp, fun b hb _ => heap_push w o b hb, fun i hi => ?_, fun i b hi => ?_⟩
    · by_cases h : i = id
      · right; simp [h]
      · left
        rw [updM_w, if_neg (Ne.symm h)] at hi
        exact ⟨hi, by simp [h]⟩
    · by_cases h : i = id
      · subst h
        rw [hm] at hi; obtain rfl := Option.some.inj hi
        exact ⟨blk', by rw [updM_w, if_pos rfl], hk, fun hs => absurd hs hne⟩
      · have hlt : ρ i < w.heap.size := hF.lt (by rw [hi]; simp)
        exact ⟨b, by rw [updM_w, if_neg (Ne.symm h), hi], .refl b, fun _ => ⟨by simp [h], fun us u hus => ⟨us, u, by rw [heap_push w o _ hlt]; exact hus, rfl⟩⟩⟩
  refine ⟨_, by simp, he, Fits.step he hF id (fun i h => by rw [updM_w, if_neg (Ne.symm h)]) (fun i h _ => by simp [h]) (fun i _ hi => heap_push w o _ (hF.lt hi)) ?_ (fun _ => .inr (by simp))⟩
  intro b hb'
  rw [updM_w, if_pos rfl] at hb'
  obtain rfl := Option.some.inj hb'
  simpa using hb _ _ he

end

/-! ### Calls -/

def memL (M : List Blk) : Mem := fun id => M[id]?

theorem memL_nil : memL [] = fun _ => none := by funext id; simp [memL]

/-- What a function gives: from memory M and values args, the value r and memory M'. -/
def callable (P : Program) (f : FuncId) : Bool := match P.funcs[f]? with
  | some fn => fn.name != "runtime.NumGoroutine" && fn.body.isSome
  | none => false

/-- The blocks that lists may lie in, in a call's world: those that were handed over, and new ones. -/
def Allow (B : Nat → Prop) (s : Nat) : Nat → Prop := fun b => B b ∨ s ≤ b

def FnM (P : Program) (f : FuncId) (M : List Blk) (args : List AV) (r : AV) (M' : List Blk) : Prop :=
  callable P f = true ∧ ∀ (B : Nat → Prop) (ρ : Nat → Nat) (w : World) (vs : Array Value), Fits (Allow B w.heap.size) (memL M) ρ w → vs.size = args.length →
    (∀ i x, args[i]? = some x → Rep (Allow B w.heap.size) (memL M) ρ w x (vs.getD i undef)) →
    Calls P f vs w fun e w' => ∃ v ρ', e = .returned v ∧ Ext (memL M) ρ w (memL M') ρ' w' ∧ Fits (Allow B w.heap.size) (memL M') ρ' w' ∧ Rep (Allow B w.heap.size) (memL M') ρ' w' r v

/-- From one state to a later one, where nothing is said of the elder names. -/
structure ExtW (m : Mem) (ρ : Nat → Nat) (w : World) (m' : Mem) (ρ' : Nat → Nat) (w' : World) : Prop where
  os : w'.os = w.os
  tape : w'.tape = w.tape
  output : w'.output = w.output
  size : w.heap.size ≤ w'.heap.size
  frame : ∀ b, b < w.heap.size → (∀ id, m id ≠ none → ρ id ≠ b) → w'.heap[b]? = w.heap[b]?
  ids : ∀ id, m' id ≠ none → (m id ≠ none ∧ ρ' id = ρ id) ∨ w.heap.size ≤ ρ' id
theorem Ext.weak {m m' : Mem} {ρ ρ' : Nat → Nat} {w w' : World} (h : Ext m ρ w m' ρ' w') : ExtW m ρ w m' ρ' w' := ⟨h.os, h.tape, h.output, h.size, h.frame, h.ids⟩
theorem ExtW.refl (m : Mem) (ρ : Nat → Nat) (w : World) : ExtW m ρ w m ρ w := (Ext.refl m ρ w).weak
theorem ExtW.trans {m m' m'' : Mem} {ρ ρ' ρ'' : Nat → Nat} {w w' w'' : World} (h : ExtW m ρ w m' ρ' w') (k : ExtW m' ρ' w' m'' ρ'' w'') : ExtW m ρ w m'' ρ'' w'' where
  os := k.os.trans h.os
  tape := k.tape.trans h.tape
  output := k.output.trans h.output
  size := Nat.le_trans h.size k.size
  frame b hb hn := by
    rw [k.frame b (Nat.lt_of_lt_of_le hb h.size) (fun id hid he => ?_), h.frame b hb hn]
    rcases h.ids id hid with ⟨h1, h2⟩ | h1
    · exact hn id h1 (h2 ▸ he)
    · omega
  ids id hid := by
    rcases k.ids id hid with ⟨h1, h2⟩ | h1
    · rcases h.ids id h1 with ⟨h3, h4⟩ | h3
      · exact .inl ⟨h3, h2.trans h4⟩
      · exact .inr (by omega)
    · exact .inr (Nat.le_trans h.size h1)

def kindB : Blk → Nat
  | .cells _ => 0
  | .mp _ => 1
  | .row _ _ _ => 2
/-- Variables and maps of the first L names stay where they lie. -/
def PreC (L : Nat) (m : Mem) (ρ : Nat → Nat) (m' : Mem) (ρ' : Nat → Nat) : Prop := ∀ id, id < L → ∀ b, kindB b < 2 → m id = some b → (∃ b', m' id = some b' ∧ kindB b' = kindB b) ∧ ρ' id = ρ id
theorem PreC.refl (L : Nat) (m : Mem) (ρ : Nat → Nat) : PreC L m ρ m ρ := fun id _ b _ h => ⟨⟨b, h, rfl⟩, rfl⟩
theorem PreC.trans {L : Nat} {m m' m'' : Mem} {ρ ρ' ρ'' : Nat → Nat} (h : PreC L m ρ m' ρ') (k : PreC L m' ρ' m'' ρ'') : PreC L m ρ m'' ρ'' := fun id hi b hb hc => by
  obtain ⟨⟨b', h1, h1'⟩, h2⟩ := h id hi b hb hc
  obtain ⟨⟨b2, h3, h3'⟩, h4⟩ := k id hi b' (h1' ▸ hb) h1
  exact ⟨⟨b2, h3, h3'.trans h1'⟩, h4.trans h2⟩
theorem PreC.c {L : Nat} {m m' : Mem} {ρ ρ' : Nat → Nat} (h : PreC L m ρ m' ρ') {id : Nat} (hi : id < L) {cs : List AV} (hc : m id = some (.cells cs)) : (∃ cs', m' id = some (.cells cs')) ∧ ρ' id = ρ id := by
  obtain ⟨⟨b', h1, h1'⟩, h2⟩ := h id hi (.cells cs) (by simp [kindB]) hc
  cases b' with
  | cells cs' => exact ⟨⟨cs', h1⟩, h2⟩
  | row _ _ _ => cases h1'
  | mp _ => cases h1'
theorem PreC.m {L : Nat} {m m' : Mem} {ρ ρ' : Nat → Nat} (h : PreC L m ρ m' ρ') {id : Nat} (hi : id < L) {es : List AV} (hc : m id = some (.mp es)) : (∃ es', m' id = some (.mp es')) ∧ ρ' id = ρ id := by
  obtain ⟨⟨b', h1, h1'⟩, h2⟩ := h id hi (.mp es) (by simp [kindB]) hc
  cases b' with
  | mp es' => exact ⟨⟨es', h1⟩, h2⟩
  | row _ _ _ => cases h1'
  | cells _ => cases h1'
theorem Ext.preC {m m' : Mem} {ρ ρ' : Nat → Nat} {w w' : World} (h : Ext m ρ w m' ρ' w') (L : Nat) : PreC L m ρ m' ρ' := fun id _ b hk hc => by
  obtain ⟨b', h1, h2, h3⟩ := h.keep id _ hc
  cases b with
  | row _ _ _ => exact absurd hk (by simp [kindB])
  | cells cs =>
    cases b' with
    | cells cs' => exact ⟨⟨_, h1, rfl⟩, (h3 trivial).1⟩
    | row _ _ _ => exact h2.elim
    | mp _ => exact h2.elim
  | mp es =>
    cases b' with
    | mp es' => exact ⟨⟨_, h1, rfl⟩, (h3 trivial).1⟩
    | row _ _ _ => exact h2.elim
    | cells _ => exact h2.elim

/-- A function that is lent some of the caller's blocks, and says nothing of what lay in them. -/
def FnL (P : Program) (f : FuncId) (M : List Blk) (args : List AV) (r : AV) (R : List Blk) : Prop :=
  callable P f = true ∧ ∀ (B : Nat → Prop) (ρ : Nat → Nat) (w : World) (vs : Array Value), Fits (Allow B w.heap.size) (memL M) ρ w → vs.size = args.length →
    (∀ i x, args[i]? = some x → Rep (Allow B w.heap.size) (memL M) ρ w x (vs.getD i undef)) →
    Calls P f vs w fun e w' => ∃ v ρ', e = .returned v ∧ ExtW (memL M) ρ w (memL R) ρ' w' ∧ PreC M.length (memL M) ρ (memL R) ρ' ∧ Fits (Allow B w.heap.size) (memL R) ρ' w' ∧ Rep (Allow B w.heap.size) (memL R) ρ' w' r v
theorem FnM.lent {P : Program} {f : FuncId} {M : List Blk} {args : List AV} {r : AV} {R : List Blk} (h : FnM P f M args r R) : FnL P f M args r R :=
  ⟨h.1, fun B ρ w vs hF hs hr => (h.2 B ρ w vs hF hs hr).mono fun e w' ⟨v, ρ', h1, h2, h3, h4⟩ => ⟨v, ρ', h1, h2.weak, h2.preC _, h3, h4⟩⟩

mutual
def shiftV (n : Nat) : AV → AV
  | .ptr id off => .ptr (id + n) off
  | .ptrR id ver i off => .ptrR (id + n) ver i off
  | .slice id lo len ver => .slice (id + n) lo len ver
  | .map id => .map (id + n)
  | .agg cs => .agg (shiftL n cs)
  | .tuple cs => .tuple (shiftL n cs)
  | .func f p c => .func f (shiftL n p) (shiftL n c)
  | .iface t v => .iface t (shiftV n v)
  | v => v
def shiftL (n : Nat) : List AV → List AV
  | [] => []
  | v :: l => shiftV n v :: shiftL n l
end

theorem shiftL_get (n : Nat) : ∀ (l : List AV) (i : Nat), (shiftL n l)[i]? = (l[i]?).map (shiftV n)
  | [], i => by simp [shiftL]
  | v :: l, 0 => by simp [shiftL]
  | v :: l, i + 1 => by simpa [shiftL] using shiftL_get n l i
theorem shiftL_len (n : Nat) : ∀ (l : List AV), (shiftL n l).length = l.length
  | [] => rfl
  | v :: l => by simp [shiftL, shiftL_len n l]

theorem shiftV_ri (n : Nat) {w : World} {B : Nat → Prop} {x : AV} {v : Value} (h : RI w B x v) : RI w B (shiftV n x) v := by
  induction h with
  | agg cs vs hs h ih =>
    simp only [shiftV]
    refine .agg _ vs (by rw [shiftL_len]; exact hs) fun i c hc => ?_
    rw [shiftL_get] at hc
    obtain ⟨c', h1, rfl⟩ := Option.map_eq_some_iff.1 hc
    exact ih i c' h1
  | tuple cs vs hs h ih =>
    simp only [shiftV]
    refine .tuple _ vs (by rw [shiftL_len]; exact hs) fun i c hc => ?_
    rw [shiftL_get] at hc
    obtain ⟨c', h1, rfl⟩ := Option.map_eq_some_iff.1 hc
    exact ih i c' h1
  | func f p c ps cs hp hc h k ih ik =>
    simp only [shiftV]
    refine .func f _ _ ps cs (by rw [shiftL_len]; exact hp) (by rw [shiftL_len]; exact hc) (fun i x hx => ?_) (fun i x hx => ?_)
    · rw [shiftL_get] at hx
      obtain ⟨x', h1, rfl⟩ := Option.map_eq_some_iff.1 hx
      exact ih i x' h1
    · rw [shiftL_get] at hx
      obtain ⟨x', h1, rfl⟩ := Option.map_eq_some_iff.1 hx
      exact ik i x' h1
  | iface t x v h ih => simp only [shiftV]; exact .iface t _ v ih
  | ptrIn e off b o x hB hx hr ih => simp only [shiftV]; exact .ptrIn e off b o x hB hx hr
  | list l b o cap k x hc hB hk hx hr ih => simp only [shiftV]; exact .list l b o cap k x hc hB hk hx hr
  | lnil a cap h => simp only [shiftV]; exact .lnil a cap h
  | pin x v h ih => simp only [shiftV]; exact .pin x v h
  | _ => simp only [shiftV]; constructor

mutual
def shiftB (n : Nat) : Blk → Blk
  | .cells cs => .cells (shiftL n cs)
  | .row k es ver => .row k (shiftL n es) ver
  | .mp es => .mp (shiftL n es)
end

theorem cellsOf_shift (n : Nat) (x : AV) : cellsOf (shiftV n x) = shiftL n (cellsOf x) := by
  cases x <;> simp [shiftV, cellsOf, shiftL]

theorem Rep.shift {A A' : Nat → Prop} {n : Nat} {M' : List Blk} {ρ' : Nat → Nat} {w' : World} {m2 : Mem} {ρ2 : Nat → Nat} (hm : ∀ id b, M'[id]? = some b → m2 (id + n) = some (shiftB n b)) (hr : ∀ id, id < M'.length → ρ2 (id + n) = ρ' id)
    (ha : ∀ b, Alien A' (memL M') ρ' w' b → Alien A m2 ρ2 w' b) {x : AV} {v : Value} (h : Rep A' (memL M') ρ' w' x v) : Rep A m2 ρ2 w' (shiftV n x) v := by
  have lt : ∀ {id : Nat} {b : Blk}, memL M' id = some b → id < M'.length := fun h => (List.getElem?_eq_some_iff.1 h).1
  induction h with
  | base h => exact .base (shiftV_ri n (h.mono ha (fun _ _ _ => rfl)))
  | ptr id off cs h =>
    simp only [shiftV]
    rw [← hr id (lt h)]
    exact .ptr _ _ (shiftL n cs) (hm id _ h)
  | ptrR id ver i off k es ver' a h hle hv =>
    simp only [shiftV]
    refine .ptrR _ ver i off k (shiftL n es) ver' a (hm id _ h) hle fun he => ?_
    rw [shiftL_len, hr id (lt h)]
    exact hv he
  | slice id lo len ver k es ver' a n' c h hle hv =>
    simp only [shiftV]
    refine .slice _ lo len ver k (shiftL n es) ver' a n' c (hm id _ h) hle fun he => ?_
    rw [shiftL_len, hr id (lt h)]
    exact hv he
  | map id es h =>
    simp only [shiftV]
    rw [← hr id (lt h)]
    exact .map _ (shiftL n es) (hm id _ h)
  | agg cs vs hs h ih =>
    simp only [shiftV]
    refine .agg _ vs (by rw [shiftL_len]; exact hs) fun i c hc => ?_
    rw [shiftL_get] at hc
    obtain ⟨c', h1, rfl⟩ := Option.map_eq_some_iff.1 hc
    exact ih i c' h1
  | tuple cs vs hs h ih =>
    simp only [shiftV]
    refine .tuple _ vs (by rw [shiftL_len]; exact hs) fun i c hc => ?_
    rw [shiftL_get] at hc
    obtain ⟨c', h1, rfl⟩ := Option.map_eq_some_iff.1 hc
    exact ih i c' h1
  | func f p c ps cs hp hc h k ih ik =>
    simp only [shiftV]
    refine .func f _ _ ps cs (by rw [shiftL_len]; exact hp) (by rw [shiftL_len]; exact hc) (fun i x hx => ?_) (fun i x hx => ?_)
    · rw [shiftL_get] at hx
      obtain ⟨x', h1, rfl⟩ := Option.map_eq_some_iff.1 hx
      exact ih i x' h1
    · rw [shiftL_get] at hx
      obtain ⟨x', h1, rfl⟩ := Option.map_eq_some_iff.1 hx
      exact ik i x' h1
  | iface t x v h ih => simp only [shiftV]; exact .iface t _ v ih

theorem FitsB.shift {A A' : Nat → Prop} {n : Nat} {M' : List Blk} {ρ' : Nat → Nat} {w' : World} {m2 : Mem} {ρ2 : Nat → Nat} (hm : ∀ id b, M'[id]? = some b → m2 (id + n) = some (shiftB n b)) (hr : ∀ id, id < M'.length → ρ2 (id + n) = ρ' id)
    (ha : ∀ b, Alien A' (memL M') ρ' w' b → Alien A m2 ρ2 w' b) {b : Nat} {x : Blk} (h : FitsB A' (memL M') ρ' w' b x) : FitsB A m2 ρ2 w' b (shiftB n x) := by
  cases x with
  | cells cs =>
    obtain ⟨vs, t, h1, h2, h3⟩ := h
    refine ⟨vs, t, h1, by rw [shiftL_len]; exact h2, fun i c hc => ?_⟩
    rw [shiftL_get] at hc
    obtain ⟨c', h4, rfl⟩ := Option.map_eq_some_iff.1 hc
    exact (h3 i c' h4).shift hm hr ha
  | row k es ver =>
    obtain ⟨h0, h5, vs, t, h1, h2, h3⟩ := h
    refine ⟨h0, fun e he => ?_, vs, t, h1, by rw [shiftL_len]; exact h2, fun i e j c he hc => ?_⟩
    · obtain ⟨i, hi⟩ := List.mem_iff_getElem?.1 he
      rw [shiftL_get] at hi
      obtain ⟨e', h4, rfl⟩ := Option.map_eq_some_iff.1 hi
      rw [cellsOf_shift, shiftL_len]
      exact h5 e' (List.mem_iff_getElem?.2 ⟨i, h4⟩)
    · rw [shiftL_get] at he
      obtain ⟨e', h4, rfl⟩ := Option.map_eq_some_iff.1 he
      rw [cellsOf_shift, shiftL_get] at hc
      obtain ⟨c', h6, rfl⟩ := Option.map_eq_some_iff.1 hc
      exact (h3 i e' j c' h4 h6).shift hm hr ha
  | mp es =>
    obtain ⟨ents, h1, h2, h3⟩ := h
    refine ⟨ents, h1, by rw [shiftL_len]; exact h2, fun i x e hx hn => ?_⟩
    rw [shiftL_get] at hx
    obtain ⟨x', h4, rfl⟩ := Option.map_eq_some_iff.1 hx
    obtain ⟨k, v, rfl, q2, q3, q4⟩ := h3 i x' e h4 hn
    exact ⟨k, shiftV n v, by simp [shiftV, shiftL], q2, q3, q4.shift hm hr ha⟩

mutual
/-- No list inside. -/
def plainV : AV → Bool
  | .list _ | .ptrIn _ _ => false
  | .agg cs => plainL cs
  | .tuple cs => plainL cs
  | .func _ p c => plainL p && plainL c
  | .iface _ v => plainV v
  | .pin x _ => plainV x
  | _ => true
def plainL : List AV → Bool
  | [] => true
  | v :: l => plainV v && plainL l
end

theorem plainL_get {l : List AV} (h : plainL l = true) {i : Nat} {x : AV} (hx : l[i]? = some x) : plainV x = true := by
  induction l generalizing i with
  | nil => simp at hx
  | cons y l ih =>
    simp only [plainL, Bool.and_eq_true] at h
    cases i with
    | zero => simp at hx; subst hx; exact h.1
    | succ i => simp at hx; exact ih h.2 hx

theorem RI.plain {w : World} {B B' : Nat → Prop} {x : AV} {v : Value} (h : RI w B x v) (hp : plainV x = true) : RI w B' x v := by
  induction h with
  | agg cs vs hs h ih => exact .agg cs vs hs fun i c hc => ih i c hc (plainL_get (by simpa [plainV] using hp) hc)
  | tuple cs vs hs h ih => exact .tuple cs vs hs fun i c hc => ih i c hc (plainL_get (by simpa [plainV] using hp) hc)
  | func f p c ps cs hp' hc h k ih ik =>
    simp only [plainV, Bool.and_eq_true] at hp
    exact .func f p c ps cs hp' hc (fun i x hx => ih i x hx (plainL_get hp.1 hx)) (fun i x hx => ik i x hx (plainL_get hp.2 hx))
  | iface t x v h ih => exact .iface t x v (ih (by simpa [plainV] using hp))
  | ptrIn => simp [plainV] at hp
  | lnil => simp [plainV] at hp
  | list => simp [plainV] at hp
  | pin x v h ih => exact .pin x v (ih (by simpa [plainV] using hp))
  | _ => constructor

theorem Rep.plain {A A' : Nat → Prop} {m : Mem} {ρ : Nat → Nat} {w : World} {x : AV} {v : Value} (h : Rep A m ρ w x v) (hp : plainV x = true) : Rep A' m ρ w x v := by
  induction h with
  | base h => exact .base (h.plain hp)
  | ptr id off cs h => exact .ptr id off cs h
  | ptrR id ver i off k es ver' a h hle hv => exact .ptrR id ver i off k es ver' a h hle hv
  | slice id lo len ver k es ver' a n c h hle hv => exact .slice id lo len ver k es ver' a n c h hle hv
  | map id es h => exact .map id es h
  | agg cs vs hs h ih => exact .agg cs vs hs fun i c hc => ih i c hc (plainL_get (by simpa [plainV] using hp) hc)
  | tuple cs vs hs h ih => exact .tuple cs vs hs fun i c hc => ih i c hc (plainL_get (by simpa [plainV] using hp) hc)
  | func f p c ps cs hp' hc h k ih ik =>
    simp only [plainV, Bool.and_eq_true] at hp
    exact .func f p c ps cs hp' hc (fun i x hx => ih i x hx (plainL_get hp.1 hx)) (fun i x hx => ik i x hx (plainL_get hp.2 hx))
  | iface t x v h ih => exact .iface t x v (ih (by simpa [plainV] using hp))

def PlainB : Blk → Prop
  | .cells cs => ∀ c ∈ cs, plainV c = true
  | .row _ es _ => ∀ e ∈ es, plainV e = true
  | .mp es => ∀ e ∈ es, plainV e = true

theorem plain_cells {e : AV} (h : plainV e = true) {j : Nat} {c : AV} (hc : (cellsOf e)[j]? = some c) : plainV c = true := by
  cases e with
  | agg cs => exact plainL_get (show plainL cs = true by simpa [plainV] using h) hc
  | _ =>
    simp only [cellsOf] at hc
    obtain ⟨h1, h2⟩ := List.getElem?_eq_some_iff.1 hc
    have : j = 0 := by simp at h1; omega
    subst this
    simp at h2
    rw [← h2]; exact h

theorem FitsB.plain {A A' : Nat → Prop} {m : Mem} {ρ : Nat → Nat} {w : World} {b : Nat} {x : Blk} (h : FitsB A m ρ w b x) (hp : PlainB x) : FitsB A' m ρ w b x := by
  cases x with
  | cells cs =>
    obtain ⟨vs, t, h1, h2, h3⟩ := h
    exact ⟨vs, t, h1, h2, fun i c hc => (h3 i c hc).plain (hp c (List.mem_iff_getElem?.2 ⟨i, hc⟩))⟩
  | row k es ver =>
    obtain ⟨h0, h5, vs, t, h1, h2, h3⟩ := h
    exact ⟨h0, h5, vs, t, h1, h2, fun i e j c he hc => (h3 i e j c he hc).plain (plain_cells (hp e (List.mem_iff_getElem?.2 ⟨i, he⟩)) hc)⟩
  | mp es =>
    obtain ⟨ents, h1, h2, h3⟩ := h
    exact ⟨ents, h1, h2, fun i x e hx hn => by
      obtain ⟨k, v, rfl, q2, q3, q4⟩ := h3 i x e hx hn
      have := hp _ (List.mem_iff_getElem?.2 ⟨i, hx⟩)
      exact ⟨k, v, rfl, q2, q3, q4.plain (by simpa [plainV, plainL] using this)⟩⟩

theorem Fits.plain {A A' : Nat → Prop} {m : Mem} {ρ : Nat → Nat} {w : World} (h : Fits A m ρ w) (hp : ∀ id b, m id = some b → PlainB b) : Fits A' m ρ w :=
  ⟨h.inj, fun id b hb => (h.at_ id b hb).plain (hp id b hb)⟩

/-- Behind a call that was given nothing of the caller's own memory. -/
theorem step_call {A A' : Nat → Prop} {m : Mem} {ρ : Nat → Nat} {w : World} (hF : Fits A m ρ w) (hup : ∀ b, w.heap.size ≤ b → A b) {n0 : Nat} {R : List Blk} (hn : ∀ j, j < R.length → m (n0 + j) = none) {ρc : Nat → Nat} {w' : World} {ρe : Nat → Nat}
    (hE : Ext (memL []) ρe w (memL R) ρc w') (hR : Fits A' (memL R) ρc w') (ha : ∀ b, A' b → w.heap.size ≤ b ∨ Alien A m ρ w b) {r : AV} {v : Value} (hr : Rep A' (memL R) ρc w' r v) :
    ∃ ρ', Ext m ρ w (updM m none n0 (R.map (shiftB n0))) ρ' w' ∧ Fits A (updM m none n0 (R.map (shiftB n0))) ρ' w' ∧ Rep A (updM m none n0 (R.map (shiftB n0))) ρ' w' (shiftV n0 r) v ∧ ∀ b, Alien A' (memL R) ρc w' b → Alien A (updM m none n0 (R.map (shiftB n0))) ρ' w' b := by
  have hw : ∀ b, b < w.heap.size → w'.heap[b]? = w.heap[b]? := fun b hb => hE.frame b hb (fun id hid => absurd (by simp [memL]) hid)
  have hfresh : ∀ id, id < R.length → w.heap.size ≤ ρc id := fun id hid => by
    rcases hE.ids id (by simp [memL, hid]) with ⟨h, _⟩ | h
    · exact absurd (by simp [memL]) h
    · exact h
  have hu : ∀ id, updM m none n0 (R.map (shiftB n0)) id = if n0 ≤ id ∧ id < n0 + R.length then (R[id - n0]?).map (shiftB n0) else m id := fun id => by
    simp only [updM]
    by_cases h1 : n0 ≤ id
    · by_cases h2 : id < n0 + R.length
      · have h3 : id - n0 < R.length := by omega
        simp [h1, h2, h3]
      · have h3 : R.length ≤ id - n0 := by omega
        simp [h1, h2, h3]
    · simp [h1]
  let ρ' : Nat → Nat := fun id => if n0 ≤ id ∧ id < n0 + R.length then ρc (id - n0) else ρ id
  have he : Ext m ρ w (updM m none n0 (R.map (shiftB n0))) ρ' w' := by
    refine ⟨hE.os, hE.tape, hE.output, hE.size, fun b hb _ => hw b hb, fun id hid => ?_, fun id b hb => ?_⟩
    · by_cases h : n0 ≤ id ∧ id < n0 + R.length
      · right
        simp only [ρ', if_pos h]
        exact hfresh _ (by omega)
      · left
        rw [hu, if_neg h] at hid
        exact ⟨hid, by simp only [ρ', if_neg h]⟩
    · have h : ¬ (n0 ≤ id ∧ id < n0 + R.length) := fun ⟨h1, h2⟩ => by
        have := hn (id - n0) (by omega)
        rw [show n0 + (id - n0) = id by omega, hb] at this
        cases this
      have hlt : ρ id < w.heap.size := hF.lt (by rw [hb]; simp)
      exact ⟨b, by rw [hu, if_neg h, hb], .refl b, fun _ => ⟨by simp only [ρ', if_neg h], fun vs t hv => ⟨vs, t, by rw [hw _ hlt]; exact hv, rfl⟩⟩⟩
  have hm2 : ∀ id b, R[id]? = some b → updM m none n0 (R.map (shiftB n0)) (id + n0) = some (shiftB n0 b) := fun id b hb => by
    have := (List.getElem?_eq_some_iff.1 hb).1
    rw [hu, if_pos (by omega), show id + n0 - n0 = id by omega, hb]; rfl
  have hr2 : ∀ id, id < R.length → ρ' (id + n0) = ρc id := fun id hid => by
    simp only [ρ']
    rw [if_pos (by omega), show id + n0 - n0 = id by omega]
  have hae : ∀ b, Alien A' (memL R) ρc w' b → Alien A (updM m none n0 (R.map (shiftB n0))) ρ' w' b := fun b hb => by
    have hor := ha b hb.1
    refine ⟨?_, hb.2.1, fun id hid => ?_⟩
    · rcases hor with h | h
      · exact hup b h
      · exact h.1
    · by_cases h : n0 ≤ id ∧ id < n0 + R.length
      · simp only [ρ', if_pos h]
        exact hb.2.2 (id - n0) (by simp [memL]; omega)
      · simp only [ρ', if_neg h]
        rw [hu, if_neg h] at hid
        rcases hor with h2 | h2
        · have := hF.lt hid; omega
        · exact h2.2.2 id hid
  refine ⟨ρ', he, ⟨fun i j hi hj hij => ?_, fun id b hb => ?_⟩, hr.shift hm2 hr2 hae, hae⟩
  · by_cases h1 : n0 ≤ i ∧ i < n0 + R.length
    · by_cases h2 : n0 ≤ j ∧ j < n0 + R.length
      · simp only [ρ', if_pos h1, if_pos h2] at hij
        have := hR.inj (i - n0) (j - n0) (by simp [memL]; omega) (by simp [memL]; omega) hij
        omega
      · simp only [ρ', if_pos h1, if_neg h2] at hij
        rw [hu, if_neg h2] at hj
        have h3 := hF.lt hj
        have h4 := hfresh (i - n0) (by omega)
        omega
    · rw [hu, if_neg h1] at hi
      by_cases h2 : n0 ≤ j ∧ j < n0 + R.length
      · simp only [ρ', if_neg h1, if_pos h2] at hij
        have h3 := hF.lt hi
        have h4 := hfresh (j - n0) (by omega)
        omega
      · rw [hu, if_neg h2] at hj
        simp only [ρ', if_neg h1, if_neg h2] at hij
        exact hF.inj i j hi hj hij
  · rw [hu] at hb
    by_cases h : n0 ≤ id ∧ id < n0 + R.length
    · rw [if_pos h] at hb
      obtain ⟨b', h1, rfl⟩ := Option.map_eq_some_iff.1 hb
      simp only [ρ', if_pos h]
      exact (hR.at_ _ b' h1).shift hm2 hr2 hae
    · rw [if_neg h] at hb
      simp only [ρ', if_neg h]
      exact (hF.at_ id b hb).mono he (hw _ (hF.lt (by rw [hb]; simp)))
end
section
open Go.RowKit

/-- What is told of an operation beside the text: nothing, its value, the element that is met, an index, what a call gives. -/
inductive Sup where
  | d
  | v (x : AV)
  | e (x : AV)
  | i (n : Nat)
  | c (r : AV) (R : List Blk)
  | f (fr : Bool) (r : AV)
  | r (l : List AV)
  | er (x : AV) (l : List AV)
  | x (r : AV)
  | m (r : AV) (M : List Blk)
  | iv (f : FuncId) (fr : Bool) (r : AV)
  | l (is : List Nat) (r : AV) (R : List Blk)
  | g (r : AV) (R : List Blk)
  | n (d : Nat) (s : Sup)

structure ORes where
  v : AV
  wr : Option (Nat × Blk)
  ns : List Blk
  ob : List Prop

def AllP : List Prop → Prop
  | [] => True
  | p :: l => p ∧ AllP l

theorem AllP.append : ∀ {l l' : List Prop}, AllP (l ++ l') → AllP l ∧ AllP l'
  | [], _, h => ⟨trivial, h⟩
  | _ :: _, _, h => ⟨⟨h.1, (AllP.append h.2).1⟩, (AllP.append h.2).2⟩

def av1 : Value → AV
  | .bool b => .bool b
  | .int k n => .int k n
  | .string s => .str s
  | .pointer none => .nilptr
  | .slice none 0 0 => .nilslice
  | .nilFunc => .nilfunc
  | .nilIface => .niliface
  | .map none => .nilmap
  | _ => .any
def avOf : Value → AV
  | .agg cs => .agg (cs.toList.map av1)
  | .tuple cs => .tuple (cs.toList.map av1)
  | v => av1 v

/-- A value that is known exactly is what it is known as. -/
def unpin : AV → AV
  | .pin x _ => x
  | x => x
def opd (τ : Nat → AV) : Operand → AV
  | .tmp t => unpin (τ t)
  | .const v => avOf v
  | .global _ => .any
  | .func f => .func (.func f) [] []

def isAggT : TypeDesc → Bool
  | .struct _ | .array _ _ => true
  | _ => false

def takeAt (cs : List AV) (off n : Nat) : Option (List AV) := if Nat.ble (off + n) cs.length then some ((cs.drop off).take n) else none

def partAV (P : Program) (t : TypeId) (cs : List AV) (off : Nat) : Option AV :=
  match P.info? t, P.underlying t with
  | some i, some d => if isAggT d then (takeAt cs off i.size).map .agg else cs[off]?
  | _, _ => none

section
variable {A : Nat → Prop} {m : Mem} {ρ : Nat → Nat} {w : World}

theorem av1_ri (w : World) (B : Nat → Prop) (v : Value) : RI w B (av1 v) v := by
  unfold av1
  split <;> constructor

theorem avOf_ri (w : World) (B : Nat → Prop) (v : Value) : RI w B (avOf v) v := by
  unfold avOf
  split
  · refine .agg _ _ (by simp) fun i c hc => ?_
    simp only [List.getElem?_map] at hc
    obtain ⟨x, h1, rfl⟩ := Option.map_eq_some_iff.1 hc
    rename_i cs
    have : cs.getD i undef = x := by
      rw [Array.getD_eq_getD_getElem?, ← Array.getElem?_toList, h1]; rfl
    rw [this]; exact av1_ri w B x
  · refine .tuple _ _ (by simp) fun i c hc => ?_
    simp only [List.getElem?_map] at hc
    obtain ⟨x, h1, rfl⟩ := Option.map_eq_some_iff.1 hc
    rename_i cs
    have : cs.getD i undef = x := by
      rw [Array.getD_eq_getD_getElem?, ← Array.getElem?_toList, h1]; rfl
    rw [this]; exact av1_ri w B x
  · exact av1_ri w B _

theorem avOf_cells (w : World) (B : Nat → Prop) (v : Value) : v.cells.size = (cellsOf (avOf v)).length ∧ ∀ i c, (cellsOf (avOf v))[i]? = some c → RI w B c (v.cells.getD i undef) := by
  have one : ∀ {x : AV} {v : Value}, cellsOf x = [x] → v.cells = #[v] → RI w B x v → v.cells.size = (cellsOf x).length ∧ ∀ i c, (cellsOf x)[i]? = some c → RI w B c (v.cells.getD i undef) := fun h1 h2 hr => by
    rw [h1, h2]
    refine ⟨rfl, fun i c hc => ?_⟩
    cases i with
    | zero => simp at hc; subst hc; simpa using hr
    | succ i => simp at hc
  have hr := avOf_ri w B v
  have hc : cellsOf (av1 v) = [av1 v] := by unfold av1; split <;> rfl
  have hi := av1_ri w B v
  cases v with
  | agg cs =>
    cases hr with
    | agg cs vs hs h => exact ⟨hs, h⟩
  | _ => first | exact one rfl rfl hr | exact one hc rfl hi

theorem rep_unpin {x : AV} {v : Value} (h : Rep A m ρ w x v) : Rep A m ρ w (unpin x) v := by
  cases x with
  | pin x u =>
    cases h with
    | base h => cases h with | pin _ _ h => exact .base h
  | _ => exact h
theorem rep_opd {τ : Nat → AV} {a : Act} {x : Operand} (h : ∀ t, x = .tmp t → Rep A m ρ w (τ t) (a.eval (.tmp t))) : Rep A m ρ w (opd τ x) (a.eval x) := by
  cases x with
  | tmp t => exact rep_unpin (h t rfl)
  | const v => exact .base (avOf_ri w _ v)
  | global g => exact .base (.any _)
  | func f => exact .base (.func (.func f) [] [] #[] #[] rfl rfl (fun i x h => by simp at h) (fun i x h => by simp at h))

/-! ### What a value of a shape is -/

theorem rep_bool {b : Bool} {v : Value} (h : Rep A m ρ w (.bool b) v) : v = .bool b := by
  cases h with
  | base h => cases h; rfl
theorem rep_int {k : IntKind} {n : Int} {v : Value} (h : Rep A m ρ w (.int k n) v) : v = .int k n := by
  cases h with
  | base h => cases h; rfl
theorem rep_str {s : ByteArray} {v : Value} (h : Rep A m ρ w (.str s) v) : v = .string s := by
  cases h with
  | base h => cases h; rfl
theorem rep_nilptr {v : Value} (h : Rep A m ρ w .nilptr v) : v = .pointer none := by
  cases h with
  | base h => cases h; rfl
theorem rep_nilslice {v : Value} (h : Rep A m ρ w .nilslice v) : v = .slice none 0 0 := by
  cases h with
  | base h => cases h; rfl
theorem rep_nilfunc {v : Value} (h : Rep A m ρ w .nilfunc v) : v = .nilFunc := by
  cases h with
  | base h => cases h; rfl
theorem rep_niliface {v : Value} (h : Rep A m ρ w .niliface v) : v = .nilIface := by
  cases h with
  | base h => cases h; rfl
theorem rep_nilmap {v : Value} (h : Rep A m ρ w .nilmap v) : v = .map none := by
  cases h with
  | base h => cases h; rfl
theorem rep_ptr {id off : Nat} {v : Value} (h : Rep A m ρ w (.ptr id off) v) : v = .pointer (some ⟨ρ id, off, none⟩) ∧ ∃ cs, m id = some (.cells cs) := by
  cases h with
  | base h => cases h
  | ptr id off cs h => exact ⟨rfl, cs, h⟩
theorem rep_ptrR {id ver i off k : Nat} {es : List AV} {v : Value} (h : Rep A m ρ w (.ptrR id ver i off) v) (hm : m id = some (.row k es ver)) : v = .pointer (some ⟨ρ id, i * k + off, none⟩) ∧ i < es.length := by
  cases h with
  | base h => cases h
  | ptrR id ver i off k' es' ver' a h hle hv =>
    rw [hm] at h; cases h
    obtain ⟨h1, rfl⟩ := hv rfl
    exact ⟨rfl, h1⟩
theorem rep_map {id : Nat} {v : Value} (h : Rep A m ρ w (.map id) v) : v = .map (some (ρ id)) ∧ ∃ es, m id = some (.mp es) := by
  cases h with
  | base h => cases h
  | map id es h => exact ⟨rfl, es, h⟩
theorem rep_agg {cs : List AV} {v : Value} (h : Rep A m ρ w (.agg cs) v) : ∃ vs, v = .agg vs ∧ vs.size = cs.length ∧ ∀ i c, cs[i]? = some c → Rep A m ρ w c (vs.getD i undef) := by
  cases h with
  | base h => cases h with
    | agg cs vs hs h => exact ⟨vs, rfl, hs, fun i c hc => .base (h i c hc)⟩
  | agg cs vs hs h => exact ⟨vs, rfl, hs, h⟩
theorem rep_tuple {cs : List AV} {v : Value} (h : Rep A m ρ w (.tuple cs) v) : ∃ vs, v = .tuple vs ∧ vs.size = cs.length ∧ ∀ i c, cs[i]? = some c → Rep A m ρ w c (vs.getD i undef) := by
  cases h with
  | base h => cases h with
    | tuple cs vs hs h => exact ⟨vs, rfl, hs, fun i c hc => .base (h i c hc)⟩
  | tuple cs vs hs h => exact ⟨vs, rfl, hs, h⟩
theorem rep_func {f : Fn} {p c : List AV} {v : Value} (h : Rep A m ρ w (.func f p c) v) : ∃ ps cs, v = .func f ps cs ∧ ps.size = p.length ∧ cs.size = c.length ∧ (∀ i x, p[i]? = some x → Rep A m ρ w x (ps.getD i undef)) ∧ ∀ i x, c[i]? = some x → Rep A m ρ w x (cs.getD i undef) := by
  cases h with
  | base h => cases h with
    | func f p c ps cs hp hc h k => exact ⟨ps, cs, rfl, hp, hc, fun i x hx => .base (h i x hx), fun i x hx => .base (k i x hx)⟩
  | func f p c ps cs hp hc h k => exact ⟨ps, cs, rfl, hp, hc, h, k⟩
theorem rep_iface {t : TypeId} {x : AV} {v : Value} (h : Rep A m ρ w (.iface t x) v) : ∃ u, v = .iface t u ∧ Rep A m ρ w x u := by
  cases h with
  | base h => cases h with
    | iface t x u h => exact ⟨u, rfl, .base h⟩
  | iface t x u h => exact ⟨u, rfl, h⟩
theorem rep_list {l : List AV} {v : Value} (h : Rep A m ρ w (.list l) v) : ∃ a cap, v = .slice a l.length cap ∧ (a = none → cap = 0) := by
  cases h with
  | base h => cases h with
    | lnil a cap h => exact ⟨a, cap, rfl, h⟩
    | list l b o cap k x hc hB hk hx hr => exact ⟨_, cap, rfl, fun h => by cases h⟩
theorem rep_list_at {l : List AV} {v : Value} (h : Rep A m ρ w (.list l) v) (hl : l ≠ []) : ∃ (b o cap k : Nat) (x : Nat → Nat → Value), v = .slice (some ⟨b, o, none⟩) l.length cap ∧ Alien A m ρ w b ∧ (∀ e ∈ l, (cellsOf e).length = k) ∧
    (∀ i e j c, l[i]? = some e → (cellsOf e)[j]? = some c → w.cell? ⟨b, o + i * k + j, none⟩ = some (x i j)) ∧ (∀ i e j c, l[i]? = some e → (cellsOf e)[j]? = some c → RI w (Alien A m ρ w) c (x i j)) := by
  cases h with
  | base h => cases h with
    | lnil => exact absurd rfl hl
    | list l b o cap k x hc hB hk hx hr => exact ⟨b, o, cap, k, x, rfl, hB hl, hk, hx, hr⟩
theorem rep_ptrIn {e : AV} {off : Nat} {v : Value} (h : Rep A m ρ w (.ptrIn e off) v) : ∃ (b o : Nat) (x : Nat → Value), v = .pointer (some ⟨b, o + off, none⟩) ∧ Alien A m ρ w b ∧ (∀ j c, (cellsOf e)[j]? = some c → w.cell? ⟨b, o + j, none⟩ = some (x j)) ∧ ∀ j c, (cellsOf e)[j]? = some c → RI w (Alien A m ρ w) c (x j) := by
  cases h with
  | base h => cases h with
    | ptrIn e off b o x hB hx hr => exact ⟨b, o, x, rfl, hB, hx, hr⟩
theorem rep_slice {id lo len ver k : Nat} {es : List AV} {v : Value} (h : Rep A m ρ w (.slice id lo len ver) v) (hm : m id = some (.row k es ver)) :
    lo + len ≤ es.length ∧ ∃ o c vs t, v = .slice (some ⟨ρ id, o, none⟩) len c ∧ (0 < c → o = lo * k) ∧ len ≤ c ∧ w.heap[ρ id]? = some (.cells vs t (0, 0)) ∧ (lo + c) * k ≤ vs.size := by
  cases h with
  | base h => cases h
  | slice id lo len ver k' es' ver' a n c h hle hv =>
    rw [hm] at h; cases h
    obtain ⟨h1, rfl, o, vs, t, rfl, h2, h3, h4, h5⟩ := hv rfl
    exact ⟨h1, o, c, vs, t, rfl, h2, h3, h4, h5⟩

theorem rep_cell1 {x : AV} {v : Value} (h : Rep A m ρ w x v) (hx : isCell x = true) : v.cells = #[v] ∧ cellsOf x = [x] := by
  have h1 := h.oneC hx
  refine ⟨?_, ?_⟩
  · cases v <;> first | rfl | cases h1
  · cases x <;> first | rfl | cases hx

/-! ### Runs -/

theorem info_underlying {P : Program} {t : TypeId} {d : TypeDesc} (h : P.underlying t = some d) : ∃ i, P.info? t = some i := by
  unfold Program.underlying at h
  cases hi : P.info? t with
  | none => rw [hi] at h; cases h
  | some i => exact ⟨i, rfl⟩

theorem run_typeInfo {P : Program} {t : TypeId} {i : TypeInfo} (h : P.info? t = some i) (w : World) : (typeInfo t).run P w = .ok i w := by simp [typeInfo, h]
theorem run_sizeOf {P : Program} {t : TypeId} {i : TypeInfo} (h : P.info? t = some i) (w : World) : (sizeOf t).run P w = .ok i.size w := by simp [sizeOf, typeInfo, h]
theorem run_isAgg {P : Program} {t : TypeId} {d : TypeDesc} (h : P.underlying t = some d) (w : World) : (isAgg t).run P w = .ok (isAggT d) w := by
  simp only [isAgg, Sem.run_bind, run_underlying h, Result.andThen_ok]
  cases d <;> rfl

theorem addr_add (b o n : Nat) : Addr.add ⟨b, o, none⟩ n = ⟨b, o + n, none⟩ := by
  unfold Addr.add; split
  · subst_vars; rfl
  · rfl

theorem cell_of_cells {w : World} {b : Nat} {vs : Array Value} {t : TypeId} {f : Nat × Nat} (h : w.heap[b]? = some (.cells vs t f)) (i : Nat) : w.cell? ⟨b, i, none⟩ = vs[i]? := by simp [World.cell?, h]
theorem frozen_of_cells {w : World} {b : Nat} {vs : Array Value} {t : TypeId} (h : w.heap[b]? = some (.cells vs t (0, 0))) (i : Nat) : w.frozen? ⟨b, i, none⟩ = false := by simp [World.frozen?, h]

/-- A variable is read. -/
theorem run_loadVar {P : Program} {t : TypeId} {i : TypeInfo} {d : TypeDesc} (hi : P.info? t = some i) (hd : P.underlying t = some d) {b o off : Nat} {cs : List AV} {x : Nat → Value} {r : AV}
    (hr : (if isAggT d then (takeAt cs off i.size).map .agg else cs[off]?) = some r) (hx : ∀ j c, cs[j]? = some c → w.cell? ⟨b, o + j, none⟩ = some (x j)) (hc : ∀ j c, cs[j]? = some c → Rep A m ρ w c (x j)) :
    ∃ v, (loadVar t ⟨b, o + off, none⟩).run P w = .ok v w ∧ Rep A m ρ w r v := by
  simp only [loadVar, Sem.run_bind, run_isAgg hd, Result.andThen_ok]
  cases hg : isAggT d with
  | true =>
    rw [hg, if_pos rfl] at hr
    obtain ⟨l, h1, rfl⟩ := Option.map_eq_some_iff.1 hr
    unfold takeAt at h1
    split at h1
    · rename_i hle
      have hle := Nat.le_of_ble_eq_true hle
      obtain rfl := Option.some.inj h1
      simp only [if_true, Sem.run_bind, run_sizeOf hi, Result.andThen_ok]
      rw [run_loadCells w ⟨b, o + off, none⟩ i.size (fun j => x (off + j)) (fun j hj => by
        rw [addr_add]
        have h2 : off + j < cs.length := by omega
        have := hx (off + j) cs[off + j] (by simp [h2])
        rw [Nat.add_assoc]; exact this)]
      refine ⟨_, rfl, .agg _ _ (by simp; omega) fun j c hj => ?_⟩
      have hj2 : j < i.size := by
        rcases Nat.lt_or_ge j i.size with h | h
        · exact h
        · rw [List.getElem?_eq_none (by simp; omega)] at hj; cases hj
      rw [List.getElem?_take, if_pos hj2, List.getElem?_drop] at hj
      simpa [hj2] using hc (off + j) c hj
    · cases h1
  | false =>
    rw [hg, if_neg (by decide)] at hr
    simp only [Bool.false_eq_true, if_false, run_load, hx off r hr]
    exact ⟨_, rfl, hc off r hr⟩

theorem run_part {P : Program} {t : TypeId} {cs : List AV} {off : Nat} {r : AV} {vs : Array Value} (hr : partAV P t cs off = some r) (hs : vs.size = cs.length) (hc : ∀ j c, cs[j]? = some c → Rep A m ρ w c (vs.getD j undef)) :
    ∃ v, (part t vs off).run P w = .ok v w ∧ Rep A m ρ w r v := by
  unfold partAV at hr
  split at hr
  · rename_i i d hi hd
    simp only [part, Sem.run_bind, run_isAgg hd, Result.andThen_ok]
    cases hg : isAggT d with
    | true =>
      rw [hg, if_pos rfl] at hr
      obtain ⟨l, h1, rfl⟩ := Option.map_eq_some_iff.1 hr
      unfold takeAt at h1
      split at h1
      · rename_i hle
        have hle := Nat.le_of_ble_eq_true hle
        obtain rfl := Option.some.inj h1
        simp only [if_true, Sem.run_bind, run_sizeOf hi, Result.andThen_ok, Sem.run_pure]
        refine ⟨_, rfl, .agg _ _ (by simp; omega) fun j c hj => ?_⟩
        have hj2 : j < i.size := by
          rcases Nat.lt_or_ge j i.size with h | h
          · exact h
          · rw [List.getElem?_eq_none (by simp; omega)] at hj; cases hj
        rw [List.getElem?_take, if_pos hj2, List.getElem?_drop] at hj
        have h3 := hc (off + j) c hj
        have h4 : off + j < vs.size := by omega
        rw [Array.getD_eq_getD_getElem?] at h3 ⊢
        rw [Array.getElem?_extract, if_pos (by omega)]
        exact h3
      · cases h1
    | false =>
      rw [hg, if_neg (by decide)] at hr
      simp only [Bool.false_eq_true, if_false]
      have h4 : off < cs.length := (List.getElem?_eq_some_iff.1 hr).1
      have h5 : vs[off]? = some vs[off] := by simp [show off < vs.size by omega]
      simp only [h5, Sem.run_pure]
      refine ⟨_, rfl, ?_⟩
      have := hc off r hr
      rw [Array.getD_eq_getD_getElem?, h5] at this
      exact this
  · cases hr

end
end
section
open Go.RowKit

/-! ### What each gives -/

def evPick : AV → AV → AV → Option AV
  | .bool c, .bool x, .bool y => some (.bool (bif c then x else y))
  | .bool true, x, _ => some x
  | .bool false, _, y => some y
  | _, _, _ => none

def binI (op : BinOp) (k : IntKind) (x y : Int) : Option (AV × List Prop) :=
  match op with
  | .add => some (.int k (k.wrap (x + y)), [])
  | .sub => some (.int k (k.wrap (x - y)), [])
  | .mul => some (.int k (k.wrap (x * y)), [])
  | .quo => some (.int k (k.wrap (x.tdiv y)), [y ≠ 0])
  | .rem => some (.int k (x.tmod y), [y ≠ 0])
  | .and => some (.int k (bits .and k x y), [])
  | .or => some (.int k (bits .or k x y), [])
  | .xor => some (.int k (bits .xor k x y), [])
  | .andNot => some (.int k (bits .andNot k x y), [])
  | .eql => some (.bool (x == y), [])
  | .neq => some (.bool (x != y), [])
  | .lss => some (.bool (x < y), [])
  | .leq => some (.bool (x ≤ y), [])
  | .gtr => some (.bool (x > y), [])
  | .geq => some (.bool (x ≥ y), [])
  | _ => none

def eqF (P : Program) (eq : TypeId → AV → AV → Option Bool) (xs ys : List AV) : List Field → Option Bool
  | [] => some true
  | f :: fs =>
    if f.name ≠ "_" then
      match partAV P f.type xs f.offset, partAV P f.type ys f.offset with
      | some x, some y => match eq f.type x y, eqF P eq xs ys fs with
        | some a, some b => some (a && b)
        | _, _ => none
      | _, _ => none
    else eqF P eq xs ys fs

def eqAV (P : Program) : Nat → TypeId → AV → AV → Option Bool
  | 0, _, _, _ => none
  | d + 1, t, x, y =>
    match P.underlying t, x, y with
    | some .bool, .bool a, .bool b => some (a == b)
    | some (.int _), .int k a, .int k' b => if k = k' then some (a == b) else none
    | some .string, .str a, .str b => some (a == b)
    | some (.struct fs), .agg xs, .agg ys => if P.stoodInHeld t then none else eqF P (eqAV P d) xs ys fs.toList
    | some (.pointer _), .nilptr, .nilptr => some true
    | some (.pointer _), .nilptr, .ptr _ _ => some false
    | some (.pointer _), .ptr _ _, .nilptr => some false
    | some (.slice _), .nilslice, .nilslice => some true
    | some (.slice _), .list (_ :: _), .nilslice => some false
    | some (.map _ _), .nilmap, .nilmap => some true
    | some (.interface _), .niliface, .iface _ _ => some false
    | some (.interface _), .iface _ _, .niliface => some false
    | some (.interface _), .iface tx vx, .iface ty vy => if tx = ty then match P.info? tx with
      | some i => if i.comparable then eqAV P d tx vx vy else none
      | none => none else some false
    | some (.func _ _ _), .nilfunc, .nilfunc => some true
    | some (.func _ _ _), .func _ _ _, .nilfunc => some false
    | _, _, _ => none

def evEq (P : Program) (t : TypeId) (a b : AV) : Option Bool :=
  match a, b with
  | .agg xs, .agg ys => if P.eqGuardType P.depth t then none else eqAV P 20 t (.agg xs) (.agg ys)
  | .bool x, .bool y => eqAV P 20 t (.bool x) (.bool y)
  | .nilptr, .nilptr => eqAV P 20 t .nilptr .nilptr
  | .nilptr, .ptr i j => eqAV P 20 t .nilptr (.ptr i j)
  | .ptr i j, .nilptr => eqAV P 20 t (.ptr i j) .nilptr
  | .nilslice, .nilslice => eqAV P 20 t .nilslice .nilslice
  | .list (x :: l), .nilslice => eqAV P 20 t (.list (x :: l)) .nilslice
  | .nilmap, .nilmap => eqAV P 20 t .nilmap .nilmap
  | .nilfunc, .nilfunc => eqAV P 20 t .nilfunc .nilfunc
  | .func f p c, .nilfunc => eqAV P 20 t (.func f p c) .nilfunc
  | .str x, .str y => some (x == y)
  | .niliface, .iface u v => eqAV P 20 t .niliface (.iface u v)
  | .iface u v, .niliface => eqAV P 20 t (.iface u v) .niliface
  | .iface u v, .iface u' v' => eqAV P 20 t (.iface u v) (.iface u' v')
  | _, _ => none

def isConst : Operand → Bool
  | .const _ => true
  | _ => false

def evBin (P : Program) (op : BinOp) (t : TypeId) (k : Bool) (a b : AV) : Option (AV × List Prop) :=
  match op, a, b with
  | .eql, .niliface, .niliface => if k then match P.underlying t with
    | some (.interface _) => some (.bool true, [])
    | _ => none else none
  | .neq, .niliface, .niliface => if k then match P.underlying t with
    | some (.interface _) => some (.bool false, [])
    | _ => none else none
  | .shl, .int k x, .int _ y => some (.int k (k.wrap (x * 2 ^ (min y.toNat k.bits))), [0 ≤ y])
  | .shr, .int k x, .int _ y => some (.int k (x.fdiv (2 ^ (min y.toNat k.bits))), [0 ≤ y])
  | op, .int k x, .int k' y => if k = k' then binI op k x y else none
  | .eql, a, b => (evEq P t a b).map fun c => (.bool c, [])
  | .neq, a, b => (evEq P t a b).map fun c => (.bool (!c), [])
  | _, _, _ => none

def evUn (op : UnOp) (x : AV) : Option AV :=
  match op, x with
  | .not, .bool b => some (.bool (!b))
  | .neg, .int k n => some (.int k (k.wrap (0 - n)))
  | .xor, .int k n => some (.int k (bits .xor k (if k.signed then -1 else k.max) n))
  | _, _ => none

def evConv (P : Program) (src dst : TypeId) (x : AV) : Option AV :=
  match P.underlying src, P.underlying dst, x with
  | some _, some (.int k), .int _ n => some (.int k (k.wrap n))
  | _, _, _ => none

def boxable : AV → Bool
  | .any | .tuple _ | .val _ | .pin _ _ => false
  | _ => true

def zeroAV (P : Program) (t : TypeId) : Option AV := ((P.info? t).bind (·.zero)).map avOf

def splice (cs : List AV) (off : Nat) (l : List AV) : List AV := cs.take off ++ l ++ cs.drop (off + l.length)

def fillAV (place : Nat → Option (Nat × Nat)) (cs : List AV) : List (Nat × AV) → Option (List AV)
  | [] => some cs
  | (i, v) :: rest =>
    match place i with
    | none => none
    | some (off, size) =>
      if boxable v && Nat.beq (cellsOf v).length size && Nat.ble (off + (cellsOf v).length) cs.length then fillAV place (splice cs off (cellsOf v)) rest else none

def placesOf (P : Program) : List Field → Option (List (Nat × Nat))
  | [] => some []
  | f :: fs => match P.info? f.type, placesOf P fs with
    | some i, some r => some ((f.offset, i.size) :: r)
    | _, _ => none

def evBuild (P : Program) (t : TypeId) (parts : List (Nat × AV)) : Option AV :=
  match zeroAV P t, P.underlying t with
  | some z, some (.struct fs) => match placesOf P fs.toList with
    | some pl => (fillAV (fun i => pl[i]?) (cellsOf z) parts).map .agg
    | none => none
  | some z, some (.array _ e) => match P.info? e with
    | some i => (fillAV (fun j => some (j * i.size, i.size)) (cellsOf z) parts).map .agg
    | none => none
  | _, _ => none

def evBuildSlice (P : Program) (t : TypeId) (len : Nat) (parts : List (Nat × AV)) : Option (List AV × Nat) :=
  match P.underlying t with
  | some (.slice e) => match P.info? e, zeroAV P e with
    | some i, some z =>
      if Nat.ble (len * i.size) 16777216 && Nat.ble 1 i.size && parts.all (fun p => boxable p.2 && Nat.beq (cellsOf p.2).length i.size && Nat.blt p.1 len) && Nat.beq (cellsOf z).length i.size then
        some (parts.foldl (fun es p => es.set p.1 p.2) (List.replicate len z), i.size)
      else none
    | _, _ => none
  | _ => none

def elemAt (es : List AV) (ix : Nat) : Sup → Option (AV × List Prop)
  | .e e => some (e, [es[ix]? = some e])
  | .er e _ => some (e, [es[ix]? = some e])
  | _ => (es[ix]?).map fun e => (e, [])

def evLoad (P : Program) (t : TypeId) (p : AV) (look : Mem) (s : Sup) : Option (AV × List Prop) :=
  match P.info? t, P.underlying t with
  | some i, some d =>
    match p with
    | .ptr id off => match look id with
      | some (.cells cs) => (if isAggT d then (takeAt cs off i.size).map .agg else cs[off]?).map fun v => (v, [])
      | _ => none
    | .ptrR id ver ix off => match look id with
      | some (.row _ es ver') => if Nat.beq ver ver' then match elemAt es ix s with
        | some (e, ob) => (if isAggT d then (takeAt (cellsOf e) off i.size).map .agg else (cellsOf e)[off]?).map fun v => (v, ob)
        | none => none else none
      | _ => none
    | .ptrIn e off => (if isAggT d then (takeAt (cellsOf e) off i.size).map .agg else (cellsOf e)[off]?).map fun v => (v, [])
    | _ => none
  | _, _ => none

def reElem (e : AV) (off : Nat) (y : AV) : AV := match e with
  | .agg cs => .agg (splice cs off (cellsOf y))
  | e => (splice [e] off (cellsOf y)).headD e

def evStore (P : Program) (t : TypeId) (p y : AV) (look : Mem) (s : Sup) : Option (Nat × Blk × List Prop) :=
  match P.info? t with
  | some i =>
    if (cellsOf y).all isCell && Nat.beq (cellsOf y).length i.size then
      match p with
      | .ptr id off => match look id with
        | some (.cells cs) => if Nat.ble (off + (cellsOf y).length) cs.length then some (id, .cells (splice cs off (cellsOf y)), []) else none
        | _ => none
      | .ptrR id ver ix off => match look id with
        | some (.row k es ver') => if Nat.beq ver ver' then match elemAt es ix s with
          | some (e, ob) => if Nat.ble (off + (cellsOf y).length) (cellsOf e).length then some (id, .row k (es.set ix (reElem e off y)) ver', ob) else none
          | none => none else none
        | _ => none
      | _ => none
    else none
  | none => none

def cur (look : Mem) (id ver : Nat) : Bool := match look id with
  | some (.row _ _ ver') => Nat.beq ver ver'
  | _ => false

def evFieldAddr (P : Program) (t : TypeId) (p : AV) (f : Nat) (look : Mem) : Option AV :=
  match P.underlying t with
  | some (.struct fs) => match fs[f]? with
    | some fd => match P.info? fd.type with
      | some i => if Nat.beq i.size 0 then none else match p with
        | .ptr id off => some (.ptr id (off + fd.offset))
        | .ptrR id ver ix off => if cur look id ver then some (.ptrR id ver ix (off + fd.offset)) else none
        | .ptrIn e off => some (.ptrIn e (off + fd.offset))
        | _ => none
      | none => none
    | none => none
  | _ => none

def evField (P : Program) (t : TypeId) (x : AV) (f : Nat) : Option AV :=
  match P.underlying t, x with
  | some (.struct fs), .agg cs => match fs[f]? with
    | some fd => partAV P fd.type cs fd.offset
    | none => none
  | _, _ => none

def idxOf (i : Int) (n : Nat) : Sup → Nat × List Prop
  | .i j => (j, [i = (j : Int), j < n])
  | _ => (i.toNat, [0 ≤ i ∧ i < n])

def evIndexAddr (P : Program) (t : TypeId) (x ix : AV) (look : Mem) (s : Sup) : Option (AV × List Prop) :=
  match ix, P.underlying t with
  | .int _ i, some (.array n e) => match P.info? e with
    | some ei => match x with
      | .ptr id off => some (.ptr id (off + (idxOf i n s).1 * ei.size), (idxOf i n s).2)
      | .ptrR id ver j off => if cur look id ver then some (.ptrR id ver j (off + (idxOf i n s).1 * ei.size), (idxOf i n s).2) else none
      | .ptrIn v off => some (.ptrIn v (off + (idxOf i n s).1 * ei.size), (idxOf i n s).2)
      | _ => none
    | none => none
  | .int _ i, some (.slice e) => match P.info? e with
    | some ei => match x with
      | .list l => match elemAt l i.toNat s with
        | some (v, ob) => if Nat.beq (cellsOf v).length ei.size then some (.ptrIn v 0, (0 ≤ i) :: ob) else none
        | none => none
      | .slice id lo len ver => match look id with
        | some (.row k es ver') => if Nat.beq ver ver' && Nat.beq k ei.size then some (.ptrR id ver (lo + i.toNat) 0, [0 ≤ i ∧ i < len]) else none
        | _ => none
      | _ => none
    | none => none
  | _, _ => none

def evIndex (P : Program) (t : TypeId) (x ix : AV) (s : Sup) : Option (AV × List Prop) :=
  match ix, P.underlying t, x with
  | .int _ i, some (.array n e), .agg cs => match P.info? e with
    | some ei => (partAV P e cs ((idxOf i n s).1 * ei.size)).map fun v => (v, (idxOf i n s).2)
    | none => none
  | .int _ i, some .string, .str b => match s with
    | .v (.int k n) => some (.int .u8 n, [0 ≤ i ∧ b[i.toNat]?.map (fun u => (u.toNat : Int)) = some n])
    | _ => none
  | _, _, _ => none

def boundOf (d : Int) : Option AV → Option Int
  | none => some d
  | some (.int _ n) => some n
  | _ => none

def evSlice (P : Program) (t : TypeId) (x : AV) (lo hi mx : Option AV) (look : Mem) : Option (AV × List Prop) :=
  match P.underlying t, mx with
  | some (.slice e), none => match x with
    | .list l => match P.info? e, boundOf 0 lo, boundOf l.length hi with
      | some ei, some a, some b => some (.list ((l.take b.toNat).drop a.toNat), [0 ≤ a ∧ a ≤ b ∧ b ≤ l.length, ∀ x ∈ l, (cellsOf x).length = ei.size])
      | _, _, _ => none
    | .slice id l0 len ver => match look id with
      | some (.row k es ver') => match P.info? e, boundOf 0 lo, boundOf len hi with
        | some ei, some a, some b => if Nat.beq ver ver' && Nat.beq k ei.size then some (.slice id (l0 + a.toNat) (b.toNat - a.toNat) ver, [0 ≤ a ∧ a ≤ b ∧ b ≤ len]) else none
        | _, _, _ => none
      | _ => none
    | .nilslice => match P.info? e, boundOf 0 lo, boundOf 0 hi with
      | some ei, some a, some b => some (.nilslice, [a = 0 ∧ b = 0])
      | _, _, _ => none
    | _ => none
  | _, _ => none

def evLen (P : Program) (t : TypeId) (x : AV) (look : Mem) : Option AV :=
  match P.underlying t, x with
  | some (.slice _), .list l => some (.int .i64 l.length)
  | some (.slice _), .slice id _ len ver => match look id with
    | some (.row _ _ ver') => if Nat.beq ver ver' then some (.int .i64 len) else none
    | _ => none
  | some (.slice _), .nilslice => some (.int .i64 0)
  | some (.array n _), _ => some (.int .i64 n)
  | some .string, .str s => some (.int .i64 s.size)
  | some (.map _ _), .map id => match look id with
    | some (.mp es) => some (.int .i64 es.length)
    | _ => none
  | some (.map _ _), .nilmap => some (.int .i64 0)
  | _, _ => none

/-- The value of a key in a map, and a map with a value for a key. -/
def mpGet : List AV → Int → Option AV
  | .agg [.int _ k', v] :: es, k => if k' = k then some v else mpGet es k
  | _ :: es, k => mpGet es k
  | [], _ => none
def mpPut : List AV → Int → AV → List AV
  | .agg [.int q k', v] :: es, k, x => if k' = k then .agg [.int q k', x] :: es else .agg [.int q k', v] :: mpPut es k x
  | e :: es, k, x => e :: mpPut es k x
  | [], k, x => [.agg [.int .i64 k, x]]
def intKey (P : Program) (t : TypeId) : Option TypeId := match P.underlying t with
  | some (.map k e) => match P.underlying k with
    | some (.int .i64) => some e
    | _ => none
  | _ => none
def evMapSet (P : Program) (t : TypeId) (mv k x : AV) (look : Mem) : Option (Nat × Blk) := match intKey P t, mv, k with
  | some _, .map id, .int .i64 n => match look id with
    | some (.mp es) => some (id, .mp (mpPut es n x))
    | _ => none
  | _, _, _ => none
/-- What a look-up gives: told that it is there (.e), or that it is not (.i). -/
def mpAt (es : List AV) (n : Int) (z : AV) : Sup → AV × Bool × List Prop
  | .e x => (x, true, [mpGet es n = some x])
  | .i _ => (z, false, [mpGet es n = none])
  | _ => match mpGet es n with
    | some x => (x, true, [])
    | none => (z, false, [])
def evLookup (P : Program) (t : TypeId) (mv k : AV) (ok : Bool) (look : Mem) (s : Sup) : Option (AV × List Prop) := match intKey P t, k with
  | some e, .int .i64 n => match zeroAV P e with
    | some z => match mv with
      | .map id => match look id with
        | some (.mp es) => some (if ok then .tuple [(mpAt es n z s).1, .bool (mpAt es n z s).2.1] else (mpAt es n z s).1, (mpAt es n z s).2.2)
        | _ => none
      | .nilmap => some (if ok then .tuple [z, .bool false] else z, [])
      | _ => none
    | none => none
  | _, _ => none

def evMaxF (mx : Bool) (k : IntKind) : Int → List AV → Option AV
  | x, [] => some (.int k x)
  | x, .int _ y :: r => evMaxF mx k (if mx then max x y else min x y) r
  | _, _ :: _ => none
def evMax (mx : Bool) : List AV → Option AV
  | .int k x :: r => evMaxF mx k x r
  | _ => none

/-- The elements of a slice. -/
def elemsOf (look : Mem) : AV → Option (List AV)
  | .list l => some l
  | .nilslice => some []
  | .slice id lo len ver => match look id with
    | some (.row _ es ver') => if Nat.beq ver ver' then some ((es.drop lo).take len) else none
    | _ => none
  | _ => none

inductive AppR where
  | same (v : AV)
  | old (id : Nat) (b : Blk) (v : AV)
  | new (b : Blk)

def notInt : Option TypeDesc → Bool
  | some (.int _) | none => false
  | _ => true

def evAppend (P : Program) (t t2 : TypeId) (s x : AV) (look : Mem) : Option (AppR × List Prop) :=
  match P.underlying t with
  | some (.slice e) => match P.info? e, zeroAV P e, elemsOf look x with
    | some ei, some z, some ys => if Nat.ble 1 ei.size && Nat.ble 1 ei.bytes && Nat.beq (cellsOf z).length ei.size && notInt (P.underlying t2) then match s with
      | .slice id lo len ver => match look id with
        | some (.row k es ver') => if Nat.beq ver ver' && Nat.beq k ei.size && Nat.beq lo 0 then
            some (.old id (.row k (es.take len ++ ys) (ver + 1)) (.slice id 0 (len + ys.length) (ver + 1)), [(5 * (len + ys.length) + 4096) * ei.bytes ≤ 2 ^ 50, ∀ y ∈ ys, (cellsOf y).length = ei.size ∧ ∀ c ∈ cellsOf y, isCell c = true])
          else none
        | _ => none
      | .nilslice => match ys with
        | [] => some (.same .nilslice, [])
        | y :: r => some (.new (.row ei.size (y :: r) 0), [(5 * (y :: r).length + 4096) * ei.bytes ≤ 2 ^ 50, ∀ u ∈ y :: r, (cellsOf u).length = ei.size ∧ ∀ c ∈ cellsOf u, isCell c = true])
      | _ => none
      else none
    | _, _, _ => none
  | _ => none

def evMakeSlice (P : Program) (t : TypeId) (len cap : AV) : Option (Nat × List AV × Nat × List Prop) :=
  match P.underlying t, len, cap with
  | some (.slice e), .int _ n, .int _ c => match P.info? e, zeroAV P e with
    | some ei, some z => if Nat.ble 1 ei.size && Nat.beq (cellsOf z).length ei.size then
        some (n.toNat, List.replicate n.toNat z, ei.size, [0 ≤ n ∧ n = c ∧ ei.bytes * n ≤ 2 ^ 48 ∧ n < 2 ^ 63]) else none
    | _, _ => none
  | _, _, _ => none

def evIface (P : Program) (t : TypeId) (x : AV) : Option AV := match P.underlying t with
  | some (.interface _) => none
  | some _ => some (.iface t x)
  | none => none

def evAssert (P : Program) (x : AV) (t : TypeId) (ok : Bool) : Option AV := match P.underlying t with
  | some (.interface _) => none
  | some _ => match x with
    | .niliface => if ok then (zeroAV P t).map fun z => .tuple [z, .bool false] else none
    | .iface u v => if u = t then some (if ok then .tuple [v, .bool true] else v) else if ok then (zeroAV P t).map fun z => .tuple [z, .bool false] else none
    | _ => none
  | none => none

def evExtract (x : AV) (i : Nat) : Option AV := match x with
  | .tuple vs => vs[i]?
  | _ => none

def evNilCheck (x : AV) : Option AV := match x with
  | .ptr id off => some (.ptr id off)
  | .ptrIn e off => some (.ptrIn e off)
  | .func (.func f) p c => some (.func (.func f) p c)
  | _ => none

/-- A part of an own row filled with zeros. -/
def evClear (P : Program) (t : TypeId) (x : AV) (look : Mem) : Option (Nat × Blk) := match P.underlying t, x with
  | some (.slice e), .slice id lo len ver => match look id, zeroAV P e with
    | some (.row k es ver'), some z => if Nat.beq ver ver' && Nat.beq (cellsOf z).length k && (cellsOf z).all isCell then some (id, .row k (es.take lo ++ (List.replicate len z ++ es.drop (lo + len))) ver) else none
    | _, _ => none
  | _, _ => none

def evOp (P : Program) (op : Op) (ty : TypeId) (τ : Nat → AV) (look : Mem) (n0 : Nat) (s : Sup) : Option ORes :=
  let p (x : Option AV) : Option ORes := x.map fun v => ⟨v, none, [], []⟩
  let q (x : Option (AV × List Prop)) : Option ORes := x.map fun v => ⟨v.1, none, [], v.2⟩
  match op with
  | .move x | .assign x => p (some (opd τ x))
  | .pick c a b => p (evPick (opd τ c) (opd τ a) (opd τ b))
  | .alloc t => (zeroAV P t).map fun z => ⟨.ptr n0 0, none, [.cells (cellsOf z)], []⟩
  | .box t x => if boxable (opd τ x) then some ⟨.ptr n0 0, none, [.cells (cellsOf (opd τ x))], []⟩ else none
  | .build t parts => p (evBuild P t (parts.toList.map fun y => (y.1, opd τ y.2)))
  | .buildSlice t len parts => (evBuildSlice P t len (parts.toList.map fun y => (y.1, opd τ y.2))).map fun r => ⟨.slice n0 0 len 0, none, [.row r.2 r.1 0], []⟩
  | .load t x => q (evLoad P t (opd τ x) look s)
  | .store t x y => (evStore P t (opd τ x) (opd τ y) look s).map fun r => ⟨.tuple [], some (r.1, r.2.1), [], r.2.2⟩
  | .binOp op t x y _ => q (evBin P op t (isConst x || isConst y) (opd τ x) (opd τ y))
  | .unOp op _ x => p (evUn op (opd τ x))
  | .convert src dst x => p (evConv P src dst (opd τ x))
  | .fieldAddr t x f => p (evFieldAddr P t (opd τ x) f look)
  | .field t x f => p (evField P t (opd τ x) f)
  | .indexAddr t x i => q (evIndexAddr P t (opd τ x) (opd τ i) look s)
  | .index t x i => q (evIndex P t (opd τ x) (opd τ i) s)
  | .slice t x lo hi mx => q (evSlice P t (opd τ x) (lo.map (opd τ)) (hi.map (opd τ)) (mx.map (opd τ)) look)
  | .makeInterface t x => p (evIface P t (opd τ x))
  | .typeAssert x _ t ok => p (evAssert P (opd τ x) t ok)
  | .extract x i => p (evExtract (opd τ x) i)
  | .makeFunc f a c => p (some (.func f (a.toList.map (opd τ)) (c.toList.map (opd τ))))
  | .nilCheck x => p (evNilCheck (opd τ x))
  | .makeMap _ none => some ⟨.map n0, none, [.mp []], []⟩
  | .mapUpdate t x k v => (evMapSet P t (opd τ x) (opd τ k) (opd τ v) look).map fun r => ⟨.tuple [], some r, [], []⟩
  | .insert t x k v => (evMapSet P t (opd τ x) (opd τ k) (opd τ v) look).map fun r => ⟨.tuple [], some r, [], []⟩
  | .lookup t x k ok => q (evLookup P t (opd τ x) (opd τ k) ok look s)
  | .makeSlice t l c => (evMakeSlice P t (opd τ l) (opd τ c)).map fun r => ⟨.slice n0 0 r.1 0, none, [.row r.2.2.1 r.2.1 0], r.2.2.2⟩
  | .call { callee := .builtin b, args, argTypes } =>
    match b, argTypes.toList, args.toList with
    | .len, [t], [x] => p (evLen P t (opd τ x) look)
    | .clear, [t], [x] => (evClear P t (opd τ x) look).map fun r => ⟨.tuple [], some r, [], []⟩
    | .max, _, xs => p (evMax true (xs.map (opd τ)))
    | .min, _, xs => p (evMax false (xs.map (opd τ)))
    | .append, [t, t2], [x, y] => match evAppend P t t2 (opd τ x) (opd τ y) look with
      | some (.same v, ob) => some ⟨v, none, [], ob⟩
      | some (.old id b v, ob) => some ⟨v, some (id, b), [], ob⟩
      | some (.new (.row k es ver), ob) => some ⟨.slice n0 0 es.length 0, none, [.row k es ver], ob⟩
      | _ => none
    | _, _, _ => none
  | _ => none

def reRow (l : List AV) : Option (Nat × Blk) → Option (Nat × Blk)
  | some (id, .row k _ ver) => some (id, .row k l ver)
  | some (id, .mp _) => some (id, .mp l)
  | x => x
def reOb (l : List AV) : Option (Nat × Blk) → Prop
  | some (_, .row _ es _) => es = l
  | some (_, .mp es) => es = l
  | _ => True
def fin (s : Sup) (r : ORes) : ORes := match s with
  | .v x => ⟨x, r.wr, r.ns, (r.v = x) :: r.ob⟩
  | .r l => ⟨r.v, reRow l r.wr, r.ns, reOb l r.wr :: r.ob⟩
  | .er _ l => ⟨r.v, reRow l r.wr, r.ns, reOb l r.wr :: r.ob⟩
  | _ => r

/-! ### That they give this -/

section
variable {P : Program} {A : Nat → Prop} {m : Mem} {ρ : Nat → Nat} {w : World} {a : Act} {o : Oper} {n0 : Nat}

/-- Everything is let in; in a round of the loop over a function whose record lies at l, or in none. -/
def FR (ro : Option Nat) : Fence := { Fence.wide with round := ro }
theorem calls_fr {P : Program} {f : FuncId} {vs : Array Value} {w : World} {R : Ending → World → Prop} (ro : Option Nat) (n : Nat) (h : Calls P f vs w R) : CallsIn (FR ro) n P f vs w R := by
  have := (callsIn_wide (n := n)).2 h
  exact this
theorem fr_calls {P : Program} {f : FuncId} {vs : Array Value} {w : World} {R : Ending → World → Prop} {ro : Option Nat} {n : Nat} (h : CallsIn (FR ro) n P f vs w R) : Calls P f vs w R :=
  (callsIn_wide (n := n)).1 h
theorem sem_at {P : Program} {a : Act} {o : Oper} {ro : Option Nat} {w w' : World} {x : Next} (h : (execOp a.eval o).run P w = .ok x w') (hx : ∀ d, x ≠ .defer d) : ((o.semAt ro a.eval).run P w) = .ok x w' := by
  rw [Oper.semAt_eq]
  · exact h
  · intro c hc
    simp only [execOp, hc, Sem.run_bind] at h
    cases hr : (resolve a.eval c o.type).run P w with
    | ok d w1 => rw [hr] at h; simp [Result.andThen] at h; exact hx d h.1.symm
    | _ => rw [hr] at h; simp [Result.andThen] at h

def OpPost (P : Program) (A : Nat → Prop) (m : Mem) (ρ : Nat → Nat) (w : World) (a : Act) (o : Oper) (n0 : Nat) (R : ORes) : Prop :=
  ∀ (ro : Option Nat) (K : Act → World → Prop) (Q : Exit → Act → World → Prop), (∀ v ρ' w', Ext m ρ w (updM m R.wr n0 R.ns) ρ' w' → Fits A (updM m R.wr n0 R.ns) ρ' w' → Rep A (updM m R.wr n0 R.ns) ρ' w' R.v v → K (a.put o.dst v) w') → o.wpIn (FR ro) 0 P a w K Q

theorem wp_val {ro : Option Nat} {v : Value} {w' : World} {K : Act → World → Prop} {Q : Exit → Act → World → Prop} (h : (execOp a.eval o).run P w = .ok (.value v) w') (hk : K (a.put o.dst v) w') : o.wpIn (FR ro) 0 P a w K Q := by
  refine ⟨fun _ _ => trivial, ?_⟩
  rw [show (FR ro).round = ro from rfl, sem_at h (fun d => by simp)]; exact hk
theorem wp_unit {ro : Option Nat} {w' : World} {K : Act → World → Prop} {Q : Exit → Act → World → Prop} (h : (execOp a.eval o).run P w = .ok .skip w') (hk : K (a.put o.dst undef) w') : o.wpIn (FR ro) 0 P a w K Q := by
  refine ⟨fun _ _ => trivial, ?_⟩
  rw [show (FR ro).round = ro from rfl, sem_at h (fun d => by simp)]; exact hk

theorem post_pure {x : AV} {v : Value} {ob : List Prop} (hF : Fits A m ρ w) (h : (execOp a.eval o).run P w = .ok (.value v) w) (hr : Rep A m ρ w x v) : OpPost P A m ρ w a o n0 ⟨x, none, [], ob⟩ := fun ro K Q hK =>
  wp_val h (hK v ρ w (by rw [updM_none]; exact .refl _ _ _) (by rw [updM_none]; exact hF) (by rw [updM_none]; exact hr))

theorem exec_v {s : Sem Value} {v : Value} {w' : World} (h : execOp a.eval o = (do pure (.value (← s)))) (hs : s.run P w = .ok v w') : (execOp a.eval o).run P w = .ok (.value v) w' := by
  rw [h]; simp [hs]
theorem exec_u {s : Sem Unit} {w' : World} (h : execOp a.eval o = (do s; pure .skip)) (hs : s.run P w = .ok () w') : (execOp a.eval o).run P w = .ok .skip w' := by
  rw [h]; simp [hs]

theorem evPick_ok {c x y r : AV} {vc vx vy : Value} (h : evPick c x y = some r) (hc : Rep A m ρ w c vc) (hx : Rep A m ρ w x vx) (hy : Rep A m ρ w y vy) :
    ∃ b, vc = .bool b ∧ Rep A m ρ w r (if b then vx else vy) := by
  unfold evPick at h
  split at h
  · obtain rfl := Option.some.inj h
    rename_i cc x y
    refine ⟨cc, rep_bool hc, ?_⟩
    rw [rep_bool hx, rep_bool hy]
    cases cc <;> exact .base (.bool _)
  · obtain rfl := Option.some.inj h
    exact ⟨true, rep_bool hc, hx⟩
  · obtain rfl := Option.some.inj h
    exact ⟨false, rep_bool hc, hy⟩
  · cases h

theorem binI_ok {op : BinOp} {k : IntKind} {x y : Int} {r : AV} {ob : List Prop} (t : TypeId) (h : binI op k x y = some (r, ob)) (hob : AllP ob) : ∃ v, (binOp op t (.int k x) (.int k y)).run P w = .ok v w ∧ RI w (Alien A m ρ w) r v := by
  have ii : ∀ {z : Int} {r : AV} {ob ob' : List Prop}, some (AV.int k z, ob') = some (r, ob) → r = .int k z ∧ ob = ob' := fun h => by cases h; exact ⟨rfl, rfl⟩
  have bb : ∀ {z : Bool} {r : AV} {ob ob' : List Prop}, some (AV.bool z, ob') = some (r, ob) → r = .bool z ∧ ob = ob' := fun h => by cases h; exact ⟨rfl, rfl⟩
  cases op <;> simp only [binI] at h
  case add => obtain ⟨rfl, rfl⟩ := ii h; exact ⟨_, by simp [binOp, Op.intArith], .int _ _⟩
  case sub => obtain ⟨rfl, rfl⟩ := ii h; exact ⟨_, by simp [binOp, Op.intArith], .int _ _⟩
  case mul => obtain ⟨rfl, rfl⟩ := ii h; exact ⟨_, by simp [binOp, Op.intArith], .int _ _⟩
  case quo => obtain ⟨rfl, rfl⟩ := ii h; have hy : y ≠ 0 := hob.1; exact ⟨_, by simp [binOp, Op.intDiv, hy], .int _ _⟩
  case rem => obtain ⟨rfl, rfl⟩ := ii h; have hy : y ≠ 0 := hob.1; exact ⟨_, by simp [binOp, Op.intDiv, hy], .int _ _⟩
  case and => obtain ⟨rfl, rfl⟩ := ii h; exact ⟨_, by simp [binOp, intBits_and], .int _ _⟩
  case or => obtain ⟨rfl, rfl⟩ := ii h; exact ⟨_, by simp [binOp, intBits_or], .int _ _⟩
  case xor => obtain ⟨rfl, rfl⟩ := ii h; exact ⟨_, by simp [binOp, intBits_xor], .int _ _⟩
  case andNot => obtain ⟨rfl, rfl⟩ := ii h; exact ⟨_, by simp [binOp, intBits_andNot], .int _ _⟩
  case eql => obtain ⟨rfl, rfl⟩ := bb h; exact ⟨_, by simp [binOp, Op.intCmp], .bool _⟩
  case neq => obtain ⟨rfl, rfl⟩ := bb h; exact ⟨_, by simp [binOp, Op.intCmp], .bool _⟩
  case lss => obtain ⟨rfl, rfl⟩ := bb h; exact ⟨_, by simp [binOp, Op.intCmp], .bool _⟩
  case leq => obtain ⟨rfl, rfl⟩ := bb h; exact ⟨_, by simp [binOp, Op.intCmp], .bool _⟩
  case gtr => obtain ⟨rfl, rfl⟩ := bb h; exact ⟨_, by simp [binOp, Op.intCmp], .bool _⟩
  case geq => obtain ⟨rfl, rfl⟩ := bb h; exact ⟨_, by simp [binOp, Op.intCmp], .bool _⟩
  all_goals cases h

theorem eqAV_ok : ∀ (d j : Nat) (t : TypeId) (x y : AV) (b : Bool) (vx vy : Value), eqAV P d t x y = some b → Rep A m ρ w x vx → Rep A m ρ w y vy → (Op.equalIn (d + j) t vx vy).run P w = .ok b w := by
  intro d
  induction d with
  | zero => intro j t x y b vx vy h; cases h
  | succ d ih =>
    intro j t x y b vx vy h hx hy
    rw [show d + 1 + j = (d + j) + 1 by omega]
    unfold eqAV at h
    split at h
    · rename_i hu
      obtain rfl := Option.some.inj h
      rw [rep_bool hx, rep_bool hy]
      simp [Op.equalIn, run_underlying hu]
    · rename_i hu
      split at h
      · rename_i hk
        obtain rfl := Option.some.inj h
        rw [rep_int hx, rep_int hy]
        simp [Op.equalIn, run_underlying hu, hk]
      · cases h
    · rename_i hu
      obtain rfl := Option.some.inj h
      rw [rep_str hx, rep_str hy]
      simp [Op.equalIn, run_underlying hu]
    · rename_i fs xs ys hu
      split at h
      · cases h
      · rename_i hst
        have hst : P.stoodInHeld t = false := by simpa using hst
        obtain ⟨vs, rfl, hvs, hvr⟩ := rep_agg hx
        obtain ⟨us, rfl, hus, hur⟩ := rep_agg hy
        have hf : P.fieldsOf t = fs := by unfold Program.fieldsOf; rw [hu]
        rw [run_equalIn_struct w (d + j) t vs us (by rw [hf]; exact hu) hst, hf]
        clear hu hf
        revert h
        generalize fs.toList = l
        induction l generalizing b with
        | nil =>
          intro h
          simp only [eqF] at h
          obtain rfl := Option.some.inj h
          simp [Op.eqFields]
        | cons f l ihl =>
          intro h
          simp only [eqF] at h
          simp only [Op.eqFields]
          split at h
          · rename_i hn
            rw [if_pos hn]
            split at h
            · rename_i px py hpx hpy
              obtain ⟨v1, r1, q1⟩ := run_part hpx hvs hvr
              obtain ⟨v2, r2, q2⟩ := run_part hpy hus hur
              split at h
              · rename_i b1 b2 he hr
                obtain rfl := Option.some.inj h
                have := ih j f.type px py b1 v1 v2 he q1 q2
                simp only [Sem.run_bind, r1, Result.andThen_ok, r2, this]
                cases b1
                · simp
                · simpa using ihl _ hr
              · cases h
            · cases h
          · rename_i hn
            rw [if_neg hn]
            exact ihl _ h
    · rename_i hu
      obtain rfl := Option.some.inj h
      rw [rep_nilptr hx, rep_nilptr hy]
      simp [Op.equalIn, run_underlying hu]
    · rename_i hu
      obtain rfl := Option.some.inj h
      rw [rep_nilptr hx, (rep_ptr hy).1]
      simp [Op.equalIn, run_underlying hu]
    · rename_i hu
      obtain rfl := Option.some.inj h
      rw [rep_nilptr hy, (rep_ptr hx).1]
      simp [Op.equalIn, run_underlying hu]
    · rename_i hu
      obtain rfl := Option.some.inj h
      rw [rep_nilslice hx, rep_nilslice hy]
      simp [Op.equalIn, run_underlying hu]
    · rename_i hu
      obtain rfl := Option.some.inj h
      obtain ⟨b, o, cap, k, x, rfl, _⟩ := rep_list_at hx (by simp)
      rw [rep_nilslice hy]
      simp [Op.equalIn, run_underlying hu]
    · rename_i hu
      obtain rfl := Option.some.inj h
      rw [rep_nilmap hx, rep_nilmap hy]
      simp [Op.equalIn, run_underlying hu]
    · rename_i hu
      obtain rfl := Option.some.inj h
      obtain ⟨u, rfl, _⟩ := rep_iface hy
      rw [rep_niliface hx]
      simp [Op.equalIn, run_underlying hu]
    · rename_i hu
      obtain rfl := Option.some.inj h
      obtain ⟨u, rfl, _⟩ := rep_iface hx
      rw [rep_niliface hy]
      simp [Op.equalIn, run_underlying hu]
    · rename_i hu
      obtain ⟨u1, rfl, q1⟩ := rep_iface hx
      obtain ⟨u2, rfl, q2⟩ := rep_iface hy
      split at h
      · rename_i ht
        subst ht
        split at h
        · rename_i i hi
          split at h
          · rename_i hc
            have := ih j _ _ _ _ _ _ h q1 q2
            simp [Op.equalIn, run_underlying hu, run_typeInfo hi, hc, this]
          · cases h
        · cases h
      · rename_i ht
        obtain rfl := Option.some.inj h
        simp [Op.equalIn, run_underlying hu, ht]
    · rename_i hu
      obtain rfl := Option.some.inj h
      rw [rep_nilfunc hx, rep_nilfunc hy]
      simp [Op.equalIn, run_underlying hu]
    · rename_i hu
      obtain rfl := Option.some.inj h
      obtain ⟨ps, cs, rfl, _⟩ := rep_func hx
      rw [rep_nilfunc hy]
      simp [Op.equalIn, run_underlying hu]
    · cases h

theorem evEq_ok {t : TypeId} {x y : AV} {c : Bool} {vx vy : Value} {ox oy : Operand} (h : evEq P t x y = some c) (hx : Rep A m ρ w x vx) (hy : Rep A m ρ w y vy) :
    (do eqGuard .eql t ox oy vx vy; binOp .eql t vx vy : Sem Value).run P w = .ok (.bool c) w ∧ (do eqGuard .neq t ox oy vx vy; binOp .neq t vx vy : Sem Value).run P w = .ok (.bool (!c)) w := by
  unfold evEq at h
  split at h
  · split at h
    · cases h
    · rename_i hg
      have hg : P.eqGuardType P.depth t = false := by simpa using hg
      have := eqAV_ok 20 9980 t _ _ c vx vy h hx hy
      obtain ⟨vs, rfl, _⟩ := rep_agg hx
      obtain ⟨us, rfl, _⟩ := rep_agg hy
      simp [run_eqGuard_agg, hg, run_eql_struct, run_neq_struct, this]
  · have := eqAV_ok 20 9980 t _ _ c vx vy h hx hy
    rw [rep_bool hx, rep_bool hy] at this ⊢
    simp [eqGuard_at_bool, binOp, Op.equal, Op.maxDepth, this]
  · have := eqAV_ok 20 9980 t _ _ c vx vy h hx hy
    rw [rep_nilptr hx, rep_nilptr hy] at this ⊢
    simp [eqGuard_at_pointer, binOp, Op.equal, Op.maxDepth, this]
  · have := eqAV_ok 20 9980 t _ _ c vx vy h hx hy
    rw [rep_nilptr hx, (rep_ptr hy).1] at this ⊢
    simp [eqGuard_at_pointer, binOp, Op.equal, Op.maxDepth, this]
  · have := eqAV_ok 20 9980 t _ _ c vx vy h hx hy
    rw [rep_nilptr hy, (rep_ptr hx).1] at this ⊢
    simp [eqGuard_at_pointer, binOp, Op.equal, Op.maxDepth, this]
  · have := eqAV_ok 20 9980 t _ _ c vx vy h hx hy
    rw [rep_nilslice hy, rep_nilslice hx] at this ⊢
    simp [eqGuard_at_slice, binOp, Op.equal, Op.maxDepth, this]
  · have := eqAV_ok 20 9980 t _ _ c vx vy h hx hy
    obtain ⟨b, o, cap, k, x, rfl, _⟩ := rep_list_at hx (by simp)
    rw [rep_nilslice hy] at this ⊢
    simp only [Sem.run_bind, eqGuard_at_slice, Sem.run_pure, Result.andThen_ok, binOp, Op.equal, Op.maxDepth]
    rw [this]; simp
  · have := eqAV_ok 20 9980 t _ _ c vx vy h hx hy
    rw [rep_nilmap hy, rep_nilmap hx] at this ⊢
    simp [eqGuard_at_map, binOp, Op.equal, Op.maxDepth, this]
  · have := eqAV_ok 20 9980 t _ _ c vx vy h hx hy
    rw [rep_nilfunc hy, rep_nilfunc hx] at this ⊢
    simp [eqGuard_at_nilFunc, binOp, Op.equal, Op.maxDepth, this]
  · have := eqAV_ok 20 9980 t _ _ c vx vy h hx hy
    obtain ⟨ps, cs, rfl, _⟩ := rep_func hx
    rw [rep_nilfunc hy] at this ⊢
    simp [eqGuard_at_func, binOp, Op.equal, Op.maxDepth, this]
  · obtain rfl := Option.some.inj h
    rw [rep_str hx, rep_str hy]
    simp [eqGuard_at_string, binOp, Op.stringOp, beq_toListBytes]
  · have := eqAV_ok 20 9980 t _ _ c vx vy h hx hy
    obtain ⟨u, rfl, _⟩ := rep_iface hy
    rw [rep_niliface hx] at this ⊢
    simp [eqGuard, binOp, Op.equal, Op.maxDepth, this]
  · have := eqAV_ok 20 9980 t _ _ c vx vy h hx hy
    obtain ⟨u, rfl, _⟩ := rep_iface hx
    rw [rep_niliface hy] at this ⊢
    simp [eqGuard, binOp, Op.equal, Op.maxDepth, this]
  · have := eqAV_ok 20 9980 t _ _ c vx vy h hx hy
    obtain ⟨u, rfl, _⟩ := rep_iface hx
    obtain ⟨u', rfl, _⟩ := rep_iface hy
    simp [eqGuard, binOp, Op.equal, Op.maxDepth, this]
  · cases h

theorem eqGuard_nil {op : BinOp} {t : TypeId} {ox oy : Operand} (hk : (isConst ox || isConst oy) = true) : (eqGuard op t ox oy .nilIface .nilIface).run P w = .ok () w := by
  cases ox <;> cases oy <;> first | (simp [isConst] at hk; done) | (cases op <;> simp [eqGuard])
theorem eq_nil (d : Nat) {t : TypeId} {ms : Array (String × TypeId)} (hu : P.underlying t = some (.interface ms)) : (Op.equalIn (d + 1) t .nilIface .nilIface).run P w = .ok true w := by
  simp [Op.equalIn, run_underlying hu]

theorem evBin_ok {op : BinOp} {t : TypeId} {x y r : AV} {ob : List Prop} {vx vy : Value} {ox oy : Operand} (h : evBin P op t (isConst ox || isConst oy) x y = some (r, ob)) (hob : AllP ob) (hx : Rep A m ρ w x vx) (hy : Rep A m ρ w y vy) :
    (∃ v, (do eqGuard op t ox oy vx vy; binOp op t vx vy : Sem Value).run P w = .ok v w ∧ Rep A m ρ w r v) := by
  have gi : ∀ (k : IntKind) (n : Int) (v : Value), (eqGuard op t ox oy (.int k n) v).run P w = .ok () w := fun k n v => by rw [eqGuard_at_int]; rfl
  unfold evBin at h
  split at h
  · split at h
    · rename_i hk
      split at h
      · rename_i ms hu
        cases h
        rw [rep_niliface hx, rep_niliface hy]
        have he : (Op.equalIn 10000 t .nilIface .nilIface).run P w = .ok true w := eq_nil 9999 hu
        refine ⟨_, ?_, .base (.bool _)⟩
        simp only [Sem.run_bind, eqGuard_nil hk, Result.andThen_ok]
        simp [binOp, Op.equal, Op.maxDepth, he]
      · cases h
    · cases h
  · split at h
    · rename_i hk
      split at h
      · rename_i ms hu
        cases h
        rw [rep_niliface hx, rep_niliface hy]
        have he : (Op.equalIn 10000 t .nilIface .nilIface).run P w = .ok true w := eq_nil 9999 hu
        refine ⟨_, ?_, .base (.bool _)⟩
        simp only [Sem.run_bind, eqGuard_nil hk, Result.andThen_ok]
        simp [binOp, Op.equal, Op.maxDepth, he]
      · cases h
    · cases h
  · cases h
    rw [rep_int hx, rep_int hy]
    have hy0 : (0 : Int) ≤ _ := hob.1
    refine ⟨_, by simp only [Sem.run_bind, eqGuard_at_int, Sem.run_pure, Result.andThen_ok, binOp, Op.shift, if_neg (Int.not_lt.2 hy0)], .base (.int _ _)⟩
  · cases h
    rw [rep_int hx, rep_int hy]
    have hy0 : (0 : Int) ≤ _ := hob.1
    refine ⟨_, by simp only [Sem.run_bind, eqGuard_at_int, Sem.run_pure, Result.andThen_ok, binOp, Op.shift, if_neg (Int.not_lt.2 hy0)], .base (.int _ _)⟩
  · split at h
    · rename_i hk
      subst hk
      rw [rep_int hx, rep_int hy]
      obtain ⟨v, h1, h2⟩ := binI_ok (A := A) (m := m) (ρ := ρ) (w := w) (P := P) t h hob
      exact ⟨v, by simp [eqGuard_at_int, h1], .base h2⟩
    · cases h
  · obtain ⟨c, h1, h2⟩ := Option.map_eq_some_iff.1 h
    cases h2
    exact ⟨_, (evEq_ok h1 hx hy).1, .base (.bool _)⟩
  · obtain ⟨c, h1, h2⟩ := Option.map_eq_some_iff.1 h
    cases h2
    exact ⟨_, (evEq_ok h1 hx hy).2, .base (.bool _)⟩
  · cases h

end
end
end Go.Proofs.Ytglfbdicclepcaa
