/- Operations without calls: what each gives, and that it gives this in every world. For every program. -/
import Derived.Test.YtkijlggnnbdeiaaEvC
set_option linter.unusedVariables false
set_option linter.unusedSimpArgs false
namespace Go.Proofs.Ytkijlggnnbdeiaa
open Go.RowKit

/-! ### What each gives -/

def evPick : AV → AV → AV → Option AV
  | .bool c, .bool x, .bool y => some (.bool (bif c then x else y))
  | .bool true, x, _ => some x
  | .bool false, _, y => some y
  | _, _, _ => none

def binI (op : BinOp) (k : IntKind) (x y : Int) : Option (AV × List Prop) :=
  match op with
  | .add => some (.int k (k.wrap (x + y)), [])
  | .sub => some (.int k (k.wrap (x - y)), [])
  | .mul => some (.int k (k.wrap (x * y)), [])
  | .quo => some (.int k (k.wrap (x.tdiv y)), [y ≠ 0])
  | .rem => some (.int k (x.tmod y), [y ≠ 0])
  | .and => some (.int k (bits .and k x y), [])
  | .or => some (.int k (bits .or k x y), [])
  | .xor => some (.int k (bits .xor k x y), [])
  | .andNot => some (.int k (bits .andNot k x y), [])
  | .eql => some (.bool (x == y), [])
  | .neq => some (.bool (x != y), [])
  | .lss => some (.bool (x < y), [])
  | .leq => some (.bool (x ≤ y), [])
  | .gtr => some (.bool (x > y), [])
  | .geq => some (.bool (x ≥ y), [])
  | _ => none

def eqF (P : Program) (eq : TypeId → AV → AV → Option Bool) (xs ys : List AV) : List Field → Option Bool
  | [] => some true
  | f :: fs =>
    if f.name ≠ "_" then
      match partAV P f.type xs f.offset, partAV P f.type ys f.offset with
      | some x, some y => match eq f.type x y, eqF P eq xs ys fs with
        | some a, some b => some (a && b)
        | _, _ => none
      | _, _ => none
    else eqF P eq xs ys fs

def eqAV (P : Program) : Nat → TypeId → AV → AV → Option Bool
  | 0, _, _, _ => none
  | d + 1, t, x, y =>
    match P.underlying t, x, y with
    | some .bool, .bool a, .bool b => some (a == b)
    | some (.int _), .int k a, .int k' b => if k = k' then some (a == b) else none
    | some .string, .str a, .str b => some (a == b)
    | some (.struct fs), .agg xs, .agg ys => if P.stoodInHeld t then none else eqF P (eqAV P d) xs ys fs.toList
    | some (.pointer _), .nilptr, .nilptr => some true
    | some (.pointer _), .nilptr, .ptr _ _ => some false
    | some (.pointer _), .ptr _ _, .nilptr => some false
    | some (.slice _), .nilslice, .nilslice => some true
    | some (.slice _), .list (_ :: _), .nilslice => some false
    | some (.map _ _), .nilmap, .nilmap => some true
    | some (.interface _), .niliface, .iface _ _ => some false
    | some (.interface _), .iface _ _, .niliface => some false
    | some (.interface _), .iface tx vx, .iface ty vy => if tx = ty then match P.info? tx with
      | some i => if i.comparable then eqAV P d tx vx vy else none
      | none => none else some false
    | some (.func _ _ _), .nilfunc, .nilfunc => some true
    | some (.func _ _ _), .func _ _ _, .nilfunc => some false
    | _, _, _ => none

def evEq (P : Program) (t : TypeId) (a b : AV) : Option Bool :=
  match a, b with
  | .agg xs, .agg ys => if P.eqGuardType P.depth t then none else eqAV P 20 t (.agg xs) (.agg ys)
  | .bool x, .bool y => eqAV P 20 t (.bool x) (.bool y)
  | .nilptr, .nilptr => eqAV P 20 t .nilptr .nilptr
  | .nilptr, .ptr i j => eqAV P 20 t .nilptr (.ptr i j)
  | .ptr i j, .nilptr => eqAV P 20 t (.ptr i j) .nilptr
  | .nilslice, .nilslice => eqAV P 20 t .nilslice .nilslice
  | .list (x :: l), .nilslice => eqAV P 20 t (.list (x :: l)) .nilslice
  | .nilmap, .nilmap => eqAV P 20 t .nilmap .nilmap
  | .nilfunc, .nilfunc => eqAV P 20 t .nilfunc .nilfunc
  | .func f p c, .nilfunc => eqAV P 20 t (.func f p c) .nilfunc
  | .str x, .str y => some (x == y)
  | .niliface, .iface u v => eqAV P 20 t .niliface (.iface u v)
  | .iface u v, .niliface => eqAV P 20 t (.iface u v) .niliface
  | .iface u v, .iface u' v' => eqAV P 20 t (.iface u v) (.iface u' v')
  | _, _ => none

def isConst : Operand → Bool
  | .const _ => true
  | _ => false

def evBin (P : Program) (op : BinOp) (t : TypeId) (k : Bool) (a b : AV) : Option (AV × List Prop) :=
  match op, a, b with
  | .eql, .niliface, .niliface => if k then match P.underlying t with
    | some (.interface _) => some (.bool true, [])
    | _ => none else none
  | .neq, .niliface, .niliface => if k then match P.underlying t with
    | some (.interface _) => some (.bool false, [])
    | _ => none else none
  | .shl, .int k x, .int _ y => some (.int k (k.wrap (x * 2 ^ (min y.toNat k.bits))), [0 ≤ y])
  | .shr, .int k x, .int _ y => some (.int k (x.fdiv (2 ^ (min y.toNat k.bits))), [0 ≤ y])
  | op, .int k x, .int k' y => if k = k' then binI op k x y else none
  | .eql, a, b => (evEq P t a b).map fun c => (.bool c, [])
  | .neq, a, b => (evEq P t a b).map fun c => (.bool (!c), [])
  | _, _, _ => none

def evUn (op : UnOp) (x : AV) : Option AV :=
  match op, x with
  | .not, .bool b => some (.bool (!b))
  | .neg, .int k n => some (.int k (k.wrap (0 - n)))
  | .xor, .int k n => some (.int k (bits .xor k (if k.signed then -1 else k.max) n))
  | _, _ => none

def evConv (P : Program) (src dst : TypeId) (x : AV) : Option AV :=
  match P.underlying src, P.underlying dst, x with
  | some _, some (.int k), .int _ n => some (.int k (k.wrap n))
  | _, _, _ => none

def boxable : AV → Bool
  | .any | .tuple _ => false
  | _ => true

def zeroAV (P : Program) (t : TypeId) : Option AV := ((P.info? t).bind (·.zero)).map avOf

def splice (cs : List AV) (off : Nat) (l : List AV) : List AV := cs.take off ++ l ++ cs.drop (off + l.length)

def fillAV (place : Nat → Option (Nat × Nat)) (cs : List AV) : List (Nat × AV) → Option (List AV)
  | [] => some cs
  | (i, v) :: rest =>
    match place i with
    | none => none
    | some (off, size) =>
      if boxable v && Nat.beq (cellsOf v).length size && Nat.ble (off + (cellsOf v).length) cs.length then fillAV place (splice cs off (cellsOf v)) rest else none

def placesOf (P : Program) : List Field → Option (List (Nat × Nat))
  | [] => some []
  | f :: fs => match P.info? f.type, placesOf P fs with
    | some i, some r => some ((f.offset, i.size) :: r)
    | _, _ => none

def evBuild (P : Program) (t : TypeId) (parts : List (Nat × AV)) : Option AV :=
  match zeroAV P t, P.underlying t with
  | some z, some (.struct fs) => match placesOf P fs.toList with
    | some pl => (fillAV (fun i => pl[i]?) (cellsOf z) parts).map .agg
    | none => none
  | some z, some (.array _ e) => match P.info? e with
    | some i => (fillAV (fun j => some (j * i.size, i.size)) (cellsOf z) parts).map .agg
    | none => none
  | _, _ => none

def evBuildSlice (P : Program) (t : TypeId) (len : Nat) (parts : List (Nat × AV)) : Option (List AV × Nat) :=
  match P.underlying t with
  | some (.slice e) => match P.info? e, zeroAV P e with
    | some i, some z =>
      if Nat.ble (len * i.size) 16777216 && Nat.ble 1 i.size && parts.all (fun p => boxable p.2 && Nat.beq (cellsOf p.2).length i.size && Nat.blt p.1 len) && Nat.beq (cellsOf z).length i.size then
        some (parts.foldl (fun es p => es.set p.1 p.2) (List.replicate len z), i.size)
      else none
    | _, _ => none
  | _ => none

def elemAt (es : List AV) (ix : Nat) : Sup → Option (AV × List Prop)
  | .e e => some (e, [es[ix]? = some e])
  | .er e _ => some (e, [es[ix]? = some e])
  | _ => (es[ix]?).map fun e => (e, [])

def evLoad (P : Program) (t : TypeId) (p : AV) (look : Mem) (s : Sup) : Option (AV × List Prop) :=
  match P.info? t, P.underlying t with
  | some i, some d =>
    match p with
    | .ptr id off => match look id with
      | some (.cells cs) => (if isAggT d then (takeAt cs off i.size).map .agg else cs[off]?).map fun v => (v, [])
      | _ => none
    | .ptrR id ver ix off => match look id with
      | some (.row _ es ver') => if Nat.beq ver ver' then match elemAt es ix s with
        | some (e, ob) => (if isAggT d then (takeAt (cellsOf e) off i.size).map .agg else (cellsOf e)[off]?).map fun v => (v, ob)
        | none => none else none
      | _ => none
    | .ptrIn e off => (if isAggT d then (takeAt (cellsOf e) off i.size).map .agg else (cellsOf e)[off]?).map fun v => (v, [])
    | _ => none
  | _, _ => none

def reElem (e : AV) (off : Nat) (y : AV) : AV := match e with
  | .agg cs => .agg (splice cs off (cellsOf y))
  | e => (splice [e] off (cellsOf y)).headD e

def evStore (P : Program) (t : TypeId) (p y : AV) (look : Mem) (s : Sup) : Option (Nat × Blk × List Prop) :=
  match P.info? t with
  | some i =>
    if (cellsOf y).all isCell && Nat.beq (cellsOf y).length i.size then
      match p with
      | .ptr id off => match look id with
        | some (.cells cs) => if Nat.ble (off + (cellsOf y).length) cs.length then some (id, .cells (splice cs off (cellsOf y)), []) else none
        | _ => none
      | .ptrR id ver ix off => match look id with
        | some (.row k es ver') => if Nat.beq ver ver' then match elemAt es ix s with
          | some (e, ob) => if Nat.ble (off + (cellsOf y).length) (cellsOf e).length then some (id, .row k (es.set ix (reElem e off y)) ver', ob) else none
          | none => none else none
        | _ => none
      | _ => none
    else none
  | none => none

def cur (look : Mem) (id ver : Nat) : Bool := match look id with
  | some (.row _ _ ver') => Nat.beq ver ver'
  | _ => false

def evFieldAddr (P : Program) (t : TypeId) (p : AV) (f : Nat) (look : Mem) : Option AV :=
  match P.underlying t with
  | some (.struct fs) => match fs[f]? with
    | some fd => match P.info? fd.type with
      | some i => if Nat.beq i.size 0 then none else match p with
        | .ptr id off => some (.ptr id (off + fd.offset))
        | .ptrR id ver ix off => if cur look id ver then some (.ptrR id ver ix (off + fd.offset)) else none
        | .ptrIn e off => some (.ptrIn e (off + fd.offset))
        | _ => none
      | none => none
    | none => none
  | _ => none

def evField (P : Program) (t : TypeId) (x : AV) (f : Nat) : Option AV :=
  match P.underlying t, x with
  | some (.struct fs), .agg cs => match fs[f]? with
    | some fd => partAV P fd.type cs fd.offset
    | none => none
  | _, _ => none

def idxOf (i : Int) (n : Nat) : Sup → Nat × List Prop
  | .i j => (j, [i = (j : Int), j < n])
  | _ => (i.toNat, [0 ≤ i ∧ i < n])

def evIndexAddr (P : Program) (t : TypeId) (x ix : AV) (look : Mem) (s : Sup) : Option (AV × List Prop) :=
  match ix, P.underlying t with
  | .int _ i, some (.array n e) => match P.info? e with
    | some ei => match x with
      | .ptr id off => some (.ptr id (off + (idxOf i n s).1 * ei.size), (idxOf i n s).2)
      | .ptrR id ver j off => if cur look id ver then some (.ptrR id ver j (off + (idxOf i n s).1 * ei.size), (idxOf i n s).2) else none
      | .ptrIn v off => some (.ptrIn v (off + (idxOf i n s).1 * ei.size), (idxOf i n s).2)
      | _ => none
    | none => none
  | .int _ i, some (.slice e) => match P.info? e with
    | some ei => match x with
      | .list l => match elemAt l i.toNat s with
        | some (v, ob) => if Nat.beq (cellsOf v).length ei.size then some (.ptrIn v 0, (0 ≤ i) :: ob) else none
        | none => none
      | .slice id lo len ver => match look id with
        | some (.row k es ver') => if Nat.beq ver ver' && Nat.beq k ei.size then some (.ptrR id ver (lo + i.toNat) 0, [0 ≤ i ∧ i < len]) else none
        | _ => none
      | _ => none
    | none => none
  | _, _ => none

def evIndex (P : Program) (t : TypeId) (x ix : AV) (s : Sup) : Option (AV × List Prop) :=
  match ix, P.underlying t, x with
  | .int _ i, some (.array n e), .agg cs => match P.info? e with
    | some ei => (partAV P e cs ((idxOf i n s).1 * ei.size)).map fun v => (v, (idxOf i n s).2)
    | none => none
  | .int _ i, some .string, .str b => match s with
    | .v (.int k n) => some (.int .u8 n, [0 ≤ i ∧ b[i.toNat]?.map (fun u => (u.toNat : Int)) = some n])
    | _ => none
  | _, _, _ => none

def boundOf (d : Int) : Option AV → Option Int
  | none => some d
  | some (.int _ n) => some n
  | _ => none

def evSlice (P : Program) (t : TypeId) (x : AV) (lo hi mx : Option AV) (look : Mem) : Option (AV × List Prop) :=
  match P.underlying t, mx with
  | some (.slice e), none => match x with
    | .list l => match P.info? e, boundOf 0 lo, boundOf l.length hi with
      | some ei, some a, some b => some (.list ((l.take b.toNat).drop a.toNat), [0 ≤ a ∧ a ≤ b ∧ b ≤ l.length, ∀ x ∈ l, (cellsOf x).length = ei.size])
      | _, _, _ => none
    | .slice id l0 len ver => match look id with
      | some (.row k es ver') => match P.info? e, boundOf 0 lo, boundOf len hi with
        | some ei, some a, some b => if Nat.beq ver ver' && Nat.beq k ei.size then some (.slice id (l0 + a.toNat) (b.toNat - a.toNat) ver, [0 ≤ a ∧ a ≤ b ∧ b ≤ len]) else none
        | _, _, _ => none
      | _ => none
    | .nilslice => match P.info? e, boundOf 0 lo, boundOf 0 hi with
      | some ei, some a, some b => some (.nilslice, [a = 0 ∧ b = 0])
      | _, _, _ => none
    | _ => none
  | _, _ => none

def evLen (P : Program) (t : TypeId) (x : AV) (look : Mem) : Option AV :=
  match P.underlying t, x with
  | some (.slice _), .list l => some (.int .i64 l.length)
  | some (.slice _), .slice id _ len ver => match look id with
    | some (.row _ _ ver') => if Nat.beq ver ver' then some (.int .i64 len) else none
    | _ => none
  | some (.slice _), .nilslice => some (.int .i64 0)
  | some (.array n _), _ => some (.int .i64 n)
  | some .string, .str s => some (.int .i64 s.size)
  | _, _ => none

def evMaxF (mx : Bool) (k : IntKind) : Int → List AV → Option AV
  | x, [] => some (.int k x)
  | x, .int _ y :: r => evMaxF mx k (if mx then max x y else min x y) r
  | _, _ :: _ => none
def evMax (mx : Bool) : List AV → Option AV
  | .int k x :: r => evMaxF mx k x r
  | _ => none

/-- The elements of a slice. -/
def elemsOf (look : Mem) : AV → Option (List AV)
  | .list l => some l
  | .nilslice => some []
  | .slice id lo len ver => match look id with
    | some (.row _ es ver') => if Nat.beq ver ver' then some ((es.drop lo).take len) else none
    | _ => none
  | _ => none

inductive AppR where
  | same (v : AV)
  | old (id : Nat) (b : Blk) (v : AV)
  | new (b : Blk)

def notInt : Option TypeDesc → Bool
  | some (.int _) | none => false
  | _ => true

def evAppend (P : Program) (t t2 : TypeId) (s x : AV) (look : Mem) : Option (AppR × List Prop) :=
  match P.underlying t with
  | some (.slice e) => match P.info? e, zeroAV P e, elemsOf look x with
    | some ei, some z, some ys => if Nat.ble 1 ei.size && Nat.ble 1 ei.bytes && Nat.beq (cellsOf z).length ei.size && notInt (P.underlying t2) then match s with
      | .slice id lo len ver => match look id with
        | some (.row k es ver') => if Nat.beq ver ver' && Nat.beq k ei.size && Nat.beq lo 0 then
            some (.old id (.row k (es.take len ++ ys) (ver + 1)) (.slice id 0 (len + ys.length) (ver + 1)), [(2 * (len + ys.length) + 1024) * ei.bytes ≤ 2 ^ 48, ∀ y ∈ ys, (cellsOf y).length = ei.size ∧ ∀ c ∈ cellsOf y, isCell c = true])
          else none
        | _ => none
      | .nilslice => match ys with
        | [] => some (.same .nilslice, [])
        | y :: r => some (.new (.row ei.size (y :: r) 0), [(2 * (y :: r).length + 1024) * ei.bytes ≤ 2 ^ 48, ∀ u ∈ y :: r, (cellsOf u).length = ei.size ∧ ∀ c ∈ cellsOf u, isCell c = true])
      | _ => none
      else none
    | _, _, _ => none
  | _ => none

def evMakeSlice (P : Program) (t : TypeId) (len cap : AV) : Option (Nat × List AV × Nat × List Prop) :=
  match P.underlying t, len, cap with
  | some (.slice e), .int _ n, .int _ c => match P.info? e, zeroAV P e with
    | some ei, some z => if Nat.ble 1 ei.size && Nat.beq (cellsOf z).length ei.size then
        some (n.toNat, List.replicate n.toNat z, ei.size, [0 ≤ n ∧ n = c ∧ ei.bytes * n ≤ 2 ^ 48 ∧ n < 2 ^ 63]) else none
    | _, _ => none
  | _, _, _ => none

def evIface (P : Program) (t : TypeId) (x : AV) : Option AV := match P.underlying t with
  | some (.interface _) => none
  | some _ => some (.iface t x)
  | none => none

def evAssert (P : Program) (x : AV) (t : TypeId) (ok : Bool) : Option AV := match P.underlying t with
  | some (.interface _) => none
  | some _ => match x with
    | .niliface => if ok then (zeroAV P t).map fun z => .tuple [z, .bool false] else none
    | .iface u v => if u = t then some (if ok then .tuple [v, .bool true] else v) else if ok then (zeroAV P t).map fun z => .tuple [z, .bool false] else none
    | _ => none
  | none => none

def evExtract (x : AV) (i : Nat) : Option AV := match x with
  | .tuple vs => vs[i]?
  | _ => none

def evNilCheck (x : AV) : Option AV := match x with
  | .ptr id off => some (.ptr id off)
  | .ptrIn e off => some (.ptrIn e off)
  | .func (.func f) p c => some (.func (.func f) p c)
  | _ => none

def evOp (P : Program) (op : Op) (ty : TypeId) (τ : Nat → AV) (look : Mem) (n0 : Nat) (s : Sup) : Option ORes :=
  let p (x : Option AV) : Option ORes := x.map fun v => ⟨v, none, [], []⟩
  let q (x : Option (AV × List Prop)) : Option ORes := x.map fun v => ⟨v.1, none, [], v.2⟩
  match op with
  | .move x | .assign x => p (some (opd τ x))
  | .pick c a b => p (evPick (opd τ c) (opd τ a) (opd τ b))
  | .alloc t => (zeroAV P t).map fun z => ⟨.ptr n0 0, none, [.cells (cellsOf z)], []⟩
  | .box t x => if boxable (opd τ x) then some ⟨.ptr n0 0, none, [.cells (cellsOf (opd τ x))], []⟩ else none
  | .build t parts => p (evBuild P t (parts.toList.map fun y => (y.1, opd τ y.2)))
  | .buildSlice t len parts => (evBuildSlice P t len (parts.toList.map fun y => (y.1, opd τ y.2))).map fun r => ⟨.slice n0 0 len 0, none, [.row r.2 r.1 0], []⟩
  | .load t x => q (evLoad P t (opd τ x) look s)
  | .store t x y => (evStore P t (opd τ x) (opd τ y) look s).map fun r => ⟨.tuple [], some (r.1, r.2.1), [], r.2.2⟩
  | .binOp op t x y _ => q (evBin P op t (isConst x || isConst y) (opd τ x) (opd τ y))
  | .unOp op _ x => p (evUn op (opd τ x))
  | .convert src dst x => p (evConv P src dst (opd τ x))
  | .fieldAddr t x f => p (evFieldAddr P t (opd τ x) f look)
  | .field t x f => p (evField P t (opd τ x) f)
  | .indexAddr t x i => q (evIndexAddr P t (opd τ x) (opd τ i) look s)
  | .index t x i => q (evIndex P t (opd τ x) (opd τ i) s)
  | .slice t x lo hi mx => q (evSlice P t (opd τ x) (lo.map (opd τ)) (hi.map (opd τ)) (mx.map (opd τ)) look)
  | .makeInterface t x => p (evIface P t (opd τ x))
  | .typeAssert x _ t ok => p (evAssert P (opd τ x) t ok)
  | .extract x i => p (evExtract (opd τ x) i)
  | .makeFunc f a c => p (some (.func f (a.toList.map (opd τ)) (c.toList.map (opd τ))))
  | .nilCheck x => p (evNilCheck (opd τ x))
  | .makeSlice t l c => (evMakeSlice P t (opd τ l) (opd τ c)).map fun r => ⟨.slice n0 0 r.1 0, none, [.row r.2.2.1 r.2.1 0], r.2.2.2⟩
  | .call { callee := .builtin b, args, argTypes } =>
    match b, argTypes.toList, args.toList with
    | .len, [t], [x] => p (evLen P t (opd τ x) look)
    | .max, _, xs => p (evMax true (xs.map (opd τ)))
    | .min, _, xs => p (evMax false (xs.map (opd τ)))
    | .append, [t, t2], [x, y] => match evAppend P t t2 (opd τ x) (opd τ y) look with
      | some (.same v, ob) => some ⟨v, none, [], ob⟩
      | some (.old id b v, ob) => some ⟨v, some (id, b), [], ob⟩
      | some (.new (.row k es ver), ob) => some ⟨.slice n0 0 es.length 0, none, [.row k es ver], ob⟩
      | _ => none
    | _, _, _ => none
  | _ => none

def reRow (l : List AV) : Option (Nat × Blk) → Option (Nat × Blk)
  | some (id, .row k _ ver) => some (id, .row k l ver)
  | x => x
def reOb (l : List AV) : Option (Nat × Blk) → Prop
  | some (_, .row _ es _) => es = l
  | _ => True
def fin (s : Sup) (r : ORes) : ORes := match s with
  | .v x => ⟨x, r.wr, r.ns, (r.v = x) :: r.ob⟩
  | .r l => ⟨r.v, reRow l r.wr, r.ns, reOb l r.wr :: r.ob⟩
  | .er _ l => ⟨r.v, reRow l r.wr, r.ns, reOb l r.wr :: r.ob⟩
  | _ => r

/-! ### That they give this -/

section
variable {P : Program} {A : Nat → Prop} {m : Mem} {ρ : Nat → Nat} {w : World} {a : Act} {o : Oper} {n0 : Nat}

/-- Everything is let in; in a round of the loop over a function whose record lies at l, or in none. -/
def FR (ro : Option Nat) : Fence := { Fence.wide with round := ro }
theorem calls_fr {P : Program} {f : FuncId} {vs : Array Value} {w : World} {R : Ending → World → Prop} (ro : Option Nat) (n : Nat) (h : Calls P f vs w R) : CallsIn (FR ro) n P f vs w R := by
  have := (callsIn_wide (n := n)).2 h
  exact this
theorem fr_calls {P : Program} {f : FuncId} {vs : Array Value} {w : World} {R : Ending → World → Prop} {ro : Option Nat} {n : Nat} (h : CallsIn (FR ro) n P f vs w R) : Calls P f vs w R :=
  (callsIn_wide (n := n)).1 h
theorem sem_at {P : Program} {a : Act} {o : Oper} {ro : Option Nat} {w w' : World} {x : Next} (h : (execOp a.eval o).run P w = .ok x w') (hx : ∀ d, x ≠ .defer d) : ((o.semAt ro a.eval).run P w) = .ok x w' := by
  rw [Oper.semAt_eq]
  · exact h
  · intro c hc
    simp only [execOp, hc, Sem.run_bind] at h
    cases hr : (resolve a.eval c o.type).run P w with
    | ok d w1 => rw [hr] at h; simp [Result.andThen] at h; exact hx d h.1.symm
    | _ => rw [hr] at h; simp [Result.andThen] at h

def OpPost (P : Program) (A : Nat → Prop) (m : Mem) (ρ : Nat → Nat) (w : World) (a : Act) (o : Oper) (n0 : Nat) (R : ORes) : Prop :=
  ∀ (ro : Option Nat) (K : Act → World → Prop) (Q : Exit → Act → World → Prop), (∀ v ρ' w', Ext m ρ w (updM m R.wr n0 R.ns) ρ' w' → Fits A (updM m R.wr n0 R.ns) ρ' w' → Rep A (updM m R.wr n0 R.ns) ρ' w' R.v v → K (a.put o.dst v) w') → o.wpIn (FR ro) 0 P a w K Q

theorem wp_val {ro : Option Nat} {v : Value} {w' : World} {K : Act → World → Prop} {Q : Exit → Act → World → Prop} (h : (execOp a.eval o).run P w = .ok (.value v) w') (hk : K (a.put o.dst v) w') : o.wpIn (FR ro) 0 P a w K Q := by
  refine ⟨fun _ _ => trivial, ?_⟩
  rw [show (FR ro).round = ro from rfl, sem_at h (fun d => by simp)]; exact hk
theorem wp_unit {ro : Option Nat} {w' : World} {K : Act → World → Prop} {Q : Exit → Act → World → Prop} (h : (execOp a.eval o).run P w = .ok .skip w') (hk : K (a.put o.dst undef) w') : o.wpIn (FR ro) 0 P a w K Q := by
  refine ⟨fun _ _ => trivial, ?_⟩
  rw [show (FR ro).round = ro from rfl, sem_at h (fun d => by simp)]; exact hk

theorem post_pure {x : AV} {v : Value} {ob : List Prop} (hF : Fits A m ρ w) (h : (execOp a.eval o).run P w = .ok (.value v) w) (hr : Rep A m ρ w x v) : OpPost P A m ρ w a o n0 ⟨x, none, [], ob⟩ := fun ro K Q hK =>
  wp_val h (hK v ρ w (by rw [updM_none]; exact .refl _ _ _) (by rw [updM_none]; exact hF) (by rw [updM_none]; exact hr))

theorem exec_v {s : Sem Value} {v : Value} {w' : World} (h : execOp a.eval o = (do pure (.value (← s)))) (hs : s.run P w = .ok v w') : (execOp a.eval o).run P w = .ok (.value v) w' := by
  rw [h]; simp [hs]
theorem exec_u {s : Sem Unit} {w' : World} (h : execOp a.eval o = (do s; pure .skip)) (hs : s.run P w = .ok () w') : (execOp a.eval o).run P w = .ok .skip w' := by
  rw [h]; simp [hs]

theorem evPick_ok {c x y r : AV} {vc vx vy : Value} (h : evPick c x y = some r) (hc : Rep A m ρ w c vc) (hx : Rep A m ρ w x vx) (hy : Rep A m ρ w y vy) :
    ∃ b, vc = .bool b ∧ Rep A m ρ w r (if b then vx else vy) := by
  unfold evPick at h
  split at h
  · obtain rfl := Option.some.inj h
    rename_i cc x y
    refine ⟨cc, rep_bool hc, ?_⟩
    rw [rep_bool hx, rep_bool hy]
    cases cc <;> exact .base (.bool _)
  · obtain rfl := Option.some.inj h
    exact ⟨true, rep_bool hc, hx⟩
  · obtain rfl := Option.some.inj h
    exact ⟨false, rep_bool hc, hy⟩
  · cases h

theorem binI_ok {op : BinOp} {k : IntKind} {x y : Int} {r : AV} {ob : List Prop} (t : TypeId) (h : binI op k x y = some (r, ob)) (hob : AllP ob) : ∃ v, (binOp op t (.int k x) (.int k y)).run P w = .ok v w ∧ RI w (Alien A m ρ w) r v := by
  have ii : ∀ {z : Int} {r : AV} {ob ob' : List Prop}, some (AV.int k z, ob') = some (r, ob) → r = .int k z ∧ ob = ob' := fun h => by cases h; exact ⟨rfl, rfl⟩
  have bb : ∀ {z : Bool} {r : AV} {ob ob' : List Prop}, some (AV.bool z, ob') = some (r, ob) → r = .bool z ∧ ob = ob' := fun h => by cases h; exact ⟨rfl, rfl⟩
  cases op <;> simp only [binI] at h
  case add => obtain ⟨rfl, rfl⟩ := ii h; exact ⟨_, by simp [binOp, Op.intArith], .int _ _⟩
  case sub => obtain ⟨rfl, rfl⟩ := ii h; exact ⟨_, by simp [binOp, Op.intArith], .int _ _⟩
  case mul => obtain ⟨rfl, rfl⟩ := ii h; exact ⟨_, by simp [binOp, Op.intArith], .int _ _⟩
  case quo => obtain ⟨rfl, rfl⟩ := ii h; have hy : y ≠ 0 := hob.1; exact ⟨_, by simp [binOp, Op.intDiv, hy], .int _ _⟩
  case rem => obtain ⟨rfl, rfl⟩ := ii h; have hy : y ≠ 0 := hob.1; exact ⟨_, by simp [binOp, Op.intDiv, hy], .int _ _⟩
  case and => obtain ⟨rfl, rfl⟩ := ii h; exact ⟨_, by simp [binOp, intBits_and], .int _ _⟩
  case or => obtain ⟨rfl, rfl⟩ := ii h; exact ⟨_, by simp [binOp, intBits_or], .int _ _⟩
  case xor => obtain ⟨rfl, rfl⟩ := ii h; exact ⟨_, by simp [binOp, intBits_xor], .int _ _⟩
  case andNot => obtain ⟨rfl, rfl⟩ := ii h; exact ⟨_, by simp [binOp, intBits_andNot], .int _ _⟩
  case eql => obtain ⟨rfl, rfl⟩ := bb h; exact ⟨_, by simp [binOp, Op.intCmp], .bool _⟩
  case neq => obtain ⟨rfl, rfl⟩ := bb h; exact ⟨_, by simp [binOp, Op.intCmp], .bool _⟩
  case lss => obtain ⟨rfl, rfl⟩ := bb h; exact ⟨_, by simp [binOp, Op.intCmp], .bool _⟩
  case leq => obtain ⟨rfl, rfl⟩ := bb h; exact ⟨_, by simp [binOp, Op.intCmp], .bool _⟩
  case gtr => obtain ⟨rfl, rfl⟩ := bb h; exact ⟨_, by simp [binOp, Op.intCmp], .bool _⟩
  case geq => obtain ⟨rfl, rfl⟩ := bb h; exact ⟨_, by simp [binOp, Op.intCmp], .bool _⟩
  all_goals cases h

theorem eqAV_ok : ∀ (d j : Nat) (t : TypeId) (x y : AV) (b : Bool) (vx vy : Value), eqAV P d t x y = some b → Rep A m ρ w x vx → Rep A m ρ w y vy → (Op.equalIn (d + j) t vx vy).run P w = .ok b w := by
  intro d
  induction d with
  | zero => intro j t x y b vx vy h; cases h
  | succ d ih =>
    intro j t x y b vx vy h hx hy
    rw [show d + 1 + j = (d + j) + 1 by omega]
    unfold eqAV at h
    split at h
    · rename_i hu
      obtain rfl := Option.some.inj h
      rw [rep_bool hx, rep_bool hy]
      simp [Op.equalIn, run_underlying hu]
    · rename_i hu
      split at h
      · rename_i hk
        obtain rfl := Option.some.inj h
        rw [rep_int hx, rep_int hy]
        simp [Op.equalIn, run_underlying hu, hk]
      · cases h
    · rename_i hu
      obtain rfl := Option.some.inj h
      rw [rep_str hx, rep_str hy]
      simp [Op.equalIn, run_underlying hu]
    · rename_i fs xs ys hu
      split at h
      · cases h
      · rename_i hst
        have hst : P.stoodInHeld t = false := by simpa using hst
        obtain ⟨vs, rfl, hvs, hvr⟩ := rep_agg hx
        obtain ⟨us, rfl, hus, hur⟩ := rep_agg hy
        have hf : P.fieldsOf t = fs := by unfold Program.fieldsOf; rw [hu]
        rw [run_equalIn_struct w (d + j) t vs us (by rw [hf]; exact hu) hst, hf]
        clear hu hf
        revert h
        generalize fs.toList = l
        induction l generalizing b with
        | nil =>
          intro h
          simp only [eqF] at h
          obtain rfl := Option.some.inj h
          simp [Op.eqFields]
        | cons f l ihl =>
          intro h
          simp only [eqF] at h
          simp only [Op.eqFields]
          split at h
          · rename_i hn
            rw [if_pos hn]
            split at h
            · rename_i px py hpx hpy
              obtain ⟨v1, r1, q1⟩ := run_part hpx hvs hvr
              obtain ⟨v2, r2, q2⟩ := run_part hpy hus hur
              split at h
              · rename_i b1 b2 he hr
                obtain rfl := Option.some.inj h
                have := ih j f.type px py b1 v1 v2 he q1 q2
                simp only [Sem.run_bind, r1, Result.andThen_ok, r2, this]
                cases b1
                · simp
                · simpa using ihl _ hr
              · cases h
            · cases h
          · rename_i hn
            rw [if_neg hn]
            exact ihl _ h
    · rename_i hu
      obtain rfl := Option.some.inj h
      rw [rep_nilptr hx, rep_nilptr hy]
      simp [Op.equalIn, run_underlying hu]
    · rename_i hu
      obtain rfl := Option.some.inj h
      rw [rep_nilptr hx, (rep_ptr hy).1]
      simp [Op.equalIn, run_underlying hu]
    · rename_i hu
      obtain rfl := Option.some.inj h
      rw [rep_nilptr hy, (rep_ptr hx).1]
      simp [Op.equalIn, run_underlying hu]
    · rename_i hu
      obtain rfl := Option.some.inj h
      rw [rep_nilslice hx, rep_nilslice hy]
      simp [Op.equalIn, run_underlying hu]
    · rename_i hu
      obtain rfl := Option.some.inj h
      obtain ⟨b, o, cap, k, x, rfl, _⟩ := rep_list_at hx (by simp)
      rw [rep_nilslice hy]
      simp [Op.equalIn, run_underlying hu]
    · rename_i hu
      obtain rfl := Option.some.inj h
      rw [rep_nilmap hx, rep_nilmap hy]
      simp [Op.equalIn, run_underlying hu]
    · rename_i hu
      obtain rfl := Option.some.inj h
      obtain ⟨u, rfl, _⟩ := rep_iface hy
      rw [rep_niliface hx]
      simp [Op.equalIn, run_underlying hu]
    · rename_i hu
      obtain rfl := Option.some.inj h
      obtain ⟨u, rfl, _⟩ := rep_iface hx
      rw [rep_niliface hy]
      simp [Op.equalIn, run_underlying hu]
    · rename_i hu
      obtain ⟨u1, rfl, q1⟩ := rep_iface hx
      obtain ⟨u2, rfl, q2⟩ := rep_iface hy
      split at h
      · rename_i ht
        subst ht
        split at h
        · rename_i i hi
          split at h
          · rename_i hc
            have := ih j _ _ _ _ _ _ h q1 q2
            simp [Op.equalIn, run_underlying hu, run_typeInfo hi, hc, this]
          · cases h
        · cases h
      · rename_i ht
        obtain rfl := Option.some.inj h
        simp [Op.equalIn, run_underlying hu, ht]
    · rename_i hu
      obtain rfl := Option.some.inj h
      rw [rep_nilfunc hx, rep_nilfunc hy]
      simp [Op.equalIn, run_underlying hu]
    · rename_i hu
      obtain rfl := Option.some.inj h
      obtain ⟨ps, cs, rfl, _⟩ := rep_func hx
      rw [rep_nilfunc hy]
      simp [Op.equalIn, run_underlying hu]
    · cases h

theorem evEq_ok {t : TypeId} {x y : AV} {c : Bool} {vx vy : Value} {ox oy : Operand} (h : evEq P t x y = some c) (hx : Rep A m ρ w x vx) (hy : Rep A m ρ w y vy) :
    (do eqGuard .eql t ox oy vx vy; binOp .eql t vx vy : Sem Value).run P w = .ok (.bool c) w ∧ (do eqGuard .neq t ox oy vx vy; binOp .neq t vx vy : Sem Value).run P w = .ok (.bool (!c)) w := by
  unfold evEq at h
  split at h
  · split at h
    · cases h
    · rename_i hg
      have hg : P.eqGuardType P.depth t = false := by simpa using hg
      have := eqAV_ok 20 9980 t _ _ c vx vy h hx hy
      obtain ⟨vs, rfl, _⟩ := rep_agg hx
      obtain ⟨us, rfl, _⟩ := rep_agg hy
      simp [run_eqGuard_agg, hg, run_eql_struct, run_neq_struct, this]
  · have := eqAV_ok 20 9980 t _ _ c vx vy h hx hy
    rw [rep_bool hx, rep_bool hy] at this ⊢
    simp [eqGuard_at_bool, binOp, Op.equal, Op.maxDepth, this]
  · have := eqAV_ok 20 9980 t _ _ c vx vy h hx hy
    rw [rep_nilptr hx, rep_nilptr hy] at this ⊢
    simp [eqGuard_at_pointer, binOp, Op.equal, Op.maxDepth, this]
  · have := eqAV_ok 20 9980 t _ _ c vx vy h hx hy
    rw [rep_nilptr hx, (rep_ptr hy).1] at this ⊢
    simp [eqGuard_at_pointer, binOp, Op.equal, Op.maxDepth, this]
  · have := eqAV_ok 20 9980 t _ _ c vx vy h hx hy
    rw [rep_nilptr hy, (rep_ptr hx).1] at this ⊢
    simp [eqGuard_at_pointer, binOp, Op.equal, Op.maxDepth, this]
  · have := eqAV_ok 20 9980 t _ _ c vx vy h hx hy
    rw [rep_nilslice hy, rep_nilslice hx] at this ⊢
    simp [eqGuard_at_slice, binOp, Op.equal, Op.maxDepth, this]
  · have := eqAV_ok 20 9980 t _ _ c vx vy h hx hy
    obtain ⟨b, o, cap, k, x, rfl, _⟩ := rep_list_at hx (by simp)
    rw [rep_nilslice hy] at this ⊢
    simp only [Sem.run_bind, eqGuard_at_slice, Sem.run_pure, Result.andThen_ok, binOp, Op.equal, Op.maxDepth]
    rw [this]; simp
  · have := eqAV_ok 20 9980 t _ _ c vx vy h hx hy
    rw [rep_nilmap hy, rep_nilmap hx] at this ⊢
    simp [eqGuard_at_map, binOp, Op.equal, Op.maxDepth, this]
  · have := eqAV_ok 20 9980 t _ _ c vx vy h hx hy
    rw [rep_nilfunc hy, rep_nilfunc hx] at this ⊢
    simp [eqGuard_at_nilFunc, binOp, Op.equal, Op.maxDepth, this]
  · have := eqAV_ok 20 9980 t _ _ c vx vy h hx hy
    obtain ⟨ps, cs, rfl, _⟩ := rep_func hx
    rw [rep_nilfunc hy] at this ⊢
    simp [eqGuard_at_func, binOp, Op.equal, Op.maxDepth, this]
  · obtain rfl := Option.some.inj h
    rw [rep_str hx, rep_str hy]
    simp [eqGuard_at_string, binOp, Op.stringOp, beq_toListBytes]
  · have := eqAV_ok 20 9980 t _ _ c vx vy h hx hy
    obtain ⟨u, rfl, _⟩ := rep_iface hy
    rw [rep_niliface hx] at this ⊢
    simp [eqGuard, binOp, Op.equal, Op.maxDepth, this]
  · have := eqAV_ok 20 9980 t _ _ c vx vy h hx hy
    obtain ⟨u, rfl, _⟩ := rep_iface hx
    rw [rep_niliface hy] at this ⊢
    simp [eqGuard, binOp, Op.equal, Op.maxDepth, this]
  · have := eqAV_ok 20 9980 t _ _ c vx vy h hx hy
    obtain ⟨u, rfl, _⟩ := rep_iface hx
    obtain ⟨u', rfl, _⟩ := rep_iface hy
    simp [eqGuard, binOp, Op.equal, Op.maxDepth, this]
  · cases h

theorem eqGuard_nil {op : BinOp} {t : TypeId} {ox oy : Operand} (hk : (isConst ox || isConst oy) = true) : (eqGuard op t ox oy .nilIface .nilIface).run P w = .ok () w := by
  cases ox <;> cases oy <;> first | (simp [isConst] at hk; done) | (cases op <;> simp [eqGuard])
theorem eq_nil (d : Nat) {t : TypeId} {ms : Array (String × TypeId)} (hu : P.underlying t = some (.interface ms)) : (Op.equalIn (d + 1) t .nilIface .nilIface).run P w = .ok true w := by
  simp [Op.equalIn, run_underlying hu]

theorem evBin_ok {op : BinOp} {t : TypeId} {x y r : AV} {ob : List Prop} {vx vy : Value} {ox oy : Operand} (h : evBin P op t (isConst ox || isConst oy) x y = some (r, ob)) (hob : AllP ob) (hx : Rep A m ρ w x vx) (hy : Rep A m ρ w y vy) :
    (∃ v, (do eqGuard op t ox oy vx vy; binOp op t vx vy : Sem Value).run P w = .ok v w ∧ Rep A m ρ w r v) := by
  have gi : ∀ (k : IntKind) (n : Int) (v : Value), (eqGuard op t ox oy (.int k n) v).run P w = .ok () w := fun k n v => by rw [eqGuard_at_int]; rfl
  unfold evBin at h
  split at h
  · split at h
    · rename_i hk
      split at h
      · rename_i ms hu
        cases h
        rw [rep_niliface hx, rep_niliface hy]
        have he : (Op.equalIn 10000 t .nilIface .nilIface).run P w = .ok true w := eq_nil 9999 hu
        refine ⟨_, ?_, .base (.bool _)⟩
        simp only [Sem.run_bind, eqGuard_nil hk, Result.andThen_ok]
        simp [binOp, Op.equal, Op.maxDepth, he]
      · cases h
    · cases h
  · split at h
    · rename_i hk
      split at h
      · rename_i ms hu
        cases h
        rw [rep_niliface hx, rep_niliface hy]
        have he : (Op.equalIn 10000 t .nilIface .nilIface).run P w = .ok true w := eq_nil 9999 hu
        refine ⟨_, ?_, .base (.bool _)⟩
        simp only [Sem.run_bind, eqGuard_nil hk, Result.andThen_ok]
        simp [binOp, Op.equal, Op.maxDepth, he]
      · cases h
    · cases h
  · cases h
    rw [rep_int hx, rep_int hy]
    have hy0 : (0 : Int) ≤ _ := hob.1
    refine ⟨_, by simp only [Sem.run_bind, eqGuard_at_int, Sem.run_pure, Result.andThen_ok, binOp, Op.shift, if_neg (Int.not_lt.2 hy0)], .base (.int _ _)⟩
  · cases h
    rw [rep_int hx, rep_int hy]
    have hy0 : (0 : Int) ≤ _ := hob.1
    refine ⟨_, by simp only [Sem.run_bind, eqGuard_at_int, Sem.run_pure, Result.andThen_ok, binOp, Op.shift, if_neg (Int.not_lt.2 hy0)], .base (.int _ _)⟩
  · split at h
    · rename_i hk
      subst hk
      rw [rep_int hx, rep_int hy]
      obtain ⟨v, h1, h2⟩ := binI_ok (A := A) (m := m) (ρ := ρ) (w := w) (P := P) t h hob
      exact ⟨v, by simp [eqGuard_at_int, h1], .base h2⟩
    · cases h
  · obtain ⟨c, h1, h2⟩ := Option.map_eq_some_iff.1 h
    cases h2
    exact ⟨_, (evEq_ok h1 hx hy).1, .base (.bool _)⟩
  · obtain ⟨c, h1, h2⟩ := Option.map_eq_some_iff.1 h
    cases h2
    exact ⟨_, (evEq_ok h1 hx hy).2, .base (.bool _)⟩
  · cases h

end
end Go.Proofs.Ytkijlggnnbdeiaa
