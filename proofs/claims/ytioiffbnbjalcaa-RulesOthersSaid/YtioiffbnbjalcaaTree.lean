/- Expressions and conditions as plain data, how they lie in memory, and what the functions of package num compute of them. -/
import Derived.Test.YtioiffbnbjalcaaBase
import Derived.Below
import Derived.Lib.Hide
set_option linter.unusedVariables false
set_option linter.unusedSimpArgs false
namespace Go.Proofs.Ytioiffbnbjalcaa
open Go.RowKit

/-- An expression. -/
inductive Ex where
  | mk (op n v : Int) (a : List Ex)

def Ex.op : Ex → Int | .mk op _ _ _ => op
def Ex.n : Ex → Int | .mk _ n _ _ => n
def Ex.v : Ex → Int | .mk _ _ v _ => v
def Ex.a : Ex → List Ex | .mk _ _ _ a => a

/-- A condition. -/
inductive Co where
  | mk (op : Int) (a : List Ex) (c : List Co)

def Co.op : Co → Int | .mk op _ _ => op
def Co.a : Co → List Ex | .mk _ a _ => a
def Co.c : Co → List Co | .mk _ _ c => c

mutual
/-- Its number of nodes. -/
def Ex.nodes : Ex → Nat
  | .mk _ _ _ a => Ex.nodesL a + 1
def Ex.nodesL : List Ex → Nat
  | [] => 0
  | e :: l => Ex.nodes e + Ex.nodesL l
end

mutual
def Co.nodes : Co → Nat
  | .mk _ a c => Ex.nodesL a + Co.nodesL c + 1
def Co.nodesL : List Co → Nat
  | [] => 0
  | e :: l => Co.nodes e + Co.nodesL l
end

theorem Ex.nodes_pos (e : Ex) : 1 ≤ e.nodes := by cases e; simp [Ex.nodes]
theorem Co.nodes_pos (e : Co) : 1 ≤ e.nodes := by cases e; simp [Co.nodes]
theorem Ex.nodes_a (e : Ex) : e.nodes = Ex.nodesL e.a + 1 := by cases e; simp [Ex.nodes, Ex.a]
theorem Co.nodes_ac (e : Co) : e.nodes = Ex.nodesL e.a + Co.nodesL e.c + 1 := by cases e; simp [Co.nodes, Co.a, Co.c]
theorem Ex.nodes_mem {x : Ex} : ∀ {l : List Ex}, x ∈ l → x.nodes ≤ Ex.nodesL l
  | [], h => by cases h
  | y :: l, h => by
    rcases List.mem_cons.1 h with rfl | h
    · simp [Ex.nodesL]
    · have := Ex.nodes_mem h; simp [Ex.nodesL]; omega
theorem Co.nodes_mem {x : Co} : ∀ {l : List Co}, x ∈ l → x.nodes ≤ Co.nodesL l
  | [], h => by cases h
  | y :: l, h => by
    rcases List.mem_cons.1 h with rfl | h
    · simp [Co.nodesL]
    · have := Co.nodes_mem h; simp [Co.nodesL]; omega
theorem Ex.nodes_lt {e x : Ex} (h : x ∈ e.a) : x.nodes < e.nodes := by
  have := Ex.nodes_mem h; rw [e.nodes_a]; omega
theorem Co.nodes_lt {e x : Co} (h : x ∈ e.c) : x.nodes < e.nodes := by
  have := Co.nodes_mem h; rw [e.nodes_ac]; omega
theorem Co.nodes_lt_a {e : Co} {x : Ex} (h : x ∈ e.a) : x.nodes < e.nodes := by
  have := Ex.nodes_mem h; rw [e.nodes_ac]; omega
theorem Ex.length_le (l : List Ex) : l.length ≤ Ex.nodesL l := by
  induction l with
  | nil => simp
  | cons x l ih => have := x.nodes_pos; simp [Ex.nodesL]; omega

/-- The expression that stands for a missing one. -/
def exNone : Ex := .mk 0 0 0 []
def coNone : Co := .mk 0 [] []

/-- An element at a place that is a whole number. -/
def getE (l : List Ex) (i : Int) : Ex := if 0 ≤ i then l.getD i.toNat exNone else exNone
def getC (l : List Co) (i : Int) : Co := if 0 ≤ i then l.getD i.toNat coNone else coNone
def getI (l : List Int) (i : Int) : Int := if 0 ≤ i then l.getD i.toNat 0 else 0

/-! ### How they lie in memory -/

/-- All cells hold what they held. -/
def Keeps (w w' : World) : Prop := ∀ a v, w.cell? a = some v → w'.cell? a = some v

theorem Keeps.refl (w : World) : Keeps w w := fun _ _ h => h
theorem Keeps.trans {a b c : World} (h : Keeps a b) (k : Keeps b c) : Keeps a c := fun p v x => k p v (h p v x)
theorem keepsOf {w w' : World} (h : Below w.heap.size w w') : Keeps w w' := fun a v x => by
  rw [h.cell (World.block_lt_of_cell? w a x)]; exact x
theorem Keeps.alloc (w : World) (o : Obj) : Keeps w (w.alloc o) := keepsOf ((Below.refl _ _).alloc (Nat.le_refl _) o)

theorem Keeps.drew {w w' : World} (h : Keeps w w') : Keeps w w'.drew := fun p v x => h p v x
theorem Keeps.al {w w' : World} (h : Keeps w w') (o : Obj) : Keeps w (w'.alloc o) := h.trans (Keeps.alloc _ _)

/-- An expression that lies in four cells. -/
def ExCells (w : World) (b o : Nat) (op n v : Int) (s : Value) : Prop :=
  w.cell? ⟨b, o, none⟩ = some (.int .i64 op) ∧ w.cell? ⟨b, o + 1, none⟩ = some (.int .i64 n) ∧ w.cell? ⟨b, o + 2, none⟩ = some (.int .i64 v) ∧ w.cell? ⟨b, o + 3, none⟩ = some s

theorem ExCells.keep {w w' : World} (k : Keeps w w') {b o : Nat} {op n v : Int} {s : Value} (h : ExCells w b o op n v s) : ExCells w' b o op n v s :=
  ⟨k _ _ h.1, k _ _ h.2.1, k _ _ h.2.2.1, k _ _ h.2.2.2⟩

/-- A list of expressions that a slice holds, whose pointer and capacity are a and cap. -/
inductive ExsV (w : World) : List Ex → Option Addr → Nat → Prop where
  | empty (a : Option Addr) (cap : Nat) (hc : cap ≤ maxLen) (ha : a = none → cap = 0) : ExsV w [] a cap
  | row (l : List Ex) (b off cap : Nat) (ka : Nat → Option Addr) (kc : Nat → Nat) (hl : l.length ≤ cap) (hc : cap ≤ maxLen)
      (hx : ∀ i (h : i < l.length), ExCells w b (off + i * 4) l[i].op l[i].n l[i].v (.slice (ka i) l[i].a.length (kc i)))
      (hk : ∀ i (h : i < l.length), ExsV w l[i].a (ka i) (kc i)) : ExsV w l (some ⟨b, off, none⟩) cap

theorem ExsV.keep {w w' : World} (k : Keeps w w') {l : List Ex} {a : Option Addr} {cap : Nat} (h : ExsV w l a cap) : ExsV w' l a cap := by
  induction h with
  | empty a cap hc ha => exact .empty a cap hc ha
  | row l b off cap ka kc hl hc hx hk ih => exact .row l b off cap ka kc hl hc (fun i h => (hx i h).keep k) ih

theorem ExsV.cap_le {w : World} {l : List Ex} {a : Option Addr} {cap : Nat} (h : ExsV w l a cap) : l.length ≤ cap ∧ cap ≤ maxLen := by
  cases h with
  | empty hc ha => exact ⟨Nat.zero_le _, ‹_›⟩
  | row => exact ⟨‹_›, ‹_›⟩

theorem ExsV.nil_cap {w : World} {l : List Ex} {a : Option Addr} {cap : Nat} (h : ExsV w l a cap) (ha : a = none) : cap = 0 := by
  cases h with
  | empty _ _ hc hn => exact hn ha
  | row => cases ha

theorem ExsV.elem {w : World} {l : List Ex} {a : Option Addr} {cap : Nat} (h : ExsV w l a cap) (k : Nat) (hk : k < l.length) :
    ∃ b off ya yc, a = some ⟨b, off, none⟩ ∧ ExCells w b (off + k * 4) l[k].op l[k].n l[k].v (.slice ya l[k].a.length yc) ∧ ExsV w l[k].a ya yc := by
  cases h with
  | empty => simp at hk
  | row _ b off _ ka kc hl hc hx hk' => exact ⟨b, off, ka k, kc k, rfl, hx k hk, hk' k hk⟩

/-- A condition that lies in three cells. -/
def CoCells (w : World) (b o : Nat) (op : Int) (s t : Value) : Prop :=
  w.cell? ⟨b, o, none⟩ = some (.int .i64 op) ∧ w.cell? ⟨b, o + 1, none⟩ = some s ∧ w.cell? ⟨b, o + 2, none⟩ = some t

theorem CoCells.keep {w w' : World} (k : Keeps w w') {b o : Nat} {op : Int} {s t : Value} (h : CoCells w b o op s t) : CoCells w' b o op s t :=
  ⟨k _ _ h.1, k _ _ h.2.1, k _ _ h.2.2⟩

inductive CosV (w : World) : List Co → Option Addr → Nat → Prop where
  | empty (a : Option Addr) (cap : Nat) (hc : cap ≤ maxLen) (ha : a = none → cap = 0) : CosV w [] a cap
  | row (l : List Co) (b off cap : Nat) (xa ka : Nat → Option Addr) (xc kc : Nat → Nat) (hl : l.length ≤ cap) (hc : cap ≤ maxLen)
      (hx : ∀ i (h : i < l.length), CoCells w b (off + i * 3) l[i].op (.slice (xa i) l[i].a.length (xc i)) (.slice (ka i) l[i].c.length (kc i)))
      (he : ∀ i (h : i < l.length), ExsV w l[i].a (xa i) (xc i))
      (hk : ∀ i (h : i < l.length), CosV w l[i].c (ka i) (kc i)) : CosV w l (some ⟨b, off, none⟩) cap

theorem CosV.keep {w w' : World} (k : Keeps w w') {l : List Co} {a : Option Addr} {cap : Nat} (h : CosV w l a cap) : CosV w' l a cap := by
  induction h with
  | empty a cap hc ha => exact .empty a cap hc ha
  | row l b off cap xa ka xc kc hl hc hx he hk ih => exact .row l b off cap xa ka xc kc hl hc (fun i h => (hx i h).keep k) (fun i h => (he i h).keep k) ih

theorem CosV.cap_le {w : World} {l : List Co} {a : Option Addr} {cap : Nat} (h : CosV w l a cap) : l.length ≤ cap ∧ cap ≤ maxLen := by
  cases h with
  | empty hc ha => exact ⟨Nat.zero_le _, ‹_›⟩
  | row => exact ⟨‹_›, ‹_›⟩

theorem CosV.nil_cap {w : World} {l : List Co} {a : Option Addr} {cap : Nat} (h : CosV w l a cap) (ha : a = none) : cap = 0 := by
  cases h with
  | empty _ _ hc hn => exact hn ha
  | row => cases ha

theorem CosV.elem {w : World} {l : List Co} {a : Option Addr} {cap : Nat} (h : CosV w l a cap) (k : Nat) (hk : k < l.length) :
    ∃ b off ya yc za zc, a = some ⟨b, off, none⟩ ∧ CoCells w b (off + k * 3) l[k].op (.slice ya l[k].a.length yc) (.slice za l[k].c.length zc) ∧ ExsV w l[k].a ya yc ∧ CosV w l[k].c za zc := by
  cases h with
  | empty => simp at hk
  | row _ b off _ xa ka xc kc hl hc hx he hk' => exact ⟨b, off, xa k, xc k, ka k, kc k, rfl, hx k hk, he k hk, hk' k hk⟩

/-- A list of whole numbers that a slice holds. -/
def IntsV (w : World) (l : List Int) (a : Option Addr) (cap : Nat) : Prop :=
  l.length ≤ cap ∧ cap ≤ maxLen ∧ (a = none → cap = 0) ∧ (0 < l.length → ∃ b off, a = some ⟨b, off, none⟩ ∧ ∀ i (h : i < l.length), w.cell? ⟨b, off + i, none⟩ = some (.int .i64 l[i]))

theorem IntsV.keep {w w' : World} (k : Keeps w w') {l : List Int} {a : Option Addr} {cap : Nat} (h : IntsV w l a cap) : IntsV w' l a cap :=
  ⟨h.1, h.2.1, h.2.2.1, fun hp => by obtain ⟨b, off, e, hc⟩ := h.2.2.2 hp; exact ⟨b, off, e, fun i hi => k _ _ (hc i hi)⟩⟩

theorem IntsV.nil (w : World) : IntsV w [] none 0 := ⟨Nat.le_refl _, by unfold maxLen; omega, fun _ => rfl, fun h => by simp at h⟩

/-- A condition by value: what its slices hold. -/
structure CoV (w : World) (c : Co) (xa : Option Addr) (xc : Nat) (ka : Option Addr) (kc : Nat) : Prop where
  a : ExsV w c.a xa xc
  c : CosV w c.c ka kc

theorem CoV.keep {w w' : World} (k : Keeps w w') {c : Co} {xa ka : Option Addr} {xc kc : Nat} (h : CoV w c xa xc ka kc) : CoV w' c xa xc ka kc := ⟨h.a.keep k, h.c.keep k⟩

def exVal (e : Ex) (a : Option Addr) (cap : Nat) : Value := .agg #[.int .i64 e.op, .int .i64 e.n, .int .i64 e.v, .slice a e.a.length cap]
def coVal (c : Co) (xa : Option Addr) (xc : Nat) (ka : Option Addr) (kc : Nat) : Value := .agg #[.int .i64 c.op, .slice xa c.a.length xc, .slice ka c.c.length kc]

theorem ExsV.nilv (w : World) : ExsV w [] none 0 := .empty none 0 (by unfold maxLen; omega) (fun _ => rfl)
theorem CosV.nilv (w : World) : CosV w [] none 0 := .empty none 0 (by unfold maxLen; omega) (fun _ => rfl)

theorem exsV_two {w : World} {b : Nat} {x y : Ex} {xa ya : Option Addr} {xc yc : Nat} (hx : ExCells w b 0 x.op x.n x.v (.slice xa x.a.length xc)) (hy : ExCells w b 4 y.op y.n y.v (.slice ya y.a.length yc))
    (kx : ExsV w x.a xa xc) (ky : ExsV w y.a ya yc) : ExsV w [x, y] (some ⟨b, 0, none⟩) 2 := by
  refine .row [x, y] b 0 2 (fun i => if i = 0 then xa else ya) (fun i => if i = 0 then xc else yc) (by simp) (by unfold maxLen; omega) ?_ ?_
  · intro i hi
    match i, hi with
    | 0, _ => simpa using hx
    | 1, _ => simpa using hy
  · intro i hi
    match i, hi with
    | 0, _ => simpa using kx
    | 1, _ => simpa using ky

theorem cosV_one {w : World} {b : Nat} {x : Co} {xa ka : Option Addr} {xc kc : Nat} (hx : CoCells w b 0 x.op (.slice xa x.a.length xc) (.slice ka x.c.length kc)) (h : CoV w x xa xc ka kc) : CosV w [x] (some ⟨b, 0, none⟩) 1 := by
  refine .row [x] b 0 1 (fun _ => xa) (fun _ => ka) (fun _ => xc) (fun _ => kc) (by simp) (by unfold maxLen; omega) ?_ ?_ ?_
  · intro i hi
    match i, hi with
    | 0, _ => simpa using hx
  · intro i hi
    match i, hi with
    | 0, _ => simpa using h.a
  · intro i hi
    match i, hi with
    | 0, _ => simpa using h.c

theorem cosV_two {w : World} {b : Nat} {x y : Co} {xa ka ya la : Option Addr} {xc kc yc lc : Nat} (hx : CoCells w b 0 x.op (.slice xa x.a.length xc) (.slice ka x.c.length kc)) (hy : CoCells w b 3 y.op (.slice ya y.a.length yc) (.slice la y.c.length lc))
    (h : CoV w x xa xc ka kc) (k : CoV w y ya yc la lc) : CosV w [x, y] (some ⟨b, 0, none⟩) 2 := by
  refine .row [x, y] b 0 2 (fun i => if i = 0 then xa else ya) (fun i => if i = 0 then ka else la) (fun i => if i = 0 then xc else yc) (fun i => if i = 0 then kc else lc) (by simp) (by unfold maxLen; omega) ?_ ?_ ?_
  · intro i hi
    match i, hi with
    | 0, _ => simpa using hx
    | 1, _ => simpa using hy
  · intro i hi
    match i, hi with
    | 0, _ => simpa using h.a
    | 1, _ => simpa using k.a
  · intro i hi
    match i, hi with
    | 0, _ => simpa using h.c
    | 1, _ => simpa using k.c

end Go.Proofs.Ytioiffbnbjalcaa
