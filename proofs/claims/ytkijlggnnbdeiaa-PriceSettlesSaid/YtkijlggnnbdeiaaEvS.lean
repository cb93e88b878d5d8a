/- How arguments that can be read lie in a world: any type of whole numbers, truth values, strings, structs, arrays and slices of them. For every program. -/
import Derived.Test.YtkijlggnnbdeiaaEvR
import Derived.ChangeArms
import Derived.OpenShut
set_option linter.unusedVariables false
set_option linter.unusedSimpArgs false
namespace Go.Proofs.Ytkijlggnnbdeiaa
open Go.RowKit Go.WideShapes Go.ChangeShapes

def tileS (P : Program) (S : List TypeId) : Nat → List Field → Nat → Bool
  | o, [], n => Nat.beq o n
  | o, f :: fs, n => Nat.beq f.offset o && S.contains f.type && tileS P S (o + P.cellsOf f.type) fs n
def okS (P : Program) (S : List TypeId) (t : TypeId) : Bool := match P.underlying t with
  | some .bool | some (.int _) | some .string => Nat.beq (P.cellsOf t) 1
  | some (.slice e) => S.contains e && Nat.ble 1 (P.cellsOf e) && Nat.beq (P.cellsOf t) 1
  | some (.struct fs) => tileS P S 0 fs.toList (P.cellsOf t)
  | some (.array n e) => S.contains e && Nat.beq (P.cellsOf t) (n * P.cellsOf e)
  | _ => false

mutual
/-- Cells of a type. -/
def TyC (P : Program) : Nat → TypeId → List AV → Prop
  | 0, _, _ => False
  | d + 1, t, cs => match P.underlying t with
    | some .bool => ∃ b, cs = [.bool b]
    | some (.int k) => ∃ n, cs = [.int k n] ∧ k.min ≤ n ∧ n ≤ k.max
    | some .string => ∃ s, cs = [.str s] ∧ s.size ≤ maxLen
    | some (.slice e) => ∃ l, cs = [.list l] ∧ l.length ≤ maxLen ∧ ∀ y ∈ l, TyV P d e y
    | some (.struct fs) => TyF P d fs.toList cs
    | some (.array n e) => TyA P d e n cs
    | _ => False
  termination_by d _ _ => (d, 0, 0)
/-- A value of a type. -/
def TyV (P : Program) (d : Nat) (t : TypeId) (x : AV) : Prop := match P.underlying t with
  | some (.struct _) | some (.array _ _) => ∃ cs, x = .agg cs ∧ TyC P d t cs
  | _ => TyC P d t [x]
  termination_by (d, 1, 0)
def TyF (P : Program) (d : Nat) : List Field → List AV → Prop
  | [], cs => cs = []
  | f :: fs, cs => ∃ c1 c2, cs = c1 ++ c2 ∧ TyC P d f.type c1 ∧ TyF P d fs c2
  termination_by fs _ => (d, 2, fs.length)
def TyA (P : Program) (d : Nat) (e : TypeId) : Nat → List AV → Prop
  | 0, cs => cs = []
  | n + 1, cs => ∃ c1 c2, cs = c1 ++ c2 ∧ TyC P d e c1 ∧ TyA P d e n c2
  termination_by n _ => (d, 2, n)
end

section
variable {P : Program} {H : Type} {enc : TypeId × Value → H} {w : World} {base : Nat} {spare : Nat → Bool} {held : Bool}

/-- Cells that lie as values. -/
def LiesC (w : World) (acs : List AV) (cs : List Value) : Prop := acs.length = cs.length ∧ ∀ i c, acs[i]? = some c → RI w (fun b => b < w.heap.size) c (cs.getD i undef)

theorem LiesC.one {x : AV} {v : Value} (h : RI w (fun b => b < w.heap.size) x v) : LiesC w [x] [v] := ⟨rfl, fun i c hc => by
  cases i with
  | zero => simp at hc; subst hc; exact h
  | succ i => simp at hc⟩
theorem LiesC.app {a b : List AV} {u v : List Value} (h : LiesC w a u) (k : LiesC w b v) : LiesC w (a ++ b) (u ++ v) := by
  refine ⟨by simp [h.1, k.1], fun i c hc => ?_⟩
  by_cases hi : i < a.length
  · rw [List.getElem?_append_left hi] at hc
    have := h.2 i c hc
    rwa [List.getD_eq_getElem?_getD, List.getElem?_append_left (by rw [← h.1]; exact hi), ← List.getD_eq_getElem?_getD]
  · rw [List.getElem?_append_right (by omega)] at hc
    have := k.2 _ c hc
    rwa [List.getD_eq_getElem?_getD, List.getElem?_append_right (by rw [← h.1]; omega), ← h.1, ← List.getD_eq_getElem?_getD]

theorem ex_list {α : Type} {p : Nat → α → Prop} : ∀ (n : Nat), (∀ i, i < n → ∃ y, p i y) → ∃ l : List α, l.length = n ∧ ∀ i y, l[i]? = some y → p i y
  | 0, _ => ⟨[], rfl, fun i y h => by simp at h⟩
  | n + 1, h => by
    obtain ⟨l, h1, h2⟩ := ex_list n (fun i hi => h i (by omega))
    obtain ⟨y, hy⟩ := h n (by omega)
    refine ⟨l ++ [y], by simp [h1], fun i z hz => ?_⟩
    by_cases hi : i < l.length
    · rw [List.getElem?_append_left hi] at hz; exact h2 i z hz
    · rw [List.getElem?_append_right (by omega)] at hz
      have : i - l.length = 0 := by
        have := (List.getElem?_eq_some_iff.1 hz).1
        simp at this; omega
      rw [this] at hz
      simp at hz; subst hz
      rw [show i = n by omega]; exact hy

theorem spot_plain {a : Addr} {o : Nat} {v : Value} (h : w.cell? (a.add o) = some v) (h0 : o = 0) : a.spot = none := by
  subst h0
  have h1 : w.cell? a = some v := by simpa [Addr.add] using h
  unfold World.cell? at h1
  split at h1
  · split at h1
    · cases h1
    · rename_i hs; simpa using hs
  · cases h1

theorem mapM_get {α β : Type} {f : α → Option β} : ∀ {l : List α} {ys : List β}, l.mapM f = some ys → ys.length = l.length ∧ ∀ (i : Nat) (x : α), l[i]? = some x → f x = ys[i]?
  | [], ys, h => by simp at h; subst h; exact ⟨rfl, fun i x hx => by simp at hx⟩
  | a :: l, ys, h => by
    rw [List.mapM_cons] at h
    cases ha : f a with
    | none => rw [ha] at h; cases h
    | some b =>
      rw [ha] at h
      cases hl : l.mapM f with
      | none => rw [hl] at h; cases h
      | some bs =>
        rw [hl] at h
        cases h
        obtain ⟨h1, h2⟩ := mapM_get hl
        refine ⟨by simp [h1], fun i x hx => ?_⟩
        cases i with
        | zero => simp at hx; subst hx; simpa using ha
        | succ i => simpa using h2 i x (by simpa using hx)

theorem cells_get {a : Addr} {n : Nat} {cs : List Value} (h : w.cells? base a n = some cs) : cs.length = n ∧ ∀ i, i < n → w.cell? (a.add i) = cs[i]? := by
  unfold World.cells? at h
  split at h
  · obtain ⟨h1, h2⟩ := mapM_get h
    exact ⟨by simpa using h1, fun i hi => h2 i i (by simp [hi])⟩
  · cases h

theorem read_cells {S : List TypeId} (hS : S.all (okS P S) = true) : ∀ (fuel : Nat) (t : TypeId) (cs : List Value) (x : DataW H × List MemPlace), t ∈ S → DataW.trod enc P w base spare held fuel t cs = some x → ∃ acs, LiesC w acs cs ∧ acs.length = P.cellsOf t ∧ TyC P fuel t acs := by
  intro fuel
  induction fuel with
  | zero => intro t cs x _ h; simp [DataW.trod] at h
  | succ d ih =>
    intro t cs x ht h
    have hok := List.all_eq_true.1 hS t ht
    unfold okS at hok
    unfold TyC
    cases hu : P.underlying t with
    | none => rw [hu] at hok; cases hok
    | some ds =>
      rw [hu] at hok
      cases ds with
      | bool =>
        obtain ⟨b, rfl, _⟩ := DataW.trod_bool hu h
        exact ⟨[.bool b], .one (.bool b), (Nat.eq_of_beq_eq_true hok).symm, b, rfl⟩
      | int k =>
        obtain ⟨n, rfl, _, hw⟩ := DataW.trod_int hu h
        refine ⟨[.int k n], .one (.int k n), (Nat.eq_of_beq_eq_true hok).symm, n, rfl, ?_⟩
        simpa [Lit.wf] using hw
      | string =>
        obtain ⟨s, rfl, _, hw⟩ := DataW.trod_string hu h
        exact ⟨[.str s], .one (.str s), (Nat.eq_of_beq_eq_true hok).symm, s, rfl, hw⟩
      | slice e =>
        simp only [Bool.and_eq_true] at hok
        obtain ⟨⟨hoe, hoc⟩, hot⟩ := hok
        have hoe : e ∈ S := by simpa using hoe
        have hoc := Nat.le_of_ble_eq_true hoc
        have hot := Nat.eq_of_beq_eq_true hot
        rcases DataW.trod_slice hu h with ⟨rfl, _⟩ | ⟨a, len, cap, elems, rest, n, hn, rfl, _, hb, hl, hm, hlen, hel, _, _⟩
        · exact ⟨[.list []], .one (.lnil none 0 (fun _ => rfl)), hot.symm, [], rfl, Nat.zero_le _, fun y hy => by simp at hy⟩
        · obtain rfl : d = n := by omega
          have hone : ∀ i, i < len → ∃ y : AV, (cellsOf y).length = P.cellsOf e ∧ TyV P d e y ∧ ∀ j c, (cellsOf y)[j]? = some c → ∃ v, w.cell? ((a.add (i * P.cellsOf e)).add j) = some v ∧ RI w (fun b => b < w.heap.size) c v := fun i hi => by
            have h1 := hel i hi
            have h2 : elems[i]? = some (elems[i]'(by omega)) := List.getElem?_eq_getElem (by omega)
            rw [h2] at h1
            obtain ⟨cs', h3, h4⟩ := Option.bind_eq_some_iff.1 h1
            obtain ⟨h5, h6⟩ := cells_get h3
            obtain ⟨acs, h7, h8, h9⟩ := ih e cs' _ hoe h4
            have mk : ∀ y : AV, cellsOf y = acs → TyV P d e y → ∃ y : AV, (cellsOf y).length = P.cellsOf e ∧ TyV P d e y ∧ ∀ j c, (cellsOf y)[j]? = some c → ∃ v, w.cell? ((a.add (i * P.cellsOf e)).add j) = some v ∧ RI w (fun b => b < w.heap.size) c v := fun y hy ht => by
              refine ⟨y, by rw [hy]; exact h8, ht, fun j c hc => ?_⟩
              rw [hy] at hc
              have hj := (List.getElem?_eq_some_iff.1 hc).1
              refine ⟨cs'.getD j undef, ?_, h7.2 j c hc⟩
              rw [h6 j (by omega), List.getD_eq_getElem?_getD, List.getElem?_eq_getElem (by omega)]; rfl
            have hoke := List.all_eq_true.1 hS e hoe
            unfold okS at hoke
            cases hue : P.underlying e with
            | none => rw [hue] at hoke; cases hoke
            | some de =>
              rw [hue] at hoke
              have agg : (match P.underlying e with | some (.struct _) | some (.array _ _) => True | _ => False) → ∃ y : AV, (cellsOf y).length = P.cellsOf e ∧ TyV P d e y ∧ ∀ j c, (cellsOf y)[j]? = some c → ∃ v, w.cell? ((a.add (i * P.cellsOf e)).add j) = some v ∧ RI w (fun b => b < w.heap.size) c v := fun hag => by
                refine mk (.agg acs) rfl ?_
                unfold TyV
                split
                · exact ⟨acs, rfl, h9⟩
                · exact ⟨acs, rfl, h9⟩
                · rename_i h10 h11; rw [hue] at hag h10 h11
                  cases de <;> first | exact absurd rfl (h10 _) | exact absurd rfl (h11 _ _) | cases hag
              have sc : (∃ c, acs = [c] ∧ isCell c = true) → (match P.underlying e with | some (.struct _) | some (.array _ _) => False | _ => True) → ∃ y : AV, (cellsOf y).length = P.cellsOf e ∧ TyV P d e y ∧ ∀ j c, (cellsOf y)[j]? = some c → ∃ v, w.cell? ((a.add (i * P.cellsOf e)).add j) = some v ∧ RI w (fun b => b < w.heap.size) c v := fun ⟨c, hc, hic⟩ hns => by
                refine mk c (by rw [hc]; cases c <;> first | rfl | cases hic) ?_
                unfold TyV
                split
                · rename_i h10; rw [h10] at hns; exact hns.elim
                · rename_i h10; rw [h10] at hns; exact hns.elim
                · rw [← hc]; exact h9
              cases de with
              | struct fs => exact agg (by rw [hue]; trivial)
              | array n e' => exact agg (by rw [hue]; trivial)
              | bool =>
                have h9' := h9
                cases d with
                | zero => simp [TyC] at h9'
                | succ d => unfold TyC at h9'; rw [hue] at h9'; obtain ⟨b, hb⟩ := h9'; exact sc ⟨_, hb, rfl⟩ (by rw [hue]; trivial)
              | int k =>
                have h9' := h9
                cases d with
                | zero => simp [TyC] at h9'
                | succ d => unfold TyC at h9'; rw [hue] at h9'; obtain ⟨b, hb, _⟩ := h9'; exact sc ⟨_, hb, rfl⟩ (by rw [hue]; trivial)
              | string =>
                have h9' := h9
                cases d with
                | zero => simp [TyC] at h9'
                | succ d => unfold TyC at h9'; rw [hue] at h9'; obtain ⟨b, hb, _⟩ := h9'; exact sc ⟨_, hb, rfl⟩ (by rw [hue]; trivial)
              | slice e' =>
                have h9' := h9
                cases d with
                | zero => simp [TyC] at h9'
                | succ d => unfold TyC at h9'; rw [hue] at h9'; obtain ⟨b, hb, _⟩ := h9'; exact sc ⟨_, hb, rfl⟩ (by rw [hue]; trivial)
              | _ => cases hoke
          obtain ⟨l, hll, hlp⟩ := ex_list len hone
          refine ⟨[.list l], .one ?_, hot.symm, l, rfl, by omega, fun y hy => ?_⟩
          · by_cases h0 : len = 0
            · have : l = [] := List.length_eq_zero_iff.1 (by omega)
              subst this h0
              exact .lnil _ _ (fun h => by cases h)
            · have hsp : a.spot = none := by
                obtain ⟨y, hy⟩ : ∃ y, l[0]? = some y := ⟨l[0], List.getElem?_eq_getElem (by omega)⟩
                obtain ⟨p1, p2, p3⟩ := hlp 0 y hy
                obtain ⟨c, hc⟩ : ∃ c, (cellsOf y)[0]? = some c := ⟨_, List.getElem?_eq_getElem (by omega)⟩
                obtain ⟨v, hv, _⟩ := p3 0 c hc
                exact spot_plain (o := 0) (by simpa [Addr.add] using hv) rfl
              obtain ⟨b, o, sp⟩ := a
              obtain rfl : sp = none := hsp
              have hblk : b < w.heap.size := by
                obtain ⟨y, hy⟩ : ∃ y, l[0]? = some y := ⟨l[0], List.getElem?_eq_getElem (by omega)⟩
                obtain ⟨p1, p2, p3⟩ := hlp 0 y hy
                obtain ⟨c, hc⟩ : ∃ c, (cellsOf y)[0]? = some c := ⟨_, List.getElem?_eq_getElem (by omega)⟩
                obtain ⟨v, hv, _⟩ := p3 0 c hc
                have := World.block_lt_of_cell? w _ hv
                simpa [Addr.add] using this
              rw [← hll]
              have hval : ∀ i e' j c, l[i]? = some e' → (cellsOf e')[j]? = some c → w.cell? ⟨b, o + i * P.cellsOf e + j, none⟩ = some ((w.cell? ⟨b, o + i * P.cellsOf e + j, none⟩).getD undef) ∧ RI w (fun b => b < w.heap.size) c ((w.cell? ⟨b, o + i * P.cellsOf e + j, none⟩).getD undef) := fun i e' j c he hc => by
                obtain ⟨p1, p2, p3⟩ := hlp i e' he
                obtain ⟨v, hv, hr⟩ := p3 j c hc
                rw [addr_add, addr_add] at hv
                rw [hv]; exact ⟨rfl, hr⟩
              refine .list l b o cap (P.cellsOf e) (fun i j => (w.cell? ⟨b, o + i * P.cellsOf e + j, none⟩).getD undef) (by omega) (fun _ => hblk) (fun y hy => ?_) (fun i e' j c he hc => (hval i e' j c he hc).1) (fun i e' j c he hc => (hval i e' j c he hc).2)
              obtain ⟨i, hi⟩ := List.mem_iff_getElem?.1 hy
              exact (hlp i y hi).1
          · obtain ⟨i, hi⟩ := List.mem_iff_getElem?.1 hy
            exact (hlp i y hi).2.1
      | struct fs =>
        obtain ⟨xs, n, hn, _, hcl, hxl, hf⟩ := DataW.trod_struct hu h
        obtain rfl : d = n := by omega
        have key : ∀ (l : List Field) (off k : Nat) (cs' : List Value), tileS P S off l (P.cellsOf t) = true → cs' = cs.drop off → (∀ i f, l[i]? = some f → DataW.trod enc P w base spare held d f.type ((cs.drop f.offset).take (P.cellsOf f.type)) = xs[k + i]?) → k + l.length ≤ xs.length →
            ∃ acs, LiesC w acs cs' ∧ TyF P d l acs := by
          intro l
          induction l with
          | nil =>
            intro off k cs' ht' hc _ _
            have := Nat.eq_of_beq_eq_true ht'
            refine ⟨[], ?_, by unfold TyF; rfl⟩
            have : cs' = [] := by rw [hc]; apply List.drop_eq_nil_of_le; omega
            subst this
            exact ⟨rfl, fun i c hc => by simp at hc⟩
          | cons f l ihl =>
            intro off k cs' ht' hc hfs hkl
            simp only [tileS, Bool.and_eq_true] at ht'
            obtain ⟨⟨e1, e2⟩, e3⟩ := ht'
            have e1 := Nat.eq_of_beq_eq_true e1
            have e2 : f.type ∈ S := by simpa using e2
            have h0 := hfs 0 f rfl
            simp only [List.length_cons] at hkl
            have hx0 : xs[k + 0]? = some (xs[k]'(by omega)) := by simp [show k < xs.length by omega]
            rw [hx0, e1] at h0
            obtain ⟨a1, q1, q2, q3⟩ := ih f.type _ _ e2 h0
            obtain ⟨a2, q4, q5⟩ := ihl (off + P.cellsOf f.type) (k + 1) (cs.drop (off + P.cellsOf f.type)) e3 rfl (fun i g hg => by
              have := hfs (i + 1) g (by simpa using hg)
              rwa [show k + (i + 1) = k + 1 + i by omega] at this) (by omega)
            refine ⟨a1 ++ a2, ?_, ?_⟩
            · have : cs' = (cs.drop off).take (P.cellsOf f.type) ++ cs.drop (off + P.cellsOf f.type) := by
                rw [hc, ← List.drop_drop, List.take_append_drop]
              rw [this]
              exact q1.app q4
            · unfold TyF
              exact ⟨a1, a2, rfl, q3, q5⟩
        obtain ⟨acs, q1, q2⟩ := key fs.toList 0 0 cs hok (by simp) (fun i f hf' => by rw [Nat.zero_add]; exact hf i f (by simpa using hf')) (by simp [hxl])
        exact ⟨acs, q1, by rw [q1.1, hcl], q2⟩
      | array n e =>
        simp only [Bool.and_eq_true] at hok
        have hoe : e ∈ S := by simpa using hok.1
        have hot := Nat.eq_of_beq_eq_true hok.2
        obtain ⟨xs, n', hn, _, hcl, hxl, hf⟩ := DataW.trod_array hu h
        obtain rfl : d = n' := by omega
        have key : ∀ (m k : Nat) (cs' : List Value), k + m = n → cs' = cs.drop (k * P.cellsOf e) → ∃ acs, LiesC w acs cs' ∧ TyA P d e m acs := by
          intro m
          induction m with
          | zero =>
            intro k cs' hk hc
            refine ⟨[], ?_, by unfold TyA; rfl⟩
            have : cs' = [] := by
              rw [hc]; apply List.drop_eq_nil_of_le
              rw [hcl, hot, show k = n by omega]; exact Nat.le_refl _
            subst this
            exact ⟨rfl, fun i c hc => by simp at hc⟩
          | succ m ihm =>
            intro k cs' hk hc
            have h0 := hf k (by omega)
            have hx0 : xs[k]? = some (xs[k]'(by omega)) := List.getElem?_eq_getElem (by omega)
            rw [hx0] at h0
            obtain ⟨a1, q1, q2, q3⟩ := ih e _ _ hoe h0
            obtain ⟨a2, q4, q5⟩ := ihm (k + 1) (cs.drop ((k + 1) * P.cellsOf e)) (by omega) rfl
            refine ⟨a1 ++ a2, ?_, by unfold TyA; exact ⟨a1, a2, rfl, q3, q5⟩⟩
            have : cs' = (cs.drop (k * P.cellsOf e)).take (P.cellsOf e) ++ cs.drop ((k + 1) * P.cellsOf e) := by
              rw [hc, Nat.add_mul, Nat.one_mul, ← List.drop_drop, List.take_append_drop]
            rw [this]
            exact q1.app q4
        obtain ⟨acs, q1, q2⟩ := key n 0 cs (by omega) (by simp)
        exact ⟨acs, q1, by rw [q1.1, hcl], q2⟩
      | _ => cases hok

/-- An argument that was read. -/
theorem read_arg {S : List TypeId} (hS : S.all (okS P S) = true) {t : TypeId} (ht : t ∈ S) {r : Reach} {b0 : Nat} {v : Value} {d : DataW H} {p : List MemPlace} (hv : Value.okWide P w r b0 t v) (h : DataW.Trod enc P w base spare held t v d p) :
    ∃ x fuel, RI w (fun b => b < w.heap.size) x v ∧ TyV P fuel t x := by
  obtain ⟨fuel, hf⟩ := h
  obtain ⟨acs, h1, h2, h3⟩ := read_cells hS fuel t _ _ ht hf
  have agg : (∃ cs, v = .agg cs) → ∃ x, x = AV.agg acs ∧ RI w (fun b => b < w.heap.size) x v := fun ⟨cs, hc⟩ => by
    subst hc
    refine ⟨_, rfl, .agg acs cs (by have := h1.1; simp [Value.cells] at this; omega) fun i c hc => ?_⟩
    have := h1.2 i c hc
    simpa [Value.cells, List.getD_eq_getElem?_getD, Array.getD_eq_getD_getElem?] using this
  cases hu : P.underlying t with
  | none => simp [Value.okWide, hu, Cell.okWide, Cell.ok] at hv
  | some ds =>
    cases ds with
    | struct fs =>
      simp only [Value.okWide, hu] at hv
      obtain ⟨cs, hc, _⟩ := hv
      obtain ⟨x, hx, hr⟩ := agg ⟨cs, hc⟩
      exact ⟨x, fuel, hr, by unfold TyV; rw [hu]; exact ⟨acs, hx, h3⟩⟩
    | array n e =>
      simp only [Value.okWide, hu] at hv
      obtain ⟨cs, hc, _⟩ := hv
      obtain ⟨x, hx, hr⟩ := agg ⟨cs, hc⟩
      exact ⟨x, fuel, hr, by unfold TyV; rw [hu]; exact ⟨acs, hx, h3⟩⟩
    | _ =>
      have hok := List.all_eq_true.1 hS t ht
      unfold okS at hok
      rw [hu] at hok
      have hna : ∀ cs, v ≠ .agg cs := fun cs hc => by
        subst hc
        simp [Value.okWide, hu, Cell.okWide, Cell.ok] at hv
      have hcv : v.cells.toList = [v] := by cases v <;> first | rfl | exact absurd rfl (hna _)
      have hlen := h1.1
      rw [hcv] at h1 hlen
      match acs, hlen, h1, h3 with
      | [c], _, h1, h3 => exact ⟨c, fuel, by simpa using h1.2 0 c rfl, by unfold TyV; rw [hu]; exact h3⟩

end
end Go.Proofs.Ytkijlggnnbdeiaa
