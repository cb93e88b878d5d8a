/- What expressions and conditions read: plain mathematics. -/
import Derived.Test.YtfhfdenmcneamaaNumC2
set_option linter.unusedVariables false
set_option linter.unusedSimpArgs false
namespace Go.Proofs.Ytfhfdenmcneamaa
set_option maxRecDepth 100000
mutual
/-- The variables that an expression reads, in order, as often as they stand there. -/
def rdX : Ex → List Int
  | .mk op n v a => if op = 2 ∧ 0 ≤ n then [n] else if 4 ≤ op ∧ op ≤ 10 then ((rdXs a).take 2).flatten else []
def rdXs : List Ex → List (List Int)
  | [] => []
  | g :: l => rdX g :: rdXs l
end
theorem rdXs_map : ∀ l, rdXs l = l.map rdX
  | [] => by simp [rdXs]
  | g :: l => by rw [rdXs, rdXs_map l]; rfl
def rdL (l : List Ex) : List Int := (l.map rdX).flatten
theorem rdX_yes {g : Ex} (h : g.op = 2) (h2 : 0 ≤ g.n) : rdX g = [g.n] := by cases g; unfold rdX; exact if_pos ⟨h, h2⟩
theorem rdX_no {g : Ex} (h : ¬ (g.op = 2 ∧ 0 ≤ g.n)) : rdX g = rdL (opnds g) := by
  cases g with
  | mk op n v a =>
    unfold rdX rdL opnds
    rw [if_neg (show ¬ (op = 2 ∧ 0 ≤ n) from h), rdXs_map]
    show (if 4 ≤ op ∧ op ≤ 10 then _ else _) = ((if 4 ≤ op ∧ op ≤ 10 then a.take 2 else []).map rdX).flatten
    by_cases c : 4 ≤ op ∧ op ≤ 10
    · rw [if_pos c, if_pos c, List.map_take]
    · rw [if_neg c, if_neg c]; rfl
theorem rdL_at {l : List Ex} {k : Nat} (h : k < l.length) : rdL (l.take (k + 1)) = rdL (l.take k) ++ rdX (l.getD k exNone) := by
  unfold rdL
  have e : l.take (k + 1) = l.take k ++ [l[k]] := by rw [List.take_add_one, List.getElem?_eq_getElem h]; rfl
  rw [e, List.map_append, List.flatten_append, List.getD_eq_getElem?_getD, List.getElem?_eq_getElem h]; simp
theorem rdL_le : ∀ {l : List Ex}, (∀ g ∈ l, (rdX g).length ≤ g.nodes) → (rdL l).length ≤ Ex.nodesL l
  | [], _ => by simp [rdL]
  | g :: l, h => by
    have h1 := h g (by simp)
    have h2 := rdL_le (l := l) (fun x hx => h x (by simp [hx]))
    unfold rdL at h2 ⊢
    rw [List.map_cons, List.flatten_cons, List.length_append, Ex.nodesL]
    omega
theorem nodesL_sub : ∀ {l m : List Ex}, l.Sublist m → Ex.nodesL l ≤ Ex.nodesL m
  | _, _, .slnil => Nat.le_refl _
  | _, _, .cons x h => by have := nodesL_sub h; rw [Ex.nodesL]; omega
  | _, _, .cons_cons x h => by have := nodesL_sub h; rw [Ex.nodesL, Ex.nodesL]; omega
theorem opnds_nodes (g : Ex) : Ex.nodesL (opnds g) ≤ Ex.nodesL g.a := by
  unfold opnds
  split
  · exact nodesL_sub (List.take_sublist _ _)
  · simp [Ex.nodesL]
theorem rdX_len (g : Ex) : (rdX g).length ≤ g.nodes := by
    by_cases h : g.op = 2 ∧ 0 ≤ g.n
    · rw [rdX_yes h.1 h.2]; have : g.nodes = Ex.nodesL g.a + 1 := Ex.nodes_a g; simp only [List.length_cons, List.length_nil]; omega
    · rw [rdX_no h]
      have h1 := rdL_le (l := opnds g) (fun x hx => rdX_len x)
      have h2 := opnds_nodes g
      have h3 : g.nodes = Ex.nodesL g.a + 1 := Ex.nodes_a g
      omega
termination_by g.nodes
decreasing_by exact Ex.nodes_lt (opnds_sub hx)
theorem rdL_len (l : List Ex) : (rdL l).length ≤ Ex.nodesL l := rdL_le fun g _ => rdX_len g
/-- Room for what comes next. -/
theorem rdL_room {g : Ex} {k : Nat} (h : k < (opnds g).length) : (rdL ((opnds g).take k)).length + ((opnds g).getD k exNone).nodes < g.nodes := by
  have h1 := rdL_len ((opnds g).take k)
  have h2 : Ex.nodesL ((opnds g).take (k + 1)) = Ex.nodesL ((opnds g).take k) + ((opnds g).getD k exNone).nodes := nodes_take h
  have h3 := nodesL_sub (List.take_sublist (k + 1) (opnds g))
  have h4 := opnds_nodes g
  have h5 : g.nodes = Ex.nodesL g.a + 1 := Ex.nodes_a g
  omega
theorem rdX_in {g : Ex} (hg : OkE g) : ∀ x ∈ rdX g, 0 ≤ x ∧ x ≤ 9223372036854775807 := fun x hx => by
  by_cases h : g.op = 2 ∧ 0 ≤ g.n
  · rw [rdX_yes h.1 h.2] at hx
    have := hg.bd
    obtain rfl := List.mem_singleton.1 hx
    omega
  · rw [rdX_no h] at hx
    unfold rdL at hx
    obtain ⟨l, hl, hx⟩ := List.mem_flatten.1 hx
    obtain ⟨y, hy, rfl⟩ := List.mem_map.1 hl
    exact rdX_in (hg.mem (opnds_sub hy)) x hx
termination_by g.nodes
decreasing_by exact Ex.nodes_lt (opnds_sub hy)
mutual
/-- The same of conditions. -/
def rdC : Co → List Int
  | .mk op a c => rdL (partsA (.mk op a c)) ++ (if op = 5 then ((rdCs c).take 1).flatten else if op = 6 ∨ op = 7 then ((rdCs c).take 2).flatten else [])
def rdCs : List Co → List (List Int)
  | [] => []
  | g :: l => rdC g :: rdCs l
end
theorem rdCs_map : ∀ l, rdCs l = l.map rdC
  | [] => by simp [rdCs]
  | g :: l => by rw [rdCs, rdCs_map l]; rfl
def rdLC (l : List Co) : List Int := (l.map rdC).flatten
theorem rdC_eq (c : Co) : rdC c = rdL (partsA c) ++ rdLC (partsC c) := by
  cases c with
  | mk op a c =>
    unfold rdC rdLC partsC
    rw [rdCs_map]
    show _ ++ _ = _ ++ ((if op = 5 then c.take 1 else if op = 6 ∨ op = 7 then c.take 2 else []).map rdC).flatten
    by_cases h5 : op = 5
    · rw [if_pos h5, if_pos h5, List.map_take]
    · rw [if_neg h5, if_neg h5]
      by_cases h6 : op = 6 ∨ op = 7
      · rw [if_pos h6, if_pos h6, List.map_take]
      · rw [if_neg h6, if_neg h6]; rfl
theorem rdLC_at {l : List Co} {k : Nat} (h : k < l.length) : rdLC (l.take (k + 1)) = rdLC (l.take k) ++ rdC (l.getD k coNone) := by
  unfold rdLC
  have e : l.take (k + 1) = l.take k ++ [l[k]] := by rw [List.take_add_one, List.getElem?_eq_getElem h]; rfl
  rw [e, List.map_append, List.flatten_append, List.getD_eq_getElem?_getD, List.getElem?_eq_getElem h]; simp
theorem rdLC_le : ∀ {l : List Co}, (∀ g ∈ l, (rdC g).length ≤ g.nodes) → (rdLC l).length ≤ Co.nodesL l
  | [], _ => by simp [rdLC]
  | g :: l, h => by
    have h1 := h g (by simp)
    have h2 := rdLC_le (l := l) (fun x hx => h x (by simp [hx]))
    unfold rdLC at h2 ⊢
    rw [List.map_cons, List.flatten_cons, List.length_append, Co.nodesL]
    omega
theorem nodesLC_sub : ∀ {l m : List Co}, l.Sublist m → Co.nodesL l ≤ Co.nodesL m
  | _, _, .slnil => Nat.le_refl _
  | _, _, .cons x h => by have := nodesLC_sub h; rw [Co.nodesL]; omega
  | _, _, .cons_cons x h => by have := nodesLC_sub h; rw [Co.nodesL, Co.nodesL]; omega
theorem partsA_nodes (c : Co) : Ex.nodesL (partsA c) ≤ Ex.nodesL c.a := by
  unfold partsA
  split
  · exact nodesL_sub (List.take_sublist _ _)
  · simp [Ex.nodesL]
theorem partsC_nodes (c : Co) : Co.nodesL (partsC c) ≤ Co.nodesL c.c := by
  unfold partsC
  split
  · exact nodesLC_sub (List.take_sublist _ _)
  · split
    · exact nodesLC_sub (List.take_sublist _ _)
    · simp [Co.nodesL]
theorem rdC_len (c : Co) : (rdC c).length ≤ c.nodes := by
    rw [rdC_eq, List.length_append]
    have h1 := rdL_len (partsA c)
    have h2 := rdLC_le (l := partsC c) (fun x hx => rdC_len x)
    have h3 := partsA_nodes c
    have h4 := partsC_nodes c
    have h5 : c.nodes = Ex.nodesL c.a + Co.nodesL c.c + 1 := Co.nodes_ac c
    omega
termination_by c.nodes
decreasing_by exact Co.nodes_lt (partsC_sub hx)
theorem rdL_roomC {c : Co} {k : Nat} (h : k < (partsA c).length) : (rdL ((partsA c).take k)).length + ((partsA c).getD k exNone).nodes < c.nodes := by
  have h1 := rdL_len ((partsA c).take k)
  have h2 : Ex.nodesL ((partsA c).take (k + 1)) = Ex.nodesL ((partsA c).take k) + ((partsA c).getD k exNone).nodes := nodes_take h
  have h3 := nodesL_sub (List.take_sublist (k + 1) (partsA c))
  have h4 := partsA_nodes c
  have h5 : c.nodes = Ex.nodesL c.a + Co.nodesL c.c + 1 := Co.nodes_ac c
  omega
theorem rdLC_room {c : Co} {k : Nat} (h : k < (partsC c).length) : (rdL (partsA c)).length + (rdLC ((partsC c).take k)).length + ((partsC c).getD k coNone).nodes < c.nodes := by
  have h0 := rdL_len (partsA c)
  have h1 := rdLC_le (l := (partsC c).take k) (fun g _ => rdC_len g)
  have h2 : Co.nodesL ((partsC c).take (k + 1)) = Co.nodesL ((partsC c).take k) + ((partsC c).getD k coNone).nodes := nodes_takeC h
  have h3 := nodesLC_sub (List.take_sublist (k + 1) (partsC c))
  have h4 := partsA_nodes c
  have h5 := partsC_nodes c
  have h6 : c.nodes = Ex.nodesL c.a + Co.nodesL c.c + 1 := Co.nodes_ac c
  omega
end Go.Proofs.Ytfhfdenmcneamaa
