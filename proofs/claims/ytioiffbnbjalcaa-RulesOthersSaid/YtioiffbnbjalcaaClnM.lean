/- A list's cells, one after the other, and the row that holds them again. For every program. -/
import Derived.Test.YtioiffbnbjalcaaEvP
import Derived.Maps.AppendAt
set_option linter.unusedVariables false
set_option linter.unusedSimpArgs false
namespace Go.Proofs.Ytioiffbnbjalcaa
open Go.RowKit
set_option maxRecDepth 100000
/-- The cells of a list as they lie in a world. -/
structure News (w : World) (B : Nat → Prop) (k : Nat) (L : List AV) (news : List Value) : Prop where
  len : news.length = L.length * k
  one : ∀ u ∈ news, u.oneCell' = true
  at_ : ∀ i e j c, L[i]? = some e → (cellsOf e)[j]? = some c → ∃ u, news[i * k + j]? = some u ∧ RI w B c u
theorem oneC' {v : Value} (h : oneC v = true) : v.oneCell' = true := by
  cases v <;> first | rfl | cases h
theorem div_mod_lt {p n k : Nat} (h : p < n * k) : p / k < n ∧ p % k < k := by
  have hk : 0 < k := Nat.pos_of_ne_zero fun e => by subst e; simp at h
  exact ⟨(Nat.div_lt_iff_lt_mul hk).2 h, Nat.mod_lt _ hk⟩
/-- A list that is lent: nil, or its cells. -/
theorem list_news {w : World} {B : Nat → Prop} {k : Nat} {L : List AV} {v : Value} (h : RI w B (.list L) v) (hk : ∀ e ∈ L, (cellsOf e).length = k ∧ ∀ c ∈ cellsOf e, isCell c = true) :
    (v = .slice none 0 0 ∧ L = []) ∨ ∃ ad cap news, v = .slice (some ad) L.length cap ∧ News w B k L news ∧ ∀ j u, news[j]? = some u → w.cell? (ad.add j) = some u := by
  cases h with
  | lnil a cap hn =>
    cases a with
    | none => rw [hn rfl]; exact .inl ⟨rfl, rfl⟩
    | some ad => exact .inr ⟨ad, cap, [], rfl, ⟨by simp, fun u hu => (by cases hu), fun i e j c hi => by simp at hi⟩, fun j u hj => by simp at hj⟩
  | list l b o cap k' x hc hB hk' hx hr =>
    refine .inr ⟨⟨b, o, none⟩, cap, (List.range (L.length * k)).map fun p => x (p / k) (p % k), rfl, ⟨by simp, fun u hu => ?_, fun i e j c hi hj => ?_⟩, fun p u hp => ?_⟩
    · obtain ⟨p, hp, rfl⟩ := List.mem_map.1 hu
      have hp := List.mem_range.1 hp
      obtain ⟨h1, h2⟩ := div_mod_lt hp
      have he : L[p / k]? = some (L[p / k]) := List.getElem?_eq_getElem h1
      have hl := hk _ (List.getElem_mem h1)
      have hc : (cellsOf (L[p / k]))[p % k]? = some ((cellsOf (L[p / k]))[p % k]'(by rw [hl.1]; exact h2)) := List.getElem?_eq_getElem _
      exact oneC' ((hr _ _ _ _ he hc).oneC (hl.2 _ (List.mem_of_getElem? hc)))
    · have hj' : j < k := by rw [← (hk e (List.mem_of_getElem? hi)).1]; exact (List.getElem?_eq_some_iff.1 hj).1
      have hi' := (List.getElem?_eq_some_iff.1 hi).1
      have hlt : i * k + j < L.length * k := by
        have : (i + 1) * k ≤ L.length * k := Nat.mul_le_mul_right _ hi'
        rw [Nat.add_mul, Nat.one_mul] at this; omega
      refine ⟨x i j, ?_, hr i e j c hi hj⟩
      rw [List.getElem?_map, List.getElem?_range hlt]
      have k0 : 0 < k := by omega
      simp only [Option.map_some]
      rw [Nat.mul_comm, Nat.mul_add_div k0, Nat.div_eq_of_lt hj', Nat.mul_add_mod, Nat.mod_eq_of_lt hj', Nat.add_zero]
    · rw [List.getElem?_map] at hp
      obtain ⟨q, hq, rfl⟩ := Option.map_eq_some_iff.1 hp
      obtain ⟨hq1, rfl⟩ := List.getElem?_eq_some_iff.1 hq
      simp only [List.length_range] at hq1
      simp only [List.getElem_range]
      obtain ⟨h1, h2⟩ := div_mod_lt hq1
      have he : L[p / k]? = some (L[p / k]) := List.getElem?_eq_getElem h1
      have hl := hk _ (List.getElem_mem h1)
      have hc : (cellsOf (L[p / k]))[p % k]? = some ((cellsOf (L[p / k]))[p % k]'(by rw [hl.1]; exact h2)) := List.getElem?_eq_getElem _
      have hkk : k' = k := by rw [← hl.1]; exact (hk' _ (List.getElem_mem h1)).symm
      have := hx _ _ _ _ he hc
      rw [← this]
      have e1 : (⟨b, o, none⟩ : Addr).add p = ⟨b, o + p, none⟩ := by simp [Addr.add]
      have e2 : o + p / k * k' + p % k = o + p := by rw [hkk, Nat.add_assoc, Nat.mul_comm, Nat.div_add_mod]
      rw [e1, e2]
/-- A row of a function's own that holds the cells is the list. -/
theorem row_news {w w' : World} {B B' : Nat → Prop} {k : Nat} {L : List AV} {v : Value} {news : List Value} {base : Nat} {e : TypeId} (h : News w B k L news) (hk : ∀ e ∈ L, (cellsOf e).length = k) (ho : w'.ownsRow base e k v L.length news)
    (hB : ∀ b, base ≤ b → b < w'.heap.size → B' b) (hm : ∀ e ∈ L, ∀ c ∈ cellsOf e, ∀ u, RI w B c u → RI w' B' c u) : RI w' B' (.list L) v := by
  obtain ⟨hl, ⟨rfl, hn0⟩ | ⟨g, cap, cur, rfl, hgb, hgw, hle, hmx, hcs, htk⟩⟩ := ho
  · obtain rfl := List.length_eq_zero_iff.1 hn0
    exact .lnil none 0 (fun _ => rfl)
  · have hg : g < w'.heap.size := (Array.getElem?_eq_some_iff.1 hgw).1
    refine .list L g 0 cap k (fun i j => news.getD (i * k + j) undef) hle (fun _ => hB g hgb hg) hk (fun i e j c hi hj => ?_) fun i e j c hi hj => ?_
    · obtain ⟨u, hu, _⟩ := h.at_ i e j c hi hj
      have hu' := hu
      rw [← htk, List.getElem?_take] at hu'
      split at hu'
      · have h1 : w'.cell? ⟨g, 0 + i * k + j, none⟩ = cur[i * k + j]? := by
          unfold World.cell?
          simp only [hgw, Nat.zero_add]
          simp
        rw [h1, ← Array.getElem?_toList, hu', List.getD_eq_getElem?_getD, hu]; rfl
      · cases hu'
    · obtain ⟨u, hu, hr⟩ := h.at_ i e j c hi hj
      rw [List.getD_eq_getElem?_getD, hu]
      exact hm e (List.mem_of_getElem? hi) c (List.mem_of_getElem? hj) u hr
/-- What slices.Clone does, at a type of k cells. -/
def CloneW (P : Program) (f : FuncId) (e : TypeId) (k bytes : Nat) : Prop := ∀ (B : Nat → Prop) (L : List AV) (v : Value) (w : World), RI w B (.list L) v → (∀ e ∈ L, (cellsOf e).length = k ∧ ∀ c ∈ cellsOf e, isCell c = true) → L.length * bytes ≤ 140737488355328 →
  Calls P f #[v] w fun e' w' => ∃ v', e' = .returned v' ∧ Below w.heap.size w w' ∧ ((v' = .slice none 0 0 ∧ L = []) ∨ ∃ news, News w B k L news ∧ w'.ownsRow w.heap.size e k v' L.length news)
theorem one_arg {vs : Array Value} (h : vs.size = 1) : vs = #[vs.getD 0 undef] := by
  apply Array.ext_getElem?
  intro i
  match i with
  | 0 => rw [Array.getD_eq_getD_getElem?, Array.getElem?_eq_getElem (show 0 < vs.size by omega)]; rfl
  | i + 1 => rw [Array.getElem?_eq_none (by omega), Array.getElem?_eq_none (by simp)]
theorem CloneW.fnF {P : Program} {f : FuncId} {e : TypeId} {k bytes : Nat} (h : CloneW P f e k bytes) (hc : callable P f = true) {fr : Bool} {L : List AV} (hk : ∀ e ∈ L, (cellsOf e).length = k ∧ ∀ c ∈ cellsOf e, isCell c = true) (hp : fr = false ∨ ∀ e ∈ L, ∀ c ∈ cellsOf e, plainV c = true) (hn : L.length * bytes ≤ 140737488355328) : FnF P f fr [.list L] (.list L) := by
  refine ⟨hc, fun B w vs hs hr => ?_⟩
  have h0 : RI w _ (.list L) _ := hr 0 _ rfl
  rw [one_arg hs]
  refine (h _ L _ w h0 hk hn).mono ?_
  rintro e' w' ⟨v', rfl, hb, ⟨rfl, rfl⟩ | ⟨news, hN, ho⟩⟩
  · exact ⟨_, rfl, hb, .lnil none 0 (fun _ => rfl)⟩
  · refine ⟨v', rfl, hb, row_news hN (fun e he => (hk e he).1) ho (fun b h1 h2 => ⟨.inl h1, h2⟩) fun e he c hcc u hu => ?_⟩
    rcases hp with rfl | hp
    · exact hu.mono (fun b hb' => ⟨.inr ⟨rfl, hb'.1⟩, Nat.lt_of_lt_of_le hb'.2 hb.size⟩) fun b hb' o => World.cell?_of_block (hb.block b hb'.2)
    · exact (hu.mono (B' := fun b => B b ∧ b < w.heap.size) (fun b hb' => hb') fun b hb' o => World.cell?_of_block (hb.block b hb'.2)).plain (hp e he c hcc)
theorem CloneW.fnM {P : Program} {f : FuncId} {e : TypeId} {k bytes : Nat} (h : CloneW P f e k bytes) (hc : callable P f = true) (h0 : 0 < k) {L : List AV} (hk : ∀ e ∈ L, (cellsOf e).length = k ∧ ∀ c ∈ cellsOf e, isCell c = true) (hn : L.length * bytes ≤ 140737488355328) (hL : L ≠ []) : FnM P f [] [.list L] (.slice 0 0 L.length 0) [.row k L 0] := by
  refine ⟨hc, fun B ρ w vs hF hs hr => ?_⟩
  have h1 : RI w _ (.list L) _ := (hr 0 _ rfl).ri (by simp [idsOf])
  rw [one_arg hs]
  refine (h _ L _ w h1 hk hn).mono ?_
  rintro e' w' ⟨v', rfl, hb, ⟨_, hz⟩ | ⟨news, hN, ho⟩⟩
  · exact absurd hz hL
  · have hpos := List.length_pos_iff.2 hL
    obtain ⟨hl, ⟨_, hn0⟩ | ⟨g, cap, cur, rfl, hgb, hgw, hle, hmx, hcs, htk⟩⟩ := ho
    · omega
    · have hg : g < w'.heap.size := (Array.getElem?_eq_some_iff.1 hgw).1
      have hsz : L.length * k ≤ cur.size := by rw [hcs]; exact Nat.mul_le_mul_right k hle
      have z : ∀ {i : Nat}, memL [Blk.row k L 0] i ≠ none → i = 0 := fun {i} h => by
        match i with
        | 0 => rfl
        | i + 1 => exact absurd (by simp [memL]) h
      refine ⟨_, fun _ => g, rfl, ⟨hb.os, hb.tape, hb.output, hb.size, fun b hk _ => hb.block b hk, fun id hid => .inr hgb, fun id b hb => by simp [memL] at hb⟩, ⟨fun i j hi hj _ => by rw [z hi, z hj], fun id b hb' => ?_⟩, ?_⟩
      · match id, hb' with
        | 0, hb' =>
          obtain rfl : Blk.row k L 0 = b := by simpa [memL] using hb'
          refine ⟨h0, fun e he => (hk e he).1, cur, _, hgw, hsz, fun i e j c hi hj => ?_⟩
          obtain ⟨u, hu, hru⟩ := hN.at_ i e j c hi hj
          have hu' := hu
          rw [← htk, List.getElem?_take] at hu'
          split at hu'
          · rw [Array.getD_eq_getD_getElem?, ← Array.getElem?_toList, hu']
            refine .base (hru.mono (fun b hb' => ⟨hb'.1, Nat.lt_of_lt_of_le hb'.2.1 hb.size, fun id hid he => ?_⟩) fun b hb' o => World.cell?_of_block (hb.block b hb'.2.1))
            have h9 : g = b := he
            have := hb'.2.1; omega
          · cases hu'
        | id + 1, hb' => simp [memL] at hb'
      · refine .slice 0 0 _ 0 k L 0 _ _ cap rfl (Nat.le_refl _) fun _ => ⟨by omega, rfl, 0, cur, _, rfl, fun _ => by simp, hle, hgw, by rw [hcs]; simp⟩
end Go.Proofs.Ytioiffbnbjalcaa
