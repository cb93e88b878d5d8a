/- The numbers of a map whose keys are whole numbers, in order: a map is read in any order, and what was read is sorted. -/
import Derived.Test.YtioiffbnbjalcaaSrtI
import Derived.Test.YtioiffbnbjalcaaEvW
import Derived.Maps.RangeRun
set_option linter.unusedVariables false
set_option linter.unusedSimpArgs false
namespace Go.Proofs.Ytioiffbnbjalcaa
open Go.RowKit Go.Sort
open Go.ChangeMaps (setBlock)
set_option maxRecDepth 100000
/-- A number that was used. -/
def encU (k : Int) : AV := .agg [.int .i64 k, .bool true]
theorem pw_perm : ∀ {l m : List Int}, l.Pairwise (· ≤ ·) → m.Pairwise (· ≤ ·) → l.Perm m → l = m
  | [], m, _, _, h => (List.Perm.nil_eq h)
  | x :: l, [], _, _, h => by have := h.length_eq; simp at this
  | x :: l, y :: m, hl, hm, h => by
    obtain ⟨a1, a2⟩ := List.pairwise_cons.1 hl
    obtain ⟨b1, b2⟩ := List.pairwise_cons.1 hm
    have hx : x ∈ y :: m := h.mem_iff.1 (by simp)
    have hy : y ∈ x :: l := h.mem_iff.2 (by simp)
    have hxy : x = y := by
      rcases List.mem_cons.1 hx with e | e
      · exact e
      · rcases List.mem_cons.1 hy with e2 | e2
        · exact e2.symm
        · have := b1 x e; have := a1 y e2; omega
    subst hxy
    rw [pw_perm a2 b2 (List.Perm.cons_inv h)]
theorem sortI_pwu (l : List Int) : (sortI l).Pairwise (· ≤ ·) := by
  have := List.pairwise_mergeSort (le := fun x y : Int => decide (x ≤ y)) (fun a b c h1 h2 => by simp at *; omega) (fun a b => by simp; omega) l
  exact this.imp (by simp)
theorem sortI_perm {l m : List Int} (h : l.Perm m) : sortI l = sortI m :=
  pw_perm (sortI_pwu l) (sortI_pwu m) (((List.mergeSort_perm l _).trans h).trans (List.mergeSort_perm m _).symm)
theorem nodup_lt : ∀ (n : Nat) (l : List Nat), l.Nodup → (∀ i ∈ l, i < n) → l.length ≤ n
  | 0, [], _, _ => Nat.le_refl _
  | 0, x :: l, _, h => by have := h x (by simp); omega
  | n + 1, l, hn, h => by
    have h1 := nodup_lt n (l.erase n) (hn.erase n) (fun i hi => by
      obtain ⟨h2, h3⟩ := (List.Nodup.mem_erase_iff hn).1 hi
      have := h i h3; omega)
    by_cases hm : n ∈ l
    · rw [List.length_erase_of_mem hm] at h1; omega
    · rw [List.erase_of_not_mem hm] at h1; omega
/-- What was read so far: the entries' ages, each once, and their keys. -/
structure Got (ks : List Int) (seen : Array Nat) (cs : List Int) : Prop where
  keys : cs = seen.toList.map fun i => ks.getD i 0
  nodup : seen.toList.Nodup
  lt : ∀ i ∈ seen.toList, i < ks.length
theorem Got.start (ks : List Int) : Got ks #[] [] := ⟨rfl, .nil, fun i h => by simp at h⟩
theorem Got.step {ks : List Int} {seen : Array Nat} {cs : List Int} (h : Got ks seen cs) {i : Nat} (hi : i < ks.length) (hs : seen.contains i = false) : Got ks (seen.push i) (cs ++ [ks.getD i 0]) := by
  have hn : i ∉ seen.toList := fun hm => by
    have : seen.contains i = true := Array.contains_iff_mem.2 (Array.mem_toList_iff.1 hm)
    rw [hs] at this; cases this
  refine ⟨by rw [Array.toList_push, List.map_append, ← h.keys]; rfl, ?_, fun j hj => ?_⟩
  · rw [Array.toList_push]
    exact List.nodup_append.2 ⟨h.nodup, by simp, fun a ha b hb => by simp at hb; subst hb; exact fun e => hn (e ▸ ha)⟩
  · rw [Array.toList_push] at hj
    rcases List.mem_append.1 hj with hj | hj
    · exact h.lt j hj
    · simp at hj; omega
theorem Got.len {ks : List Int} {seen : Array Nat} {cs : List Int} (h : Got ks seen cs) : cs.length ≤ ks.length := by
  rw [h.keys, List.length_map]
  exact nodup_lt ks.length _ h.nodup h.lt
theorem Got.all {ks : List Int} {seen : Array Nat} {cs : List Int} (h : Got ks seen cs) (ha : ∀ i, i < ks.length → i ∈ seen.toList) : cs.Perm ks := by
  have hp : seen.toList.Perm (List.range ks.length) := (List.perm_ext_iff_of_nodup h.nodup List.nodup_range).2 fun i => ⟨fun hi => List.mem_range.2 (h.lt i hi), fun hi => ha i (List.mem_range.1 hi)⟩
  rw [h.keys]
  have e : (List.range ks.length).map (fun i => ks.getD i 0) = ks := by
    apply List.ext_getElem
    · simp
    · intro i h1 h2
      simp only [List.getElem_map, List.getElem_range]
      rw [List.getD_eq_getElem?_getD, List.getElem?_eq_getElem h2]; rfl
  exact (hp.map _).trans (by rw [e])
theorem inf_int : (Try.prog.info? 3).map (fun i => (i.zero, i.size, i.bytes)) = some (some (.int .i64 0), 1, 8) := by kernel_rfl

theorem born_nd {ents : Array MapEntry} (hbn : ∀ (i : Nat) (e : MapEntry), ents[i]? = some e → e.born = i) : (ents.toList.map (·.born)).Nodup := by
  have e : ents.toList.map (·.born) = List.range ents.size := by
    apply List.ext_getElem
    · simp
    · intro i h1 h2
      simp only [List.getElem_map, List.getElem_range]
      have hi : i < ents.size := by simpa using h2
      exact hbn i _ (by rw [Array.getElem?_eq_getElem hi]; simp)
  rw [e]; exact List.nodup_range
theorem left_none {ents : Array MapEntry} {seen : Array Nat} (hbn : ∀ (i : Nat) (e : MapEntry), ents[i]? = some e → e.born = i) (h0 : (leftOf ents seen).size = 0) : ∀ i, i < ents.size → i ∈ seen.toList := fun i hi => by
  have hm : ents[i] ∉ leftOf ents seen := fun h => by
    have := Array.size_pos_of_mem h; omega
  unfold leftOf at hm
  rw [Array.mem_filter] at hm
  have hb : ents[i].born = i := hbn i _ (Array.getElem?_eq_getElem hi)
  have : seen.contains i = true := by
    cases hc : seen.contains i with
    | true => rfl
    | false => exact absurd ⟨Array.getElem_mem hi, by rw [hb, hc]; rfl⟩ hm
  exact Array.mem_toList_iff.2 (Array.contains_iff_mem.1 this)
set_option maxHeartbeats 4000000 in
theorem us_list {ks : List Int} (hk : ks.length ≤ 1099511627776) {r : AV} {R : List Blk} (hrR : (ks = [] ∧ r = .nilslice ∧ R = []) ∨ (¬ ks = [] ∧ r = .slice 0 0 ks.length 0 ∧ R = [.row 1 ((sortI ks).map (AV.int .i64)) 0])) : FnG Try.prog 55 (ks.map encU) r R := by
  refine ⟨by kernel_rfl, fun w b ents hb hs he => ?_⟩
  have hsz : ents.size = ks.length := by simpa using hs
  have hbn : ∀ (i : Nat) (e : MapEntry), ents[i]? = some e → e.born = i ∧ e.key = .int .i64 (ks.getD i 0) := fun i e hi => by
    have hlt : i < ents.size := (Array.getElem?_eq_some_iff.1 hi).1
    have hx : (ks.map encU)[i]? = some (encU (ks.getD i 0)) := by rw [List.getElem?_map, List.getD_eq_getElem?_getD, List.getElem?_eq_getElem (by omega)]; rfl
    obtain ⟨k, v, h1, h2, h3⟩ := he i _ e hx hi
    unfold encU at h1
    simp only [AV.agg.injEq, List.cons.injEq, AV.int.injEq, true_and, and_true] at h1
    exact ⟨h3, by rw [h2, h1.1]⟩
  have hbn1 : ∀ (i : Nat) (e : MapEntry), ents[i]? = some e → e.born = i := fun i e h => (hbn i e h).1
  have hmem : ∀ e ∈ ents.toList, ∃ i, ents[i]? = some e := fun e h => by
    obtain ⟨i, hi, rfl⟩ := List.getElem_of_mem h
    exact ⟨i, by rw [Array.getElem?_eq_getElem (by simpa using hi)]; simp⟩
  have hold : ∀ x ∈ ents.toList, x.born < ents.size := fun x hx => by
    obtain ⟨i, hi⟩ := hmem x hx
    rw [hbn1 i x hi]; exact (Array.getElem?_eq_some_iff.1 hi).1
  have hnd := born_nd hbn1
  obtain ⟨i0, hi, hz0, hz1, hz2⟩ := info_parts inf_int
  have hblt : b < w.heap.size := (Array.getElem?_eq_some_iff.1 hb).1
  have hrg := run_range_map (P := Try.prog) w 93 3 4 b ents ents.size Try.underlying93 hb
  go_enter Try.func55, Try.ntmps55
  go_wp2
  go_loopw [3] (fun v wr => ∃ (seen : Array Nat) (c0 : Nat) (cs : List Int), wr.heap[w.heap.size]? = some (.mapIter (some b) ks.length seen c0) ∧ ks.length ≤ c0 ∧ Got ks seen cs ∧
      wr.ownsRow (w.heap.size + 1) 3 1 v cs.length (cs.map (Value.int .i64)) ∧ Below w.heap.size w wr ∧ w.heap.size < wr.heap.size ∧ (cs = [] → v = .slice none 0 0))
    (fun _ wr => (leftOf ents (wr.iterSeen w.heap.size)).size)
  case atStart =>
    exact ⟨#[], ks.length, [], heap_alloc_new w _, Nat.le_refl _, Got.start ks, World.ownsRow_nil _ _ _ _, (Below.refl _ _).alloc (Nat.le_refl _) _, by simp, fun _ => rfl⟩
  case round =>
    obtain ⟨seen, c0, cs, hr, hc0, hg, hown, hbl, hlt, hnil⟩ := hrel
    have hbr : wr.heap[b]? = some (.map ents ents.size) := (hbl.block b hblt).trans hb
    have hold2 : ∀ x ∈ ents.toList, x.born < ks.length := fun x hx => by have := hold x hx; omega
    rcases run_next_at (P := Try.prog) wr 0 w.heap.size b ks.length c0 seen ents ents.size hr hbr hold2 hc0 with ⟨h0, hrun⟩ | ⟨e, hel, w1, hw1, hrun⟩
    · have hperm := hg.all (fun i hi => left_none hbn1 h0 i (by omega))
      have hso := sortI_perm hperm
      obtain ⟨hl, ⟨rfl, hn0⟩ | ⟨g, cap, cur, rfl, hgb, hgw, hle, hm, hcs, htk⟩⟩ := hown
      · have hcs0 : cs = [] := List.length_eq_zero_iff.1 hn0
        go_wp2_with (go_at_call 70; refine (Try.slices_Sort_int_none none 0 wr).mono ?_; rintro e w2 ⟨rfl, rfl⟩)
        go_ret
        have hk0 : ks = [] := by have := hperm.length_eq; rw [hcs0] at this; exact List.length_eq_zero_iff.1 (by simpa using this.symm)
        rcases hrR with ⟨_, rfl, rfl⟩ | ⟨hne, _, _⟩
        · exact ⟨_, fun _ => 0, rfl, ⟨hbl.os, hbl.tape, hbl.output, hbl.size, fun k hk _ => hbl.block k hk, fun id hid => absurd (by simp [memL]) hid, fun id b hb => by simp [memL] at hb⟩, ⟨fun i j hi => absurd (by simp [memL]) hi, fun id b hb => by simp [memL] at hb⟩, .base .nilslice⟩
        · exact absurd hk0 hne
      · have hlen : cs.length ≤ ks.length := hg.len
        have hgl : g < wr.heap.size := (Array.getElem?_eq_some_iff.1 hgw).1
        have hval : ∀ (i : Nat) (x : Int), cs[i]? = some x → cur.getD i undef = .int .i64 x := fun i x hx => by
          have hi := (List.getElem?_eq_some_iff.1 hx).1
          have h1 : (cur.toList.take (cs.length * 1))[i]? = (cs.map (Value.int .i64))[i]? := by rw [htk]
          rw [List.getElem?_take, if_pos (by omega), List.getElem?_map, hx] at h1
          rw [Array.getD_eq_getD_getElem?, ← Array.getElem?_toList, h1]; rfl
        go_wp2_with (go_at_call 70; refine (Try.slices_Sort_int g 0 cap cs wr (holds_int hgw (by omega) hval) hgl (by omega)).mono ?_; rintro e w2 ⟨rfl, q, os, rfl⟩)
        go_ret
        have hrow : (grow (putRow (Value.int .i64) (Sort.ahead wr q) g 0 (cs.mergeSort fun x y => decide (x ≤ y)).toArray) os).heap[g]? = some (.cells (putCells (Value.int .i64) 0 (sortI cs).toArray cur) 3 (0, 0)) := by
          rw [heap_grow_old _ _ (by rw [size_putRow]; exact hgl)]
          show (wr.heap.modify g _)[g]? = _
          rw [Array.getElem?_modify, if_pos rfl, hgw]; rfl
        have hlk : ks.length = cs.length := hperm.length_eq.symm
        rcases hrR with ⟨h0, _, _⟩ | ⟨hne, rfl, rfl⟩
        · exfalso
          have : cs.length = 0 := by rw [← hlk, h0]; rfl
          have := hnil (List.length_eq_zero_iff.1 this)
          cases this
        · rw [hlk, ← hso]
          have hsl : (sortI cs).length = cs.length := sortI_len cs
          have hps : (putCells (Value.int .i64) 0 (sortI cs).toArray cur).size = cur.size := by simp [putCells]
          refine ⟨_, fun _ => g, rfl, ⟨hbl.os, hbl.tape, hbl.output, ?_, fun k hk _ => ?_, fun id hid => .inr (by show w.heap.size ≤ g; omega), fun id b hb => by simp [memL] at hb⟩, ⟨fun i j hi hj _ => ?_, fun id b hb => ?_⟩, ?_⟩
          · rw [size_grow, size_putRow]; exact Nat.le_trans hbl.size (Nat.le_add_right _ _)
          · rw [heap_grow_old _ _ (by rw [size_putRow]; show k < wr.heap.size; omega)]
            show (wr.heap.modify g _)[k]? = _
            rw [Array.getElem?_modify, if_neg (by omega)]; exact hbl.block k hk
          · have z : ∀ {i : Nat}, memL [Blk.row 1 ((sortI cs).map (AV.int .i64)) 0] i ≠ none → i = 0 := fun {i} h => by
              match i with
              | 0 => rfl
              | i + 1 => exact absurd (by simp [memL]) h
            rw [z hi, z hj]
          · match id, hb with
            | 0, hb =>
              obtain rfl : Blk.row 1 ((sortI cs).map (AV.int .i64)) 0 = b := by simpa [memL] using hb
              refine ⟨Nat.one_pos, fun e he => by obtain ⟨x, _, rfl⟩ := List.mem_map.1 he; rfl, _, _, hrow, by rw [hps, List.length_map, hsl]; omega, fun i e j c h1 h2 => ?_⟩
              rw [List.getElem?_map] at h1
              obtain ⟨x, hx, rfl⟩ := Option.map_eq_some_iff.1 h1
              have hj : j = 0 := by
                have := (List.getElem?_eq_some_iff.1 h2).1
                simp [cellsOf] at this; omega
              subst hj
              simp only [cellsOf, List.getElem?_cons_zero, Option.some.injEq] at h2
              subst h2
              have hi := (List.getElem?_eq_some_iff.1 hx).1
              have hv : (putCells (Value.int .i64) 0 (sortI cs).toArray cur).getD (i * 1 + 0) undef = .int .i64 x := by
                rw [Nat.mul_one, Nat.add_zero, Array.getD_eq_getD_getElem?]
                unfold putCells
                rw [Array.getElem?_mapIdx, Array.getElem?_eq_getElem (by omega)]
                simp only [Option.map_some, Option.getD_some]
                rw [if_pos ⟨Nat.zero_le _, by simpa using hi⟩, Nat.sub_zero, getElem!_pos _ _ (by simpa using hi)]
                have := (List.getElem?_eq_some_iff.1 hx).2
                simp [this]
              rw [hv]
              exact .base (.int _ _)
            | id + 1, hb => simp [memL] at hb
          · refine .slice 0 0 _ 0 1 _ 0 _ _ cap rfl (Nat.le_refl _) fun _ => ⟨by rw [List.length_map, hsl]; omega, rfl, 0, _, _, rfl, fun _ => by simp, by omega, hrow, by rw [hps]; omega⟩
    · obtain ⟨hee, hsee⟩ := mem_left hel
      obtain ⟨i, hie⟩ := hmem e hee
      obtain ⟨hbi, hki⟩ := hbn i e hie
      have hilt : i < ks.length := by have := (Array.getElem?_eq_some_iff.1 hie).1; omega
      have hsi : seen.contains i = false := by rw [← hbi]; exact hsee
      have hg2 := hg.step hilt hsi
      have hw1h : w1.heap = wr.heap := by rcases hw1 with rfl | rfl <;> rfl
      obtain ⟨w2, hw2⟩ : ∃ w2, w2 = setBlock w1 w.heap.size (.mapIter (some b) ks.length (seen.push e.born) ents.size) := ⟨_, rfl⟩
      rw [← hw2] at hrun
      have hh2 : w2.heap = wr.heap.setIfInBounds w.heap.size (.mapIter (some b) ks.length (seen.push e.born) ents.size) := by rw [hw2, ← hw1h]; rfl
      have hr2 : w2.heap[w.heap.size]? = some (.mapIter (some b) ks.length (seen.push e.born) ents.size) := by rw [hh2]; simp [hlt]
      have ho2 : ∀ k, k ≠ w.heap.size → w2.heap[k]? = wr.heap[k]? := fun k hk => by rw [hh2]; simp [Ne.symm hk]
      have hb2 : w2.heap[b]? = some (.map ents ents.size) := by rw [ho2 b (by omega)]; exact hbr
      have hbl2 : Below w.heap.size w w2 := by
        refine ⟨?_, ?_, ?_, by rw [hh2]; simpa using hbl.size, fun k hk => by rw [ho2 k (by omega)]; exact hbl.block k hk⟩
        · rw [hw2]; rcases hw1 with rfl | rfl <;> exact hbl.os
        · rw [hw2]; rcases hw1 with rfl | rfl <;> exact hbl.tape
        · rw [hw2]; rcases hw1 with rfl | rfl <;> exact hbl.output
      have hlt2 : w.heap.size < w2.heap.size := by rw [hh2]; simpa using hlt
      have hown2 : w2.ownsRow (w.heap.size + 1) 3 1 u3 cs.length (cs.map (Value.int .i64)) := by
        obtain ⟨hl, ⟨rfl, hn0⟩ | ⟨g, cap, cur, rfl, hgb, hgw, hle, hm, hcs, htk⟩⟩ := hown
        · exact ⟨hl, .inl ⟨rfl, hn0⟩⟩
        · exact ⟨hl, .inr ⟨g, cap, cur, rfl, hgb, by rw [ho2 g (by omega)]; exact hgw, hle, hm, hcs, htk⟩⟩
      have hent := run_entry_at (P := Try.prog) w2 w.heap.size b ks.length seen ents ents.size e hr2 hb2 hee hnd
      rw [hki] at hrun hent
      generalize hxe : ks.getD i 0 = x at hrun hent hg2 hki
      have hlen := hg.len
      clear hw2 hh2 hw1h hw1
      go_wp2_with (at_builtin; refine wpList_append_own _ rfl _ _ 49 rfl (w.heap.size + 1) 3 i0 (.int .i64 0) 1 8 Try.underlying49 hi hz0 hz1 hz2 rfl (by decide) _ _ _ rfl (hown2.alloc _) ⟨w2.heap.size, 0, none⟩ 1 1 [.int .i64 x] rfl rfl ?c1 ?c2 ?c3 ?c4 ?c5 ?_)
      trace_state
      case c1 =>
        intro j u hj
        match j, hj with
        | 0, hj => simp at hj; subst hj; simp [Addr.add]
      case c2 => intro u hu; simp at hu; subst hu; rfl
      case c3 => unfold maxLen; omega
      case c4 => omega
      case c5 => simp; omega
      · intro v' w3 hown3 hgrow hnv
        have hgb : ∀ k, k < w.heap.size + 1 → w3.heap[k]? = w2.heap[k]? := fun k hk => by
          rw [hgrow.block k (by simp; omega) (fun he => ?_), heap_alloc_old w2 _ (by omega)]
          have := (hown2.lt k he.symm).1; omega
        have hbl3 : Below w.heap.size w w3 := ⟨hgrow.os.trans hbl2.os, hgrow.tape.trans hbl2.tape, hgrow.output.trans hbl2.output, by have := hgrow.size; have := hbl2.size; simp at *; omega, fun k hk => (hgb k (by omega)).trans (hbl2.block k hk)⟩
        have hr3 : w3.heap[w.heap.size]? = some (.mapIter (some b) ks.length (seen.push e.born) ents.size) := (hgb _ (by omega)).trans hr2
        have hlt3 : w.heap.size < w3.heap.size := (Array.getElem?_eq_some_iff.1 hr3).1
        have hlen2 := hg2.len
        clear hgrow hown hown2 hrun hent
        go_wp2
        go_roundw
        case rel =>
          refine ⟨seen.push e.born, ents.size, cs ++ [x], hr3, by omega, by rw [hbi]; exact hg2, by simpa using hown3, hbl3, hlt3, fun h => by simp at h⟩
        case measure =>
          show (leftOf ents (World.iterSeen _ w.heap.size)).size < (leftOf ents (World.iterSeen _ w.heap.size)).size
          have e1 : w3.iterSeen w.heap.size = seen.push e.born := by unfold World.iterSeen; rw [hr3]
          have e2 : wr.iterSeen w.heap.size = seen := by unfold World.iterSeen; rw [hr]
          rw [e1, e2]
          exact left_shrinks ents seen e hel
end Go.Proofs.Ytioiffbnbjalcaa
