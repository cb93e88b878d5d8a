/- slices.Sort and slices.Compact of whole numbers: the shelf's contracts at this program (laid by the shelf's tool), and as contracts of the evaluator that are lent the row. -/
import Derived.Shelf.Sort.Plain
import Derived.Ground.Names2Prog
import Derived.Shelf.Slices.CompactI
import Derived.Shelf.Slices.In.SortNone
import Derived.Lib.RowBridge
import Derived.Test.YtfhfdenmcneamaaProg
import Derived.Test.YtfhfdenmcneamaaEvU
import Derived.Test.YtfhfdenmcneamaaTr
set_option linter.unusedVariables false
set_option linter.unusedSimpArgs false
namespace Go.Proofs.Ytfhfdenmcneamaa
section
open Go.Shelf
def Try.lays189_ren : Go.Shelf.Ren := ⟨fun | 189 => 65 | 125 => 70 | 257 => 69 | 128 => 80 | 129 => 81 | 294 => 71 | 295 => 72 | 296 => 73 | 297 => 74 | 298 => 75 | 299 => 76 | 216 => 77 | 300 => 78 | 301 => 79 | 328 => 82 | 329 => 83 | 330 => 84 | 331 => 85 | 332 => 86 | 215 => 87 | 343 => 88 | n => n, fun | 28 => 36 | 3 => 3 | 46 => 81 | 0 => 0 | 51 => 90 | 53 => 92 | 4 => 4 | 183 => 84 | 182 => 83 | 131 => 73 | 5 => 5 | 9 => 9 | 218 => 93 | 222 => 97 | 228 => 99 | 229 => 100 | n => n, fun | n => n⟩
theorem Try.lays189 : Go.Proofs.Lays.n189 Try.prog Try.lays189_ren := {
  mixed := by kernel_rfl
  f125 := Try.func70.trans (congrArg some (by kernel_rfl))
  f128 := Try.func80.trans (congrArg some (by kernel_rfl))
  f129 := Try.func81.trans (congrArg some (by kernel_rfl))
  f189 := Try.func65.trans (congrArg some (by kernel_rfl))
  f215 := Try.func87.trans (congrArg some (by kernel_rfl))
  f216 := Try.func77.trans (congrArg some (by kernel_rfl))
  f257 := Try.func69.trans (congrArg some (by kernel_rfl))
  f294 := Try.func71.trans (congrArg some (by kernel_rfl))
  f295 := Try.func72.trans (congrArg some (by kernel_rfl))
  f296 := Try.func73.trans (congrArg some (by kernel_rfl))
  f297 := Try.func74.trans (congrArg some (by kernel_rfl))
  f298 := Try.func75.trans (congrArg some (by kernel_rfl))
  f299 := Try.func76.trans (congrArg some (by kernel_rfl))
  f300 := Try.func78.trans (congrArg some (by kernel_rfl))
  f301 := Try.func79.trans (congrArg some (by kernel_rfl))
  f328 := Try.func82.trans (congrArg some (by kernel_rfl))
  f329 := Try.func83.trans (congrArg some (by kernel_rfl))
  f330 := Try.func84.trans (congrArg some (by kernel_rfl))
  f331 := Try.func85.trans (congrArg some (by kernel_rfl))
  f332 := Try.func86.trans (congrArg some (by kernel_rfl))
  f343 := Try.func88.trans (congrArg some (by kernel_rfl))
  t0 := Try.underlying0
  a0 := Try.isAgg0
  z0 := Try.sizeOf0
  v0 := Try.zeroValue0
  t3 := Try.underlying3
  a3 := Try.isAgg3
  z3 := Try.sizeOf3
  v3 := Try.zeroValue3
  t4 := Try.underlying4
  a4 := Try.isAgg4
  z4 := Try.sizeOf4
  v4 := Try.zeroValue4
  t5 := Try.underlying5
  a5 := Try.isAgg5
  z5 := Try.sizeOf5
  v5 := Try.zeroValue5
  t9 := Try.underlying9
  a9 := Try.isAgg9
  z9 := Try.sizeOf9
  v9 := Try.zeroValue9
  t28 := Try.underlying36
  a28 := Try.isAgg36
  z28 := Try.sizeOf36
  v28 := Try.zeroValue36
  t46 := Try.underlying81
  a46 := Try.isAgg81
  z46 := Try.sizeOf81
  v46 := Try.zeroValue81
  t51 := Try.underlying90
  a51 := Try.isAgg90
  z51 := Try.sizeOf90
  v51 := Try.zeroValue90
  t53 := Try.underlying92
  a53 := Try.isAgg92
  z53 := Try.sizeOf92
  v53 := Try.zeroValue92
  t131 := Try.underlying73
  a131 := Try.isAgg73
  z131 := Try.sizeOf73
  v131 := Try.zeroValue73
  t182 := Try.underlying83
  a182 := Try.isAgg83
  z182 := Try.sizeOf83
  v182 := Try.zeroValue83
  t183 := Try.underlying84
  a183 := Try.isAgg84
  z183 := Try.sizeOf84
  v183 := Try.zeroValue84
  t218 := Try.underlying93
  a218 := Try.isAgg93
  z218 := Try.sizeOf93
  v218 := Try.zeroValue93
  t222 := Try.underlying97
  a222 := Try.isAgg97
  z222 := Try.sizeOf97
  v222 := Try.zeroValue97
  t228 := Try.underlying99
  a228 := Try.isAgg99
  z228 := Try.sizeOf99
  v228 := Try.zeroValue99
  t229 := Try.underlying100
  a229 := Try.isAgg100
  z229 := Try.sizeOf100
  v229 := Try.zeroValue100 }
open Go.Sort Go.RowKit in
theorem Try.slices_Sort_int (blk off cap : Nat) (zs : List Int) (w : World) (hH : Holds (Value.int .i64) w blk off zs.toArray) (hblk : blk < w.heap.size) (hsz : zs.length < 4611686018427387904) :
    Calls Try.prog 65 #[.slice (some ⟨blk, off, none⟩) zs.length cap] w fun e w' =>
      e = .returned (.tuple #[]) ∧ ∃ n os, w' = grow (putRow (Value.int .i64) (Sort.ahead w n) blk off (zs.mergeSort fun x y => decide (x ≤ y)).toArray) os := Any.slices_Sort_int Try.lays189 blk off cap zs w hH hblk hsz
def Try.laysNm220_ren : Go.Shelf.Ren := ⟨fun | 20 => 45 | n => n, fun | 22 => 36 | 3 => 3 | 4 => 4 | 0 => 0 | n => n, fun | n => n⟩
theorem Try.laysNm220 : Go.Proofs.Lays2.n20 Try.prog Try.laysNm220_ren := {
  mixed := by kernel_rfl
  f20 := Try.func45.trans (congrArg some (by kernel_rfl))
  t0 := Try.underlying0
  a0 := Try.isAgg0
  z0 := Try.sizeOf0
  v0 := Try.zeroValue0
  t3 := Try.underlying3
  a3 := Try.isAgg3
  z3 := Try.sizeOf3
  v3 := Try.zeroValue3
  t4 := Try.underlying4
  a4 := Try.isAgg4
  z4 := Try.sizeOf4
  v4 := Try.zeroValue4
  t22 := Try.underlying36
  a22 := Try.isAgg36
  z22 := Try.sizeOf36
  v22 := Try.zeroValue36
  i3 := by kernel_rfl }
open Go.RowKit Go.Lib Go.Sort in
/-- slices.Compact at []int: "Compact replaces consecutive runs of equal elements with a single copy. This is like the uniq command found on Unix. Compact modifies the contents of the slice s and returns the modified slice, which may have a smaller length. Compact zeroes the elements between the new length and the original length. The result preserves the nilness of s.": IT RETURNS THE SLICE CUT TO 'Lib.compact zs'; ITS CELLS HOLD 'Lib.compact zs', THEN ZERO VALUES up to the old length; all else is as it was, but for the count of draws. IN THE WORDS OF slices.Sort's CONTRACT ('Holds', 'putRow'): so the everyday 'slices.Sort(xs); xs = slices.Compact(xs)' goes from the one contract to the other. It asks 'zs.length ≤ cap' (every slice's: the reslicing 's[:k]' looks at it). Length 0, nil: '.._empty'. (LAID: no walk: one application.) -/
theorem Try.slices_Compact_int (blk off cap : Nat) (zs : List Int) (w : World) (hH : Holds (Value.int .i64) w blk off zs.toArray) (hsz : zs.length ≤ 9223372036854775807) (hcap : zs.length ≤ cap) :
    Calls Try.prog 45 #[.slice (some ⟨blk, off, none⟩) zs.length cap] w fun e w' => e = .returned (.slice (some ⟨blk, off, none⟩) (Lib.compact zs).length cap) ∧ ∃ q, w' = putRow (Value.int .i64) (Sort.ahead w q) blk off (Lib.compact zs ++ List.replicate (zs.length - (Lib.compact zs).length) 0).toArray := Any.slices_Compact_int Try.laysNm220 blk off cap zs w hH hsz hcap
open Go.RowKit Go.Lib Go.Sort in
/-- The same at a slice of length 0, a nil one too: it comes back as it is. (LAID: no walk: one application.) -/
theorem Try.slices_Compact_int_empty (a : Option Addr) (cap : Nat) (w : World) :
    Calls Try.prog 45 #[.slice a 0 cap] w fun e w' => e = .returned (.slice a 0 cap) ∧ w' = w := Any.slices_Compact_int_empty Try.laysNm220 a cap w
open Go.RowKit Go.Sort in
/-- .. and plain. (LAID: no walk: one application.) -/
theorem Try.slices_Sort_int_none (p : Option Addr) (cap : Nat) (w : World) :
    Calls Try.prog 65 #[.slice p 0 cap] w fun e w' => e = .returned (.tuple #[]) ∧ w' = w := Any.slices_Sort_int_none Try.lays189 p cap w
end
open Go.RowKit Go.Sort
theorem holds_int {w : World} {b : Nat} {cs : Array Value} {t : TypeId} {l : List Int} (h : w.heap[b]? = some (.cells cs t (0, 0))) (hl : l.length ≤ cs.size) (hx : ∀ (i : Nat) (x : Int), l[i]? = some x → cs.getD i undef = .int .i64 x) : Holds (Value.int .i64) w b 0 l.toArray := fun j hj => by
  have hj' : j < l.length := by simpa using hj
  refine ⟨?_, ?_⟩
  · unfold World.cell?
    rw [h]
    have h1 := hx j (l[j]) (List.getElem?_eq_getElem hj')
    rw [Array.getD_eq_getD_getElem?, Array.getElem?_eq_getElem (by omega)] at h1
    simp only [Nat.zero_add, Option.isSome_none, Bool.false_eq_true, if_false]
    rw [Array.getElem?_eq_getElem (by omega)]
    simp only [Option.getD_some] at h1
    rw [h1, getElem!_pos _ _ (by simpa using hj')]
    simp
  · unfold World.frozen?
    rw [h]; simp
/-- A function that turns a row of whole numbers in its place. -/
theorem fnL_row {P : Program} {g : FuncId} {l l' : List Int} {r : AV} {rv : Nat → Nat → Value} (hl : l'.length = l.length) (hn : l ≠ []) (hc : callable P g = true)
    (hr : ∀ (A : Nat → Prop) (m : Mem) (ρ : Nat → Nat) (w : World) (c : Nat) (cs : Array Value) (t : TypeId), m 0 = some (.row 1 (l'.map encI) 0) → w.heap[ρ 0]? = some (.cells cs t (0, 0)) → l.length ≤ c → c ≤ cs.size → Rep A m ρ w r (rv (ρ 0) c))
    (h : ∀ (b cap : Nat) (w : World), Holds (Value.int .i64) w b 0 l.toArray → b < w.heap.size → l.length ≤ cap →
      Calls P g #[.slice (some ⟨b, 0, none⟩) l.length cap] w fun e w' => e = .returned (rv b cap) ∧ ∃ n os, w' = grow (putRow (Value.int .i64) (Sort.ahead w n) b 0 l'.toArray) os) :
    FnL P g [.row 1 (l.map encI) 0] [.slice 0 0 l.length 0] r [.row 1 (l'.map encI) 0] := by
  refine ⟨hc, fun B ρ w vs hF hs ha => ?_⟩
  have hpos : 0 < l.length := List.length_pos_iff.2 hn
  have h0 := ha 0 _ rfl
  obtain ⟨vs⟩ := vs
  match vs, hs with
  | [v], _ =>
    have h0' : Rep (Allow B w.heap.size) (memL [.row 1 (l.map encI) 0]) ρ w (.slice 0 0 l.length 0) v := h0
    cases h0' with
    | base h => cases h
    | slice id lo len ver k es ver' a n c hm hle hv =>
      obtain ⟨hlen, rfl, o, ws, t, rfl, ho, hcl, hw, hsz⟩ := hv (by simp [memL] at hm; omega)
      have hk : k = 1 := by simp [memL] at hm; omega
      subst hk
      obtain rfl : o = 0 := by have := ho (by omega); omega
      obtain ⟨_, _, cs, t2, hcs, hcsl, hce⟩ := hF.at_ 0 _ rfl
      rw [hw] at hcs
      obtain ⟨rfl, rfl⟩ : ws = cs ∧ t = t2 := by simpa using hcs
      have hlcs : l.length ≤ ws.size := by simpa using hcsl
      have hx : ∀ (i : Nat) (x : Int), l[i]? = some x → ws.getD i undef = .int .i64 x := fun i x hi => by
        have := hce i (encI x) 0 (encI x) (by rw [List.getElem?_map, hi]; rfl) rfl
        rw [Nat.mul_one, Nat.add_zero] at this
        revert this
        generalize ws.getD i undef = v
        intro this
        cases this with
        | base h => cases h; rfl
      have hb : ρ 0 < w.heap.size := (Array.getElem?_eq_some_iff.1 hw).1
      refine (h (ρ 0) c w (holds_int hw hlcs hx) hb hcl).mono fun e w' he => ?_
      obtain ⟨he, q, os, hw'⟩ := he
      have hrow : w'.heap[ρ 0]? = some (.cells (putCells (Value.int .i64) 0 l'.toArray ws) t (0, 0)) := by
        subst hw'
        rw [heap_grow_old _ _ (by rw [size_putRow]; exact hb)]
        show (w.heap.modify (ρ 0) _)[ρ 0]? = _
        rw [Array.getElem?_modify, if_pos rfl, hw]; rfl
      have hsize : (putCells (Value.int .i64) 0 l'.toArray ws).size = ws.size := by simp [putCells]
      have hids : ∀ id, memL [.row 1 (l'.map encI) 0] id ≠ none → id = 0 := fun id hid => by
        match id with
        | 0 => rfl
        | k + 1 => exact absurd rfl hid
      refine ⟨_, ρ, he, ⟨?_, ?_, ?_, ?_, ?_, ?_⟩, ?_, ⟨?_, ?_⟩, hr _ _ _ _ c _ t rfl hrow hcl (by rw [hsize]; omega)⟩
      · subst hw'; rfl
      · subst hw'; rfl
      · subst hw'; rfl
      · subst hw'; rw [size_grow, size_putRow]; exact Nat.le_add_right _ _
      · intro b hb2 hne
        have hne0 : ρ 0 ≠ b := hne 0 (by simp [memL])
        subst hw'
        rw [heap_grow_old _ _ (by rw [size_putRow]; exact hb2)]
        show (w.heap.modify (ρ 0) _)[b]? = _
        rw [Array.getElem?_modify, if_neg hne0]
      · intro id hid
        rw [hids id hid]
        exact .inl ⟨by simp [memL], rfl⟩
      · intro id hid cs2 hcs2
        match id with
        | 0 => simp [memL] at hcs2
        | k + 1 => simp [memL] at hcs2
      · intro i j hi hj _
        rw [hids i hi, hids j hj]
      · intro id b hb2
        have := hids id (by rw [hb2]; simp)
        subst this
        obtain rfl : b = .row 1 (l'.map encI) 0 := by simpa [memL] using hb2.symm
        refine ⟨Nat.one_pos, fun e he => ?_, _, t, hrow, by rw [hsize]; simp [hl]; exact hlcs, fun i e' j c' hi hj => ?_⟩
        · obtain ⟨x, _, rfl⟩ := List.mem_map.1 he; rfl
        · rw [List.getElem?_map] at hi
          obtain ⟨x, hx2, rfl⟩ := Option.map_eq_some_iff.1 hi
          match j, hj with
          | 0, hj =>
            obtain rfl : encI x = c' := by simpa [cellsOf] using hj
            obtain ⟨hi2, hxe⟩ := List.getElem?_eq_some_iff.1 hx2
            have : (putCells (Value.int .i64) 0 l'.toArray ws).getD (i * 1 + 0) undef = .int .i64 x := by
              rw [Nat.mul_one, Nat.add_zero, Array.getD_eq_getD_getElem?]
              unfold putCells
              rw [Array.getElem?_mapIdx, Array.getElem?_eq_getElem (by omega)]
              simp only [Option.map_some, Option.getD_some]
              rw [if_pos ⟨Nat.zero_le _, by simpa using hi2⟩, Nat.sub_zero, getElem!_pos _ _ (by simpa using hi2)]
              simp [hxe]
            rw [this]
            exact .base (.int _ _)
          | j + 1, hj => simp [cellsOf] at hj
def sortI (l : List Int) : List Int := l.mergeSort fun x y => decide (x ≤ y)
theorem sortI_len (l : List Int) : (sortI l).length = l.length := List.length_mergeSort _
theorem num_sort {l : List Int} (hn : l ≠ []) (hl : l.length ≤ 1099511627776) : FnL Try.prog 65 [.row 1 (l.map encI) 0] [.slice 0 0 l.length 0] (.tuple []) [.row 1 ((sortI l).map encI) 0] :=
  fnL_row (rv := fun _ _ => .tuple #[]) (sortI_len l) hn (by kernel_rfl) (fun A m ρ w c cs t _ _ _ _ => .base (.tuple [] #[] rfl (fun i c h => by simp at h)))
    (fun b cap w hH hb hc => Try.slices_Sort_int b 0 cap l w hH hb (by omega))
/-- Runs of equal numbers once; zeros behind. -/
def cptI (l : List Int) : List Int := Lib.compact l ++ List.replicate (l.length - (Lib.compact l).length) 0
theorem cptI_len (l : List Int) : (cptI l).length = l.length := by
  have := Lib.compact_length_le l
  unfold cptI; simp; omega
theorem num_compact {l : List Int} (hn : l ≠ []) (hl : l.length ≤ 1099511627776) : FnL Try.prog 45 [.row 1 (l.map encI) 0] [.slice 0 0 l.length 0] (.slice 0 0 (Lib.compact l).length 0) [.row 1 ((cptI l).map encI) 0] :=
  fnL_row (rv := fun b c => .slice (some ⟨b, 0, none⟩) (Lib.compact l).length c) (cptI_len l) hn (by kernel_rfl) (fun A m ρ w c cs t hm hw hc hcs => by
      have hle := Lib.compact_length_le l
      exact .slice 0 0 _ 0 1 _ 0 _ _ c hm (Nat.le_refl _) (fun _ => ⟨by rw [List.length_map, cptI_len]; omega, rfl, 0, cs, t, rfl, fun _ => by simp, by omega, hw, by omega⟩))
    (fun b cap w hH hb hc => (Try.slices_Compact_int b 0 cap l w hH (by omega) hc).mono fun e w' h => by
      obtain ⟨h1, q, h2⟩ := h
      exact ⟨h1, q, #[], by rw [grow_empty]; exact h2⟩)
end Go.Proofs.Ytfhfdenmcneamaa
