/- Small laws of memory and of maps with whole numbers as keys, for every program. -/
import Derived.WalkKit
import Derived.ProofKit
import Derived.OpenShut
import Derived.WalkLawsBesides
import Derived.WalkSpells
set_option linter.unusedVariables false
set_option linter.unusedSimpArgs false
namespace Go.Proofs.Ytioiffbnbjalcaa
open Go.RowKit

/-- An insertion of a key that is not there, into the block that was laid last. -/
theorem run_insert_last {P : Program} (mty kt et : TypeId) (hm : P.underlying mty = some (.map kt et)) (hk : P.underlying kt = some (.int .i64))
    (w : World) (k : Int) (val : Value) (es : Array MapEntry) (clock : Nat) (hf : Instr.findNow (.int .i64) (.int .i64 k) es.toList 0 = some none) :
    (Instr.mapUpdate mty (.map (some w.heap.size)) (.int .i64 k) val).run P (w.alloc (.map es clock)) = .ok () (w.alloc (.map (es.push { key := .int .i64 k, val := val, born := clock }) (clock + 1))) := by
  have hc : ∀ w, (Instr.checkKey false 10000 kt (.int .i64 k)).run P w = .ok () w := fun w => MapKept.run_checkKey (d := .int .i64) (k := .int .i64 k) hk (by simp [MapKept.IsKey]) false 9999
  have hb := (MapKept.heap_alloc w (.map es clock)).1
  have hs : ∀ o', (w.heap.push (.map es clock)).setIfInBounds w.heap.size o' = w.heap.push o' := by
    intro o'
    apply Array.ext
    · simp
    · intro i h1 h2
      by_cases hi : w.heap.size = i
      · subst hi; simp
      · have : i < w.heap.size := by simp at h1; omega
        rw [Array.getElem_setIfInBounds (by simpa using h1)]
        simp [Array.getElem_push, this, hi]
  have he : ∀ o', ({ heap := (w.alloc (.map es clock)).heap.setIfInBounds w.heap.size o', tape := w.tape, drawn := w.drawn, os := (w.alloc (.map es clock)).os, output := (w.alloc (.map es clock)).output } : World) = w.alloc o' := fun o' => by
    show ({ heap := (w.heap.push (.map es clock)).setIfInBounds w.heap.size o', tape := w.tape, drawn := w.drawn, os := w.os, output := w.output } : World) = { heap := w.heap.push o', tape := w.tape, drawn := w.drawn, os := w.os, output := w.output }
    rw [hs]
  simp [Instr.mapUpdate, run_underlying hm, MapKept.run_getObj_map hb, hc, MapKept.run_findKey hk hf, MapKept.run_setObj_map _ hb, Result.andThen, he]

/-- A look-up, with 'ok', of a key that is there or not. -/
theorem run_lookup_int {P : Program} (mty kt et : TypeId) (hm : P.underlying mty = some (.map kt et)) (hk : P.underlying kt = some (.int .i64))
    (w : World) (k : Int) (es : Array MapEntry) (clock r i : Nat) (val : Value) (hb : w.heap[r]? = some (.map es clock)) (hf : Instr.findNow (.int .i64) (.int .i64 k) es.toList 0 = some (some (i, val))) :
    (Instr.lookup mty (.map (some r)) (.int .i64 k) true).run P w = .ok (.tuple #[val, .bool true]) w := by
  have hc : ∀ b w, (Instr.checkKey b 10000 kt (.int .i64 k)).run P w = .ok () w := fun b w => MapKept.run_checkKey (d := .int .i64) (k := .int .i64 k) hk (by simp [MapKept.IsKey]) b 9999
  simp [Instr.lookup, run_underlying hm, MapKept.run_getObj_map hb, hc, MapKept.run_findKey hk hf, Result.andThen]

theorem run_lookup_int_none {P : Program} (mty kt et : TypeId) (hm : P.underlying mty = some (.map kt et)) (hk : P.underlying kt = some (.int .i64))
    (w : World) (k : Int) (es : Array MapEntry) (clock r : Nat) (z : Value) (hz : (zeroValue et).run P w = .ok z w) (hb : w.heap[r]? = some (.map es clock)) (hf : Instr.findNow (.int .i64) (.int .i64 k) es.toList 0 = some none) :
    (Instr.lookup mty (.map (some r)) (.int .i64 k) true).run P w = .ok (.tuple #[z, .bool false]) w := by
  have hc : ∀ b w, (Instr.checkKey b 10000 kt (.int .i64 k)).run P w = .ok () w := fun b w => MapKept.run_checkKey (d := .int .i64) (k := .int .i64 k) hk (by simp [MapKept.IsKey]) b 9999
  simp [Instr.lookup, run_underlying hm, MapKept.run_getObj_map hb, hc, MapKept.run_findKey hk hf, hz, Result.andThen]

end Go.Proofs.Ytioiffbnbjalcaa
