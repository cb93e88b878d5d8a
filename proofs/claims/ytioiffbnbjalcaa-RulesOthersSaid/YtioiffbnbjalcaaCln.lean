/- slices.Clone, at every list. -/
import Derived.Test.YtioiffbnbjalcaaClnM
import Derived.Test.YtioiffbnbjalcaaProg
import Derived.Lib.SliceRun
set_option linter.unusedVariables false
set_option linter.unusedSimpArgs false
namespace Go.Proofs.Ytioiffbnbjalcaa
open Go.RowKit
set_option maxRecDepth 100000
theorem cl_ru_inf : (Try.prog.info? 28).map (fun i => (i.zero.map (fun z => z.cells.size), i.size, i.bytes)) = some (some 10, 10, 80) := by kernel_rfl
set_option maxHeartbeats 2000000 in
theorem cl_ru_w : CloneW Try.prog 44 28 10 80 := by
  intro B L v w h0 hk hn
  obtain ⟨ei, hi, h1⟩ := Option.map_eq_some_iff.1 cl_ru_inf
  obtain ⟨hz, h3⟩ := Prod.mk.inj h1
  obtain ⟨hsz, hby⟩ := Prod.mk.inj h3
  obtain ⟨z, hz0, hz1⟩ := Option.map_eq_some_iff.1 hz
  rcases list_news h0 hk with ⟨rfl, rfl⟩ | ⟨ad, cap, news, rfl, hN, hc⟩
  · go_enter Try.func44, Try.ntmps44
    go_wp2
    rw [Lib.run_eql_slice_nil (P := Try.prog) w 40 28 none 0 0 0 0 Try.underlying40]
    go_wp2
    go_ret
    exact ⟨_, rfl, .refl _ _, .inl (by simp)⟩
  · go_enter Try.func44, Try.ntmps44
    go_wp2
    rw [Lib.run_eql_slice_nil (P := Try.prog) w 40 28 (some ad) L.length cap 0 0 Try.underlying40]
    go_wp2_with (at_builtin; refine wpList_append_own_at _ rfl _ _ 40 rfl w.heap.size 28 ei z 10 80 Try.underlying40 hi hz0 hsz hby hz1 (by decide) _ 0 [] rfl ?c0 ad L.length cap news rfl hN.len ?c1 hN.one ?c3 ?c4 ?c5 ?_)
    case c0 => exact ⟨rfl, .inr ⟨w.heap.size, 0, #[], rfl, Nat.le_refl _, heap_alloc_new w _, Nat.le_refl _, Nat.zero_le _, rfl, rfl⟩⟩
    case c1 => exact fun j u hj => (World.cell?_of_block (heap_alloc_old w _ (World.block_lt_of_cell? w _ (hc j u hj)))).trans (hc j u hj)
    case c3 => unfold maxLen; omega
    case c4 => omega
    case c5 => simp
    · intro v' w' ho hg _ _
      go_wp2
      go_ret
      have hb : ∀ b, b < w.heap.size → w'.heap[b]? = w.heap[b]? := fun b hb => (hg.block b (by simp; omega) (fun e => by simp [Value.ownBlock] at e; omega)).trans (heap_alloc_old w _ hb)
      have hsz' : w.heap.size ≤ w'.heap.size := by have := hg.size; simp at this; omega
      exact ⟨v', rfl, ⟨hg.os, hg.tape, hg.output, hsz', hb⟩, .inr ⟨news, hN, ho⟩⟩
end Go.Proofs.Ytioiffbnbjalcaa
