/- The contract of num.Holds. -/
import Derived.Test.YtfhfdenmcneamaaNumEval
set_option linter.unusedVariables false
set_option linter.unusedSimpArgs false
namespace Go.Proofs.Ytfhfdenmcneamaa
open Go.ChangeShapes Go.WideShapes Go.ChangeAt Go.RowKit

set_option maxHeartbeats 1000000 in
theorem holds_value (vs ls : List Int) (va la : Option Addr) (vc lc : Nat) (l : List Ex) (xa : Option Addr) (xc : Nat) (b b1 b2 : Nat) (n : Int) (w : World)
    (hb0 : w.cell? ⟨b, 1, none⟩ = some (.slice xa l.length xc)) (hb1 : w.cell? ⟨b1, 0, none⟩ = some (.slice va vs.length vc)) (hb2 : w.cell? ⟨b2, 0, none⟩ = some (.slice la ls.length lc))
    (hs : ExsV w l xa xc) (hv : IntsV w vs va vc) (hl : IntsV w ls la lc) :
    Calls Try.prog 38 #[.int .i64 n, .pointer (some ⟨b, 0, none⟩), .pointer (some ⟨b1, 0, none⟩), .pointer (some ⟨b2, 0, none⟩)] w fun r w' => r = .returned (.int .i64 (evalE vs ls (getE l n))) ∧ Below w.heap.size w w' := by
  have HS := Lib.hid hs
  have HV := Lib.hid hv
  have HL := Lib.hid hl
  clear hs hv hl
  go_enter Try.func38, Try.ntmps38
  go_wp2_with fail
  go_region_held3 (fun w' => w'.cell? ⟨b, 1, none⟩ = some (.slice xa l.length xc) ∧ w'.cell? ⟨b1, 0, none⟩ = some (.slice va vs.length vc) ∧ w'.cell? ⟨b2, 0, none⟩ = some (.slice la ls.length lc) ∧ Keeps w w' ∧ Below w.heap.size w w')
    (first | (have hh := ‹World.cell? _ ⟨b, 1, none⟩ = _ ∧ _ ∧ _ ∧ Keeps w _ ∧ Below _ _ _›; exact ⟨(keepsOf hb) _ _ hh.1, (keepsOf hb) _ _ hh.2.1, (keepsOf hb) _ _ hh.2.2.1, hh.2.2.2.1.trans (keepsOf hb), hh.2.2.2.2.trans (hb.mono hh.2.2.2.2.size)⟩) | exact ⟨hb0, hb1, hb2, (Keeps.refl _).drew, (Below.refl _ _).drew⟩ | go_keep)
    (first | (go_at_call 39; refine (at_ex l xa xc _ _ (HS.out.keep (‹World.cell? _ ⟨b, 1, none⟩ = _ ∧ _ ∧ _ ∧ Keeps w _ ∧ Below _ _ _›).2.2.2.1)).mono ?_; rintro r w1 ⟨ya, yc, rfl, hx, hb⟩)
           | (go_at_call 16; refine (eval_ex vs ls va la vc lc _ ya yc _ (hx.keep (fun _ _ h => h)) (HV.out.keep (‹World.cell? _ ⟨b, 1, none⟩ = _ ∧ _ ∧ _ ∧ Keeps w _ ∧ Below _ _ _›).2.2.2.1) (HL.out.keep (‹World.cell? _ ⟨b, 1, none⟩ = _ ∧ _ ∧ _ ∧ Keeps w _ ∧ Below _ _ _›).2.2.2.1)).mono ?_; rintro r w1 ⟨rfl, hb⟩))
  go_wp2
  go_ret
  exact ⟨rfl, (‹World.cell? _ ⟨b, 1, none⟩ = _ ∧ _ ∧ _ ∧ Keeps w _ ∧ Below _ _ _›).2.2.2.2⟩

set_option maxHeartbeats 1000000 in
theorem holds_part (vs ls : List Int) (va la : Option Addr) (vc lc : Nat) (l : List Co) (xa : Option Addr) (xc : Nat) (b b1 b2 : Nat) (n : Int) (w : World)
    (ih : ∀ (ya : Option Addr) (yc : Nat) (za : Option Addr) (zc : Nat) (w : World), CoV w (getC l n) ya yc za zc → IntsV w vs va vc → IntsV w ls la lc →
      Calls Try.prog 14 #[coVal (getC l n) ya yc za zc, .slice va vs.length vc, .slice la ls.length lc] w fun r w' => r = .returned (.bool (holdsC vs ls (getC l n))) ∧ Below w.heap.size w w')
    (hb0 : w.cell? ⟨b, 2, none⟩ = some (.slice xa l.length xc)) (hb1 : w.cell? ⟨b1, 0, none⟩ = some (.slice va vs.length vc)) (hb2 : w.cell? ⟨b2, 0, none⟩ = some (.slice la ls.length lc))
    (hs : CosV w l xa xc) (hv : IntsV w vs va vc) (hl : IntsV w ls la lc) :
    Calls Try.prog 40 #[.int .i64 n, .pointer (some ⟨b, 0, none⟩), .pointer (some ⟨b1, 0, none⟩), .pointer (some ⟨b2, 0, none⟩)] w fun r w' => r = .returned (.bool (holdsC vs ls (getC l n))) ∧ Below w.heap.size w w' := by
  have HS := Lib.hid hs
  have HV := Lib.hid hv
  have HL := Lib.hid hl
  have IH := Lib.hid ih
  clear hs hv hl ih
  go_enter Try.func40, Try.ntmps40
  go_wp2_with fail
  go_region_held3 (fun w' => w'.cell? ⟨b, 2, none⟩ = some (.slice xa l.length xc) ∧ w'.cell? ⟨b1, 0, none⟩ = some (.slice va vs.length vc) ∧ w'.cell? ⟨b2, 0, none⟩ = some (.slice la ls.length lc) ∧ Keeps w w' ∧ Below w.heap.size w w')
    (first | (have hh := ‹World.cell? _ ⟨b, 2, none⟩ = _ ∧ _ ∧ _ ∧ Keeps w _ ∧ Below _ _ _›; exact ⟨(keepsOf hb) _ _ hh.1, (keepsOf hb) _ _ hh.2.1, (keepsOf hb) _ _ hh.2.2.1, hh.2.2.2.1.trans (keepsOf hb), hh.2.2.2.2.trans (hb.mono hh.2.2.2.2.size)⟩) | exact ⟨hb0, hb1, hb2, (Keeps.refl _).drew, (Below.refl _ _).drew⟩ | go_keep)
    (first | (go_at_call 41; refine (at_co l xa xc _ _ (HS.out.keep (‹World.cell? _ ⟨b, 2, none⟩ = _ ∧ _ ∧ _ ∧ Keeps w _ ∧ Below _ _ _›).2.2.2.1)).mono ?_; rintro r w1 ⟨ya, yc, za, zc, rfl, hx, hb⟩)
           | (go_at_call 14; refine (IH.out ya yc za zc _ (hx.keep (fun _ _ h => h)) (HV.out.keep (‹World.cell? _ ⟨b, 2, none⟩ = _ ∧ _ ∧ _ ∧ Keeps w _ ∧ Below _ _ _›).2.2.2.1) (HL.out.keep (‹World.cell? _ ⟨b, 2, none⟩ = _ ∧ _ ∧ _ ∧ Keeps w _ ∧ Below _ _ _›).2.2.2.1)).mono ?_; rintro r w1 ⟨rfl, hb⟩))
  go_wp2
  go_ret
  exact ⟨rfl, (‹World.cell? _ ⟨b, 2, none⟩ = _ ∧ _ ∧ _ ∧ Keeps w _ ∧ Below _ _ _›).2.2.2.2⟩

set_option maxHeartbeats 400000 in
theorem holds_true (vs ls : List Int) (va la : Option Addr) (vc lc : Nat) (c : Co) (hop : c.op = 1) (xa ka : Option Addr) (xc kc : Nat) (w : World) (hc : CoV w c xa xc ka kc) (hv : IntsV w vs va vc) (hl : IntsV w ls la lc) :
    Calls Try.prog 14 #[coVal c xa xc ka kc, .slice va vs.length vc, .slice la ls.length lc] w fun r w' => r = .returned (.bool (holdsC vs ls c)) ∧ Below w.heap.size w w' := by
  have hq : holdsC vs ls c = true := by rw [holdsC_eq]; simp [hop]
  have Hq := Lib.hid hq
  clear hq
  clear hc hv hl
  rw [show coVal c xa xc ka kc = .agg #[.int .i64 1, .slice xa c.a.length xc, .slice ka c.c.length kc] from by unfold coVal; rw [hop]]
  clear hop
  go_enter Try.func14, Try.ntmps14
  go_wp2_with fail
  go_ret
  exact ⟨by rw [Hq.out]; rfl, ((((Below.refl w.heap.size w).alloc (Nat.le_refl _) _).alloc (by simp) _).alloc (by simp; omega) _)⟩

set_option maxHeartbeats 400000 in
theorem holds_lt (vs ls : List Int) (va la : Option Addr) (vc lc : Nat) (c : Co) (hop : c.op = 2) (xa ka : Option Addr) (xc kc : Nat) (w : World) (hc : CoV w c xa xc ka kc) (hv : IntsV w vs va vc) (hl : IntsV w ls la lc) :
    Calls Try.prog 14 #[coVal c xa xc ka kc, .slice va vs.length vc, .slice la ls.length lc] w fun r w' => r = .returned (.bool (holdsC vs ls c)) ∧ Below w.heap.size w w' := by
  have hq : holdsC vs ls c = decide (evalE vs ls (getE c.a 0) < evalE vs ls (getE c.a 1)) := by rw [holdsC_eq]; simp [hop]
  have Hq := Lib.hid hq
  clear hq
  have HC := Lib.hid hc
  have HV := Lib.hid hv
  have HL := Lib.hid hl
  clear hc hv hl
  rw [show coVal c xa xc ka kc = .agg #[.int .i64 2, .slice xa c.a.length xc, .slice ka c.c.length kc] from by unfold coVal; rw [hop]]
  clear hop
  go_enter Try.func14, Try.ntmps14
  go_wp2_with fail
  refine (holds_value vs ls va la vc lc c.a xa xc _ _ _ 0 _ (by go_simp) (by go_simp) (by go_simp) (HC.out.a.keep ((((Keeps.refl w).al _).al _).al _)) (HV.out.keep ((((Keeps.refl w).al _).al _).al _)) (HL.out.keep ((((Keeps.refl w).al _).al _).al _))).mono ?_
  rintro r w1 ⟨rfl, hb1⟩
  go_wp2_with fail
  refine (holds_value vs ls va la vc lc c.a xa xc _ _ _ 1 _ (keepsOf hb1 _ _ (by go_simp)) (keepsOf hb1 _ _ (by go_simp)) (keepsOf hb1 _ _ (by go_simp)) (HC.out.a.keep (((((Keeps.refl w).al _).al _).al _).trans (keepsOf hb1))) (HV.out.keep (((((Keeps.refl w).al _).al _).al _).trans (keepsOf hb1))) (HL.out.keep (((((Keeps.refl w).al _).al _).al _).trans (keepsOf hb1)))).mono ?_
  rintro r w2 ⟨rfl, hb2⟩
  go_wp2
  go_ret
  exact ⟨by rw [Hq.out]; rfl, ((((((Below.refl w.heap.size w).alloc (Nat.le_refl _) _).alloc (by simp) _).alloc (by simp; omega) _).trans (hb1.mono (by simp; omega))).trans (hb2.mono (by have := hb1.size; simp at this; omega)))⟩

set_option maxHeartbeats 400000 in
theorem holds_le (vs ls : List Int) (va la : Option Addr) (vc lc : Nat) (c : Co) (hop : c.op = 3) (xa ka : Option Addr) (xc kc : Nat) (w : World) (hc : CoV w c xa xc ka kc) (hv : IntsV w vs va vc) (hl : IntsV w ls la lc) :
    Calls Try.prog 14 #[coVal c xa xc ka kc, .slice va vs.length vc, .slice la ls.length lc] w fun r w' => r = .returned (.bool (holdsC vs ls c)) ∧ Below w.heap.size w w' := by
  have hq : holdsC vs ls c = decide (evalE vs ls (getE c.a 0) ≤ evalE vs ls (getE c.a 1)) := by rw [holdsC_eq]; simp [hop]
  have Hq := Lib.hid hq
  clear hq
  have HC := Lib.hid hc
  have HV := Lib.hid hv
  have HL := Lib.hid hl
  clear hc hv hl
  rw [show coVal c xa xc ka kc = .agg #[.int .i64 3, .slice xa c.a.length xc, .slice ka c.c.length kc] from by unfold coVal; rw [hop]]
  clear hop
  go_enter Try.func14, Try.ntmps14
  go_wp2_with fail
  refine (holds_value vs ls va la vc lc c.a xa xc _ _ _ 0 _ (by go_simp) (by go_simp) (by go_simp) (HC.out.a.keep ((((Keeps.refl w).al _).al _).al _)) (HV.out.keep ((((Keeps.refl w).al _).al _).al _)) (HL.out.keep ((((Keeps.refl w).al _).al _).al _))).mono ?_
  rintro r w1 ⟨rfl, hb1⟩
  go_wp2_with fail
  refine (holds_value vs ls va la vc lc c.a xa xc _ _ _ 1 _ (keepsOf hb1 _ _ (by go_simp)) (keepsOf hb1 _ _ (by go_simp)) (keepsOf hb1 _ _ (by go_simp)) (HC.out.a.keep (((((Keeps.refl w).al _).al _).al _).trans (keepsOf hb1))) (HV.out.keep (((((Keeps.refl w).al _).al _).al _).trans (keepsOf hb1))) (HL.out.keep (((((Keeps.refl w).al _).al _).al _).trans (keepsOf hb1)))).mono ?_
  rintro r w2 ⟨rfl, hb2⟩
  go_wp2
  go_ret
  exact ⟨by rw [Hq.out]; rfl, ((((((Below.refl w.heap.size w).alloc (Nat.le_refl _) _).alloc (by simp) _).alloc (by simp; omega) _).trans (hb1.mono (by simp; omega))).trans (hb2.mono (by have := hb1.size; simp at this; omega)))⟩

set_option maxHeartbeats 400000 in
theorem holds_eq (vs ls : List Int) (va la : Option Addr) (vc lc : Nat) (c : Co) (hop : c.op = 4) (xa ka : Option Addr) (xc kc : Nat) (w : World) (hc : CoV w c xa xc ka kc) (hv : IntsV w vs va vc) (hl : IntsV w ls la lc) :
    Calls Try.prog 14 #[coVal c xa xc ka kc, .slice va vs.length vc, .slice la ls.length lc] w fun r w' => r = .returned (.bool (holdsC vs ls c)) ∧ Below w.heap.size w w' := by
  have hq : holdsC vs ls c = decide (evalE vs ls (getE c.a 0) = evalE vs ls (getE c.a 1)) := by rw [holdsC_eq]; simp [hop]
  have Hq := Lib.hid hq
  clear hq
  have HC := Lib.hid hc
  have HV := Lib.hid hv
  have HL := Lib.hid hl
  clear hc hv hl
  rw [show coVal c xa xc ka kc = .agg #[.int .i64 4, .slice xa c.a.length xc, .slice ka c.c.length kc] from by unfold coVal; rw [hop]]
  clear hop
  go_enter Try.func14, Try.ntmps14
  go_wp2_with fail
  refine (holds_value vs ls va la vc lc c.a xa xc _ _ _ 0 _ (by go_simp) (by go_simp) (by go_simp) (HC.out.a.keep ((((Keeps.refl w).al _).al _).al _)) (HV.out.keep ((((Keeps.refl w).al _).al _).al _)) (HL.out.keep ((((Keeps.refl w).al _).al _).al _))).mono ?_
  rintro r w1 ⟨rfl, hb1⟩
  go_wp2_with fail
  refine (holds_value vs ls va la vc lc c.a xa xc _ _ _ 1 _ (keepsOf hb1 _ _ (by go_simp)) (keepsOf hb1 _ _ (by go_simp)) (keepsOf hb1 _ _ (by go_simp)) (HC.out.a.keep (((((Keeps.refl w).al _).al _).al _).trans (keepsOf hb1))) (HV.out.keep (((((Keeps.refl w).al _).al _).al _).trans (keepsOf hb1))) (HL.out.keep (((((Keeps.refl w).al _).al _).al _).trans (keepsOf hb1)))).mono ?_
  rintro r w2 ⟨rfl, hb2⟩
  go_wp2
  go_ret
  exact ⟨by rw [Hq.out]; rfl, ((((((Below.refl w.heap.size w).alloc (Nat.le_refl _) _).alloc (by simp) _).alloc (by simp; omega) _).trans (hb1.mono (by simp; omega))).trans (hb2.mono (by have := hb1.size; simp at this; omega)))⟩

set_option maxHeartbeats 400000 in
theorem holds_not (vs ls : List Int) (va la : Option Addr) (vc lc : Nat) (c : Co) (hop : c.op = 5) (ih : ∀ (n : Int) (ya : Option Addr) (yc : Nat) (za : Option Addr) (zc : Nat) (w : World), CoV w (getC c.c n) ya yc za zc → IntsV w vs va vc → IntsV w ls la lc →
      Calls Try.prog 14 #[coVal (getC c.c n) ya yc za zc, .slice va vs.length vc, .slice la ls.length lc] w fun r w' => r = .returned (.bool (holdsC vs ls (getC c.c n))) ∧ Below w.heap.size w w')
    (xa ka : Option Addr) (xc kc : Nat) (w : World) (hc : CoV w c xa xc ka kc) (hv : IntsV w vs va vc) (hl : IntsV w ls la lc) :
    Calls Try.prog 14 #[coVal c xa xc ka kc, .slice va vs.length vc, .slice la ls.length lc] w fun r w' => r = .returned (.bool (holdsC vs ls c)) ∧ Below w.heap.size w w' := by
  have hq : holdsC vs ls c = !(holdsC vs ls (getC c.c 0)) := by rw [holdsC_eq]; simp [hop]
  have Hq := Lib.hid hq
  clear hq
  have HC := Lib.hid hc
  have HV := Lib.hid hv
  have HL := Lib.hid hl
  clear hc hv hl
  have IH := Lib.hid ih
  clear ih
  generalize hg : holdsC vs ls (getC c.c 0) = g at *
  have HG := Lib.hid hg
  clear hg
  rw [show coVal c xa xc ka kc = .agg #[.int .i64 5, .slice xa c.a.length xc, .slice ka c.c.length kc] from by unfold coVal; rw [hop]]
  clear hop
  go_enter Try.func14, Try.ntmps14
  go_wp2_with fail
  refine (holds_part vs ls va la vc lc c.c ka kc _ _ _ 0 _ (IH.out 0) (by go_simp) (by go_simp) (by go_simp) (HC.out.c.keep ((((Keeps.refl w).al _).al _).al _)) (HV.out.keep ((((Keeps.refl w).al _).al _).al _)) (HL.out.keep ((((Keeps.refl w).al _).al _).al _))).mono ?_
  rw [HG.out]
  rintro r w1 ⟨rfl, hb1⟩
  go_wp2
  go_ret
  exact ⟨by rw [Hq.out]; rfl, (((((Below.refl w.heap.size w).alloc (Nat.le_refl _) _).alloc (by simp) _).alloc (by simp; omega) _).trans (hb1.mono (by simp; omega)))⟩

set_option maxHeartbeats 400000 in
theorem holds_and_short (vs ls : List Int) (va la : Option Addr) (vc lc : Nat) (c : Co) (hop : c.op = 6) (h0 : holdsC vs ls (getC c.c 0) = false) (ih : ∀ (n : Int) (ya : Option Addr) (yc : Nat) (za : Option Addr) (zc : Nat) (w : World), CoV w (getC c.c n) ya yc za zc → IntsV w vs va vc → IntsV w ls la lc →
      Calls Try.prog 14 #[coVal (getC c.c n) ya yc za zc, .slice va vs.length vc, .slice la ls.length lc] w fun r w' => r = .returned (.bool (holdsC vs ls (getC c.c n))) ∧ Below w.heap.size w w')
    (xa ka : Option Addr) (xc kc : Nat) (w : World) (hc : CoV w c xa xc ka kc) (hv : IntsV w vs va vc) (hl : IntsV w ls la lc) :
    Calls Try.prog 14 #[coVal c xa xc ka kc, .slice va vs.length vc, .slice la ls.length lc] w fun r w' => r = .returned (.bool (holdsC vs ls c)) ∧ Below w.heap.size w w' := by
  have hq : holdsC vs ls c = false := by rw [holdsC_eq]; simp [hop, h0]
  have Hq := Lib.hid hq
  clear hq
  have HC := Lib.hid hc
  have HV := Lib.hid hv
  have HL := Lib.hid hl
  clear hc hv hl
  have IH := Lib.hid ih
  have H0 := Lib.hid h0
  clear ih h0
  rw [show coVal c xa xc ka kc = .agg #[.int .i64 6, .slice xa c.a.length xc, .slice ka c.c.length kc] from by unfold coVal; rw [hop]]
  clear hop
  go_enter Try.func14, Try.ntmps14
  go_wp2_with fail
  refine (holds_part vs ls va la vc lc c.c ka kc _ _ _ 0 _ (IH.out 0) (by go_simp) (by go_simp) (by go_simp) (HC.out.c.keep ((((Keeps.refl w).al _).al _).al _)) (HV.out.keep ((((Keeps.refl w).al _).al _).al _)) (HL.out.keep ((((Keeps.refl w).al _).al _).al _))).mono ?_
  rw [H0.out]
  rintro r w1 ⟨rfl, hb1⟩
  go_wp2
  go_ret
  exact ⟨by rw [Hq.out]; rfl, (((((Below.refl w.heap.size w).alloc (Nat.le_refl _) _).alloc (by simp) _).alloc (by simp; omega) _).trans (hb1.mono (by simp; omega)))⟩

set_option maxHeartbeats 400000 in
theorem holds_and_long (vs ls : List Int) (va la : Option Addr) (vc lc : Nat) (c : Co) (hop : c.op = 6) (h0 : holdsC vs ls (getC c.c 0) = true) (ih : ∀ (n : Int) (ya : Option Addr) (yc : Nat) (za : Option Addr) (zc : Nat) (w : World), CoV w (getC c.c n) ya yc za zc → IntsV w vs va vc → IntsV w ls la lc →
      Calls Try.prog 14 #[coVal (getC c.c n) ya yc za zc, .slice va vs.length vc, .slice la ls.length lc] w fun r w' => r = .returned (.bool (holdsC vs ls (getC c.c n))) ∧ Below w.heap.size w w')
    (xa ka : Option Addr) (xc kc : Nat) (w : World) (hc : CoV w c xa xc ka kc) (hv : IntsV w vs va vc) (hl : IntsV w ls la lc) :
    Calls Try.prog 14 #[coVal c xa xc ka kc, .slice va vs.length vc, .slice la ls.length lc] w fun r w' => r = .returned (.bool (holdsC vs ls c)) ∧ Below w.heap.size w w' := by
  have hq : holdsC vs ls c = holdsC vs ls (getC c.c 1) := by rw [holdsC_eq]; simp [hop, h0]
  have Hq := Lib.hid hq
  clear hq
  have HC := Lib.hid hc
  have HV := Lib.hid hv
  have HL := Lib.hid hl
  clear hc hv hl
  have IH := Lib.hid ih
  have H0 := Lib.hid h0
  clear ih h0
  generalize hg : holdsC vs ls (getC c.c 1) = g at *
  have HG := Lib.hid hg
  clear hg
  rw [show coVal c xa xc ka kc = .agg #[.int .i64 6, .slice xa c.a.length xc, .slice ka c.c.length kc] from by unfold coVal; rw [hop]]
  clear hop
  go_enter Try.func14, Try.ntmps14
  go_wp2_with fail
  refine (holds_part vs ls va la vc lc c.c ka kc _ _ _ 0 _ (IH.out 0) (by go_simp) (by go_simp) (by go_simp) (HC.out.c.keep ((((Keeps.refl w).al _).al _).al _)) (HV.out.keep ((((Keeps.refl w).al _).al _).al _)) (HL.out.keep ((((Keeps.refl w).al _).al _).al _))).mono ?_
  rw [H0.out]
  rintro r w1 ⟨rfl, hb1⟩
  go_wp2_with fail
  refine (holds_part vs ls va la vc lc c.c ka kc _ _ _ 1 _ (IH.out 1) (keepsOf hb1 _ _ (by go_simp)) (keepsOf hb1 _ _ (by go_simp)) (keepsOf hb1 _ _ (by go_simp)) (HC.out.c.keep (((((Keeps.refl w).al _).al _).al _).trans (keepsOf hb1))) (HV.out.keep (((((Keeps.refl w).al _).al _).al _).trans (keepsOf hb1))) (HL.out.keep (((((Keeps.refl w).al _).al _).al _).trans (keepsOf hb1)))).mono ?_
  rw [HG.out]
  rintro r w2 ⟨rfl, hb2⟩
  go_wp2
  go_ret
  exact ⟨by rw [Hq.out]; rfl, ((((((Below.refl w.heap.size w).alloc (Nat.le_refl _) _).alloc (by simp) _).alloc (by simp; omega) _).trans (hb1.mono (by simp; omega))).trans (hb2.mono (by have := hb1.size; simp at this; omega)))⟩

set_option maxHeartbeats 400000 in
theorem holds_or_short (vs ls : List Int) (va la : Option Addr) (vc lc : Nat) (c : Co) (hop : c.op = 7) (h0 : holdsC vs ls (getC c.c 0) = true) (ih : ∀ (n : Int) (ya : Option Addr) (yc : Nat) (za : Option Addr) (zc : Nat) (w : World), CoV w (getC c.c n) ya yc za zc → IntsV w vs va vc → IntsV w ls la lc →
      Calls Try.prog 14 #[coVal (getC c.c n) ya yc za zc, .slice va vs.length vc, .slice la ls.length lc] w fun r w' => r = .returned (.bool (holdsC vs ls (getC c.c n))) ∧ Below w.heap.size w w')
    (xa ka : Option Addr) (xc kc : Nat) (w : World) (hc : CoV w c xa xc ka kc) (hv : IntsV w vs va vc) (hl : IntsV w ls la lc) :
    Calls Try.prog 14 #[coVal c xa xc ka kc, .slice va vs.length vc, .slice la ls.length lc] w fun r w' => r = .returned (.bool (holdsC vs ls c)) ∧ Below w.heap.size w w' := by
  have hq : holdsC vs ls c = true := by rw [holdsC_eq]; simp [hop, h0]
  have Hq := Lib.hid hq
  clear hq
  have HC := Lib.hid hc
  have HV := Lib.hid hv
  have HL := Lib.hid hl
  clear hc hv hl
  have IH := Lib.hid ih
  have H0 := Lib.hid h0
  clear ih h0
  rw [show coVal c xa xc ka kc = .agg #[.int .i64 7, .slice xa c.a.length xc, .slice ka c.c.length kc] from by unfold coVal; rw [hop]]
  clear hop
  go_enter Try.func14, Try.ntmps14
  go_wp2_with fail
  refine (holds_part vs ls va la vc lc c.c ka kc _ _ _ 0 _ (IH.out 0) (by go_simp) (by go_simp) (by go_simp) (HC.out.c.keep ((((Keeps.refl w).al _).al _).al _)) (HV.out.keep ((((Keeps.refl w).al _).al _).al _)) (HL.out.keep ((((Keeps.refl w).al _).al _).al _))).mono ?_
  rw [H0.out]
  rintro r w1 ⟨rfl, hb1⟩
  go_wp2
  go_ret
  exact ⟨by rw [Hq.out]; rfl, (((((Below.refl w.heap.size w).alloc (Nat.le_refl _) _).alloc (by simp) _).alloc (by simp; omega) _).trans (hb1.mono (by simp; omega)))⟩

set_option maxHeartbeats 400000 in
theorem holds_or_long (vs ls : List Int) (va la : Option Addr) (vc lc : Nat) (c : Co) (hop : c.op = 7) (h0 : holdsC vs ls (getC c.c 0) = false) (ih : ∀ (n : Int) (ya : Option Addr) (yc : Nat) (za : Option Addr) (zc : Nat) (w : World), CoV w (getC c.c n) ya yc za zc → IntsV w vs va vc → IntsV w ls la lc →
      Calls Try.prog 14 #[coVal (getC c.c n) ya yc za zc, .slice va vs.length vc, .slice la ls.length lc] w fun r w' => r = .returned (.bool (holdsC vs ls (getC c.c n))) ∧ Below w.heap.size w w')
    (xa ka : Option Addr) (xc kc : Nat) (w : World) (hc : CoV w c xa xc ka kc) (hv : IntsV w vs va vc) (hl : IntsV w ls la lc) :
    Calls Try.prog 14 #[coVal c xa xc ka kc, .slice va vs.length vc, .slice la ls.length lc] w fun r w' => r = .returned (.bool (holdsC vs ls c)) ∧ Below w.heap.size w w' := by
  have hq : holdsC vs ls c = holdsC vs ls (getC c.c 1) := by rw [holdsC_eq]; simp [hop, h0]
  have Hq := Lib.hid hq
  clear hq
  have HC := Lib.hid hc
  have HV := Lib.hid hv
  have HL := Lib.hid hl
  clear hc hv hl
  have IH := Lib.hid ih
  have H0 := Lib.hid h0
  clear ih h0
  generalize hg : holdsC vs ls (getC c.c 1) = g at *
  have HG := Lib.hid hg
  clear hg
  rw [show coVal c xa xc ka kc = .agg #[.int .i64 7, .slice xa c.a.length xc, .slice ka c.c.length kc] from by unfold coVal; rw [hop]]
  clear hop
  go_enter Try.func14, Try.ntmps14
  go_wp2_with fail
  refine (holds_part vs ls va la vc lc c.c ka kc _ _ _ 0 _ (IH.out 0) (by go_simp) (by go_simp) (by go_simp) (HC.out.c.keep ((((Keeps.refl w).al _).al _).al _)) (HV.out.keep ((((Keeps.refl w).al _).al _).al _)) (HL.out.keep ((((Keeps.refl w).al _).al _).al _))).mono ?_
  rw [H0.out]
  rintro r w1 ⟨rfl, hb1⟩
  go_wp2_with fail
  refine (holds_part vs ls va la vc lc c.c ka kc _ _ _ 1 _ (IH.out 1) (keepsOf hb1 _ _ (by go_simp)) (keepsOf hb1 _ _ (by go_simp)) (keepsOf hb1 _ _ (by go_simp)) (HC.out.c.keep (((((Keeps.refl w).al _).al _).al _).trans (keepsOf hb1))) (HV.out.keep (((((Keeps.refl w).al _).al _).al _).trans (keepsOf hb1))) (HL.out.keep (((((Keeps.refl w).al _).al _).al _).trans (keepsOf hb1)))).mono ?_
  rw [HG.out]
  rintro r w2 ⟨rfl, hb2⟩
  go_wp2
  go_ret
  exact ⟨by rw [Hq.out]; rfl, ((((((Below.refl w.heap.size w).alloc (Nat.le_refl _) _).alloc (by simp) _).alloc (by simp; omega) _).trans (hb1.mono (by simp; omega))).trans (hb2.mono (by have := hb1.size; simp at this; omega)))⟩

set_option maxHeartbeats 400000 in
theorem holds_bad (vs ls : List Int) (va la : Option Addr) (vc lc : Nat) (c : Co) (hop : c.op < 1 ∨ 7 < c.op) (xa ka : Option Addr) (xc kc : Nat) (w : World) :
    Calls Try.prog 14 #[coVal c xa xc ka kc, .slice va vs.length vc, .slice la ls.length lc] w fun r w' => r = .returned (.bool (holdsC vs ls c)) ∧ Below w.heap.size w w' := by
  have hq : holdsC vs ls c = false := by
    rw [holdsC_eq]
    iterate 7 rw [if_neg (by omega)]
  have Hq := Lib.hid hq
  clear hq
  unfold coVal
  generalize c.op = op at hop
  have n1 : (op == 1) = false := by simp; omega
  have n2 : (op == 2) = false := by simp; omega
  have n3 : (op == 3) = false := by simp; omega
  have n4 : (op == 4) = false := by simp; omega
  have n5 : (op == 5) = false := by simp; omega
  have n6 : (op == 6) = false := by simp; omega
  have n7 : (op == 7) = false := by simp; omega
  go_enter Try.func14, Try.ntmps14
  go_wp2_with fail
  go_ret
  exact ⟨by rw [Hq.out]; rfl, ((((Below.refl w.heap.size w).alloc (Nat.le_refl _) _).alloc (by simp) _).alloc (by simp; omega) _)⟩

theorem getC_mem (l : List Co) (i : Int) : getC l i ∈ l ∨ getC l i = coNone := by
  unfold getC
  split
  · by_cases h : i.toNat < l.length
    · left; simp [List.getElem?_eq_getElem h]
    · right; simp [List.getElem?_eq_none (show l.length ≤ i.toNat by omega)]
  · right; rfl

theorem holds_any (vs ls : List Int) (va la : Option Addr) (vc lc : Nat) (k : Nat) : ∀ (c : Co) (_ : c.nodes ≤ k) (xa ka : Option Addr) (xc kc : Nat) (w : World), CoV w c xa xc ka kc → IntsV w vs va vc → IntsV w ls la lc →
    Calls Try.prog 14 #[coVal c xa xc ka kc, .slice va vs.length vc, .slice la ls.length lc] w fun r w' => r = .returned (.bool (holdsC vs ls c)) ∧ Below w.heap.size w w' := by
  induction k with
  | zero => intro c he; have := c.nodes_pos; omega
  | succ k ih =>
    intro c he xa ka xc kc w hc hv hl
    have ih' : ∀ (n : Int) (ya : Option Addr) (yc : Nat) (za : Option Addr) (zc : Nat) (w : World), CoV w (getC c.c n) ya yc za zc → IntsV w vs va vc → IntsV w ls la lc →
        Calls Try.prog 14 #[coVal (getC c.c n) ya yc za zc, .slice va vs.length vc, .slice la ls.length lc] w fun r w' => r = .returned (.bool (holdsC vs ls (getC c.c n))) ∧ Below w.heap.size w w' := by
      intro n ya yc za zc w2 hx hv2 hl2
      rcases getC_mem c.c n with hm | hn
      · exact ih _ (by have := Co.nodes_lt hm; omega) ya za yc zc w2 hx hv2 hl2
      · rw [hn]
        exact holds_bad vs ls va la vc lc coNone (by simp [coNone, Co.op]) ya za yc zc w2
    by_cases hb : c.op < 1 ∨ 7 < c.op
    · exact holds_bad vs ls va la vc lc c hb xa ka xc kc w
    · have : c.op = 1 ∨ c.op = 2 ∨ c.op = 3 ∨ c.op = 4 ∨ c.op = 5 ∨ c.op = 6 ∨ c.op = 7 := by omega
      rcases this with h | h | h | h | h | h | h
      · exact holds_true vs ls va la vc lc c h xa ka xc kc w hc hv hl
      · exact holds_lt vs ls va la vc lc c h xa ka xc kc w hc hv hl
      · exact holds_le vs ls va la vc lc c h xa ka xc kc w hc hv hl
      · exact holds_eq vs ls va la vc lc c h xa ka xc kc w hc hv hl
      · exact holds_not vs ls va la vc lc c h ih' xa ka xc kc w hc hv hl
      · cases h0 : holdsC vs ls (getC c.c 0) with
        | false => exact holds_and_short vs ls va la vc lc c h h0 ih' xa ka xc kc w hc hv hl
        | true => exact holds_and_long vs ls va la vc lc c h h0 ih' xa ka xc kc w hc hv hl
      · cases h0 : holdsC vs ls (getC c.c 0) with
        | true => exact holds_or_short vs ls va la vc lc c h h0 ih' xa ka xc kc w hc hv hl
        | false => exact holds_or_long vs ls va la vc lc c h h0 ih' xa ka xc kc w hc hv hl

theorem holds_co (vs ls : List Int) (va la : Option Addr) (vc lc : Nat) (c : Co) (xa ka : Option Addr) (xc kc : Nat) (w : World) (hc : CoV w c xa xc ka kc) (hv : IntsV w vs va vc) (hl : IntsV w ls la lc) :
    Calls Try.prog 14 #[coVal c xa xc ka kc, .slice va vs.length vc, .slice la ls.length lc] w fun r w' => r = .returned (.bool (holdsC vs ls c)) ∧ Below w.heap.size w w' :=
  holds_any vs ls va la vc lc c.nodes c (Nat.le_refl _) xa ka xc kc w hc hv hl

end Go.Proofs.Ytfhfdenmcneamaa
