/-
  OWN WORK (an AI agent). Part L11f of a walk by simplification over abstract heaps.
-/
import Derived.Test.YtlghjfmehfochaaDoorFL11e
set_option linter.all false
set_option linter.unusedSimpArgs false
set_option linter.unusedVariables false
set_option maxRecDepth 20000
namespace Go.Proofs.YtlghjfmehfochaaDoor
open Go.F Go.RowKit

theorem heights_calls (C : Ctx) (hP : C.P = Tryd.prog) (hT : Tab C) (H : AHeap) (a b : Nat) (l : List (Int × Int)) (hI : Img C H a b l) (k : Nat) (hR : Runs l k) :
    FCalls C 9 [.agg [.arr a 1, .nils, .nils, .int .i64 0], .int .i64 0] H (fun v H' => if good l k then v = .tup [.arr H.length l.length, .int .i64 0] ∧ H' = H ++ [some ⟨intC (seenL l k), 3⟩] else v = .tup [.nils, .int .i64 6] ∧ H' = H) := by
  refine FCalls.bodyR (hP ▸ v9) (by simp [e9]) fun hw ha => ?_
  generalize hQ : retR _ _ _ = Q
  have gfn : ∀ L, hget (H ++ L) a = some ⟨[.int .i64 0, .int .i64 0, .nils, .nils, .arr b l.length, .nils], 38⟩ := fun L => hget_app_old hI.fn
  have gcd : ∀ L, hget (H ++ L) b = some ⟨codC l, 40⟩ := fun L => hget_app_old hI.cd
  have hcs : ∀ L, Cs C (H ++ L) (.arr b l.length) l := fun L => Cs.arr (gcd L)
  have hIm : ∀ L, Img C (H ++ L) a b l := fun L => ⟨gfn L, gcd L, hI.len, hI.ok⟩
  have l1 : lenV false (.arr a 1) = some (.int .i64 ((1 : Nat) : Int)) := rfl
  have l3 : lenV false .nils = some (.int .i64 0) := rfl
  have hw0 : IntKind.i64.wrap (1 - 1) = 0 := IntWalk.i64_in _ (by omega)
  have hw0' : IntKind.i64.wrap 0 = 0 := IntWalk.i64_in _ (by omega)
  show FW _ c9 _ _ _
  unfold c9
  refine FW.seq' ?_
  simp (implicitDefEqProofs := false) [e9, boxA, cellsOf]
  refine FW.seq' ?_
  simp (implicitDefEqProofs := false)
  refine FWops_callR rfl (by simp) (check_calls C hP hT _ a b l (hIm _) k hR) ?_
  rintro v H' ⟨hv, rfl⟩
  by_cases hg : good l k
  · rw [if_pos hg] at hv
    subst hv
    simp (implicitDefEqProofs := false)
    refine FW.seq' ?_
    simp (implicitDefEqProofs := false) [l1]
    refine FWops_callR rfl (by simp [hw0, hw0']) (between_calls C hP 0 0 0 _) ?_
    rintro v H' ⟨rfl, rfl⟩
    simp (implicitDefEqProofs := false)
    refine FW.seq' ?_
    simp (implicitDefEqProofs := false) [gfn, l1]
    refine FWops_callR rfl (by simp) (flow_calls C hP hT (.arr a 1) .nils .nils (.int .i64 0) (.int .i64 0) (.int .i64 0) .nils .nils (.arr b l.length) .nils _ l (hcs _) l3 hI.len k hR.lt hR.goes (hI.ok k hR.lt) hR.fin) ?_
    rintro v H' hv
    rw [if_pos hg] at hv
    obtain ⟨rfl, rfl⟩ := hv
    simp (implicitDefEqProofs := false)
    refine FWx_sound ?_
    simp (implicitDefEqProofs := false)
    rw [← hQ]
    refine retR_at (H1 := H) [1] rfl rfl (by simp) (by simp) hw ?_
    simp only [if_pos hg]
    simp [e9, ren_intC]
  · rw [if_neg hg] at hv
    subst hv
    simp (implicitDefEqProofs := false)
    rw [← hQ]
    refine retR_at (H1 := H) [] rfl rfl (by simp) (by simp) hw ?_
    simp [e9, hg]

/-! the two codes of live -/
def live1 : List (Int × Int) := [(0, 1), (27, 0)]
def live2 : List (Int × Int) := [(27, 0)]

theorem runs1 : Runs live1 1 := by
  refine ⟨by decide, fun i hi => ?_, fun _ => rfl⟩
  have : i = 0 := by omega
  subst this
  refine ⟨.inl ⟨rfl, by decide, by decide⟩, by decide, by decide, by decide, by decide⟩
theorem good1 : good live1 1 := by decide
theorem runs2 : Runs live2 0 := ⟨by decide, fun i hi => by omega, fun _ => rfl⟩
theorem good2 : ¬ good live2 0 := by decide
theorem ok1 : ∀ i, i < live1.length → okI (nth live1 i) := by
  intro i hi
  have : i = 0 ∨ i = 1 := by simp [live1] at hi; omega
  rcases this with rfl | rfl
  · exact .inl ⟨rfl, by decide, by decide⟩
  · exact .inr (.inr ⟨rfl, rfl⟩)
theorem ok2 : ∀ i, i < live2.length → okI (nth live2 i) := by
  intro i hi
  have : i = 0 := by simp [live2] at hi; omega
  subst this
  exact .inr (.inr ⟨rfl, rfl⟩)

theorem image_calls (C : Ctx) (hP : C.P = Tryd.prog) (H : AHeap) (b n : Nat) (hb : b < H.length) :
    FCalls C 10 [.arr b n] H (fun v H' => v = .agg [.arr H.length 1, .nils, .nils, .int .i64 0] ∧ H' = H ++ [some ⟨[.int .i64 0, .int .i64 0, .nils, .nils, .arr b n, .nils], 38⟩]) := by
  refine FCalls.bodyR (hP ▸ v10) (by simp [e10]) fun hw ha => FWx_sound ?_
  have hgy : ∀ ks, renV (keepAt H.length ks) (.arr b n) = .arr b n := fun ks => renV_keepAt (by simpa [AVal.lt] using hb)
  simp (implicitDefEqProofs := false) [e10, c10, evalP, fillA, storeA, setL, cellsOf]
  refine retR_at (H1 := H) [1] rfl rfl (by simp) (by simp) hw ?_
  simp [hgy]

theorem live_calls (C : Ctx) (hP : C.P = Tryd.prog) (hT : Tab C) (H : AHeap) : FCalls C 6 [] H (fun v H' => v = .bool true ∧ H' = H) := by
  refine FCalls.bodyR (hP ▸ v6) (by simp [e6]) fun hw ha => ?_
  generalize hQ : retR _ _ _ = Q
  show FW _ c6 _ _ _
  unfold c6
  refine FW.seq' ?_
  simp (implicitDefEqProofs := false) [e6]
  refine FW.seq' ?_
  simp (implicitDefEqProofs := false)
  refine FW.seq' ?_
  simp (implicitDefEqProofs := false) [evalP, fillA, setL]
  refine FWops_callR rfl (by simp) (image_calls C hP _ H.length 2 (by simp)) ?_
  rintro v H' ⟨rfl, rfl⟩
  simp (implicitDefEqProofs := false)
  refine FWops_callR rfl (by simp) (heights_calls C hP hT _ (H.length + 1) H.length live1 ⟨by simp [live1], by simp [live1, codC], by decide, ok1⟩ 1 runs1) ?_
  rintro v H' hv
  rw [if_pos good1] at hv
  obtain ⟨rfl, rfl⟩ := hv
  have hs1 : seenL live1 1 = [0, 1] := by decide
  have hs2 : live1.length = 2 := rfl
  rw [hs1, hs2]
  simp (implicitDefEqProofs := false)
  refine FW.seq' ?_
  simp (implicitDefEqProofs := false) [evalP, fillA, setL]
  refine FWops_callR rfl (by simp) (image_calls C hP _ (H.length + 3) 1 (by simp)) ?_
  rintro v H' ⟨rfl, rfl⟩
  simp (implicitDefEqProofs := false)
  refine FWops_callR rfl (by simp) (check_calls C hP hT _ (H.length + 4) (H.length + 3) live2 ⟨by simp [live2], by simp [live2, codC], by decide, ok2⟩ 0 runs2) ?_
  rintro v H' ⟨hv, rfl⟩
  rw [if_neg good2] at hv
  subst hv
  simp (implicitDefEqProofs := false)
  refine FWx_sound ?_
  simp (implicitDefEqProofs := false)
  refine FWops_callR rfl (by simp) (num_calls C hP _ 0) ?_
  rintro v H' ⟨rfl, rfl⟩
  simp (implicitDefEqProofs := false) [intC]
  refine FWops_callR rfl (by simp) (num_calls C hP _ 6) ?_
  rintro v H' ⟨rfl, rfl⟩
  simp (implicitDefEqProofs := false)
  rw [← hQ]
  refine retR_at (H1 := H) [] rfl rfl (by simp) (by simp) hw ?_
  simp [e6]

end Go.Proofs.YtlghjfmehfochaaDoor
