/-
  OWN WORK (an AI agent). Part L11e of a walk by simplification over abstract heaps.
-/
import Derived.Test.YtlghjfmehfochaaDoorFL11d
set_option linter.all false
set_option linter.unusedSimpArgs false
set_option linter.unusedVariables false
set_option maxRecDepth 20000
namespace Go.Proofs.YtlghjfmehfochaaDoor
open Go.F Go.RowKit

/-! one function, straight code: an image -/
structure Img (C : Ctx) (H : AHeap) (a b : Nat) (l : List (Int × Int)) : Prop where
  fn : hget H a = some ⟨[.int .i64 0, .int .i64 0, .nils, .nils, .arr b l.length, .nils], 38⟩
  cd : hget H b = some ⟨codC l, 40⟩
  len : l.length ≤ 60000
  ok : ∀ i, i < l.length → okI (nth l i)

abbrev good (l : List (Int × Int)) (k : Nat) : Prop := take1 (nth l k) ≤ ht l k ∧ ht l k - take1 (nth l k) + put1 (nth l k) ≤ 256
/-- how the code runs: on to step k; there it ends, well or ill -/
structure Runs (l : List (Int × Int)) (k : Nat) : Prop where
  lt : k < l.length
  goes : ∀ i, i < k → goes l i
  fin : good l k → (nth l k).1 = 27

def ck0 (H : AHeap) (a : Nat) (t : Fr) (H' : AHeap) : Prop := t 1 = .ptr (.loc H.length 0) ∧ H' = H ++ [some ⟨[.arr a 1, .nils, .nils, .int .i64 0], 26⟩]
def ck4 (H : AHeap) (a : Nat) (l : List (Int × Int)) (k : Nat) (t : Fr) (H' : AHeap) : Prop := good l k ∧ ck0 H a t H'
def ck1I (H : AHeap) (a : Nat) (t : Fr) (H' : AHeap) (m : Nat) : Prop := ∃ i : Nat, i ≤ 1 ∧ t 24 = .arr a 1 ∧ t 25 = .int .i64 1 ∧ t 26 = .int .i64 i ∧ ck0 H a t H' ∧ m = 1 - i
def ck2I (H : AHeap) (a : Nat) (t : Fr) (H' : AHeap) (m : Nat) : Prop := ∃ i : Nat, i ≤ 1 ∧ t 41 = .arr a 1 ∧ t 42 = .int .i64 1 ∧ t 43 = .int .i64 i ∧ ck0 H a t H' ∧ m = 1 - i
def ck3I (H : AHeap) (a : Nat) (l : List (Int × Int)) (k : Nat) (t : Fr) (H' : AHeap) (m : Nat) : Prop := ∃ i : Nat, i ≤ 1 ∧ t 74 = .arr a 1 ∧ t 75 = .int .i64 1 ∧ t 76 = .int .i64 i ∧ (i = 1 → good l k) ∧ ck0 H a t H' ∧ m = 1 - i
def ck2J (H : AHeap) (a b n : Nat) (t : Fr) (H' : AHeap) (m : Nat) : Prop := ∃ j : Nat, j ≤ n ∧ t 41 = .arr a 1 ∧ t 42 = .int .i64 1 ∧ t 43 = .int .i64 0 ∧ t 50 = .int .i64 n ∧ t 51 = .int .i64 j ∧ t 10 = .ptr (.loc (H.length + 1) 0) ∧ t 1 = .ptr (.loc H.length 0) ∧
  H' = H ++ [some ⟨[.arr a 1, .nils, .nils, .int .i64 0], 26⟩, some ⟨[.int .i64 0, .int .i64 0, .nils, .nils, .arr b n, .nils], 38⟩] ∧ m = n - j

theorem check_calls (C : Ctx) (hP : C.P = Tryd.prog) (hT : Tab C) (H : AHeap) (a b : Nat) (l : List (Int × Int)) (hI : Img C H a b l) (k : Nat) (hR : Runs l k) :
    FCalls C 7 [.agg [.arr a 1, .nils, .nils, .int .i64 0]] H (fun v H' => (v = if good l k then .tup [.int .i64 0, .int .i64 0, .int .i64 0] else .tup [.int .i64 0, .int .i64 k, .int .i64 6]) ∧ H' = H) := by
  refine FCalls.bodyR (hP ▸ v7) (by simp [e7]) fun hw ha => ?_
  generalize hQ : retR _ _ _ = Q
  have hlt := hget_lt hI.fn
  have hgx : ∀ ks, renV (keepAt H.length ks) (.arr a 1) = .arr a 1 := fun ks => renV_keepAt (by simpa [AVal.lt] using hlt)
  have hltb := hget_lt hI.cd
  have hgy : ∀ ks, renV (keepAt H.length ks) (.arr b l.length) = .arr b l.length := fun ks => renV_keepAt (by simpa [AVal.lt] using hltb)
  have gfn : ∀ L, hget (H ++ L) a = some ⟨[.int .i64 0, .int .i64 0, .nils, .nils, .arr b l.length, .nils], 38⟩ := fun L => hget_app_old hI.fn
  have gcd : ∀ L, hget (H ++ L) b = some ⟨codC l, 40⟩ := fun L => hget_app_old hI.cd
  have hcs : ∀ L, Cs C (H ++ L) (.arr b l.length) l := fun L => Cs.arr (gcd L)
  have hl0 : 0 < l.length := Nat.lt_of_le_of_lt (Nat.zero_le _) hR.lt
  have hl1 := hI.len
  have l1 : lenV false (.arr a 1) = some (.int .i64 ((1 : Nat) : Int)) := rfl
  have l2 : lenV false (.arr b l.length) = some (.int .i64 (l.length : Nat)) := rfl
  have l3 : lenV false .nils = some (.int .i64 0) := rfl
  have hw1 : IntKind.i64.wrap 1 = 1 := IntWalk.i64_in _ (by omega)
  show FW _ c7 _ _ _
  unfold c7
  refine FW.seq' ?_
  simp (implicitDefEqProofs := false) [e7, boxA, cellsOf]
  refine FW.seq' ?_
  simp (implicitDefEqProofs := false)
  refine FWops_callR rfl (by simp) (whole_straight C hP (.arr a 1) .nils .nils 0 1 _ (by omega) (by omega) (by omega) (by omega) l1 l3) ?_
  rintro v H' ⟨rfl, rfl⟩
  simp (implicitDefEqProofs := false)
  refine FW.cutN (ck0 H a) ?_ ?_
  · simp (implicitDefEqProofs := false) [l1]
    refine FW.loopN (ck1I H a) 1 ?_ ?_
    · exact ⟨0, by omega, by simp, by simp, by simp, ⟨by simp, rfl⟩, rfl⟩
    rintro t H' m ⟨i, hi, t24, t25, t26, ⟨t1, rfl⟩, rfl⟩ hk0 ht0 hn
    refine FWx.hide fun Q1 hQ1 => ?_
    by_cases h : i = 0
    · subst h
      simp (implicitDefEqProofs := false) [t1, t24, t25, t26, gfn, storeA, setL, cellsOf, scalar]
      refine FWops_callR rfl (by simp) (frame_straight C hP .nils .nils (.arr b l.length) .nils true l.length _ hl0 (by omega) l3 l3 l2) ?_
      rintro v H' ⟨rfl, rfl⟩
      simp (implicitDefEqProofs := false) [t26]
      rw [hQ1]
      refine loopN_end (H1 := H) [0] 0 (by omega) rfl (Nat.le_refl _) (by simp) (by simp) hw ?_
      exact ⟨1, by omega, by simp [t24, hgx], by simp [t25], by simp [hw1], ⟨by simp [t1], by simp [hgx]⟩, rfl⟩
    · have : i = 1 := by omega
      subst this
      simp (implicitDefEqProofs := false) [t1, t24, t25, t26]
      rw [hQ1]
      simp (implicitDefEqProofs := false)
      refine cutN_end (H1 := H) [0] rfl (Nat.le_refl _) (by simp) (by simp) hw ?_
      exact ⟨by simp [t1], by simp [hgx]⟩
  rintro t H' ⟨t1, rfl⟩
  refine FW.cutN (ck0 H a) ?_ ?_
  · simp (implicitDefEqProofs := false) [t1, l1]
    refine FW.loopN (ck2I H a) 1 ?_ ?_
    · exact ⟨0, by omega, by simp, by simp, by simp, ⟨by simp [t1], rfl⟩, rfl⟩
    clear t1 t
    rintro t H' m ⟨i, hi, t41, t42, t43, ⟨t1, rfl⟩, rfl⟩ hk0 ht0 hn
    refine FWx.hide fun Q1 hQ1 => ?_
    by_cases h : i = 0
    · subst h
      simp (implicitDefEqProofs := false) [t1, t41, t42, t43, gfn, storeA, setL, cellsOf, scalar, l2]
      refine FW.loopN (ck2J H a b l.length) l.length ?_ ?_
      · exact ⟨0, by omega, by simp [t41], by simp [t42], by simp [t43], by simp, by simp, by simp, by simp [t1], rfl, rfl⟩
      clear t1 t41 t42 t43 ht0 hk0 hn t
      rintro t H' m ⟨j, hj, t41, t42, t43, t50, t51, t10, t1, rfl, rfl⟩ hk0 ht0 hn
      refine FWx.hide fun Q2 hQ2 => ?_
      by_cases hjl : j < l.length
      · have hjl' : (j : Int) < l.length := by omega
        have hoj : okI l[j] := by
          have := hI.ok j hjl
          unfold nth at this
          rwa [List.getD_eq_getElem?_getD, List.getElem?_eq_getElem hjl] at this
        simp (implicitDefEqProofs := false) [t1, t10, t41, t42, t43, t50, t51, hjl']
        refine FWops_callR rfl (by simp) (instr_calls C hP hT (.arr a 1) .nils .nils (.int .i64 0) (.int .i64 0) (.int .i64 0) .nils .nils (.arr b l.length) .nils _ l (hcs _) j hjl hoj) ?_
        rintro v H' ⟨rfl, rfl⟩
        simp (implicitDefEqProofs := false) [t51]
        rw [hQ2]
        refine loopN_end (H1 := H) [0, 1] (l.length - (j + 1)) (by omega) rfl (Nat.le_refl _) (by simp) (by simp) hw ?_
        exact ⟨j + 1, by omega, by simp [t41, hgx], by simp [t42], by simp [t43], by simp [t50], by simp [wrap_nat (n := j) (by omega)], by simp [t10], by simp [t1], by simp [hgx, hgy], rfl⟩
      · have hjl' : ¬ (j : Int) < l.length := by omega
        simp (implicitDefEqProofs := false) [t1, t10, t41, t42, t43, t50, t51, hjl']
        rw [hQ2]
        simp (implicitDefEqProofs := false) [t10]
        refine FWops_callR rfl (by simp) (contains14_empty C hP .nils (.fn 15 [.ptr (.loc (H.length + 1) 0)]) _ l3) ?_
        rintro v H' ⟨rfl, rfl⟩
        simp (implicitDefEqProofs := false) [t43]
        rw [hQ1]
        refine loopN_end (H1 := H) [0] 0 (by omega) rfl (Nat.le_refl _) (by simp) (by simp) hw ?_
        exact ⟨1, by omega, by simp [t41, hgx], by simp [t42], by simp [hw1], ⟨by simp [t1], by simp [hgx]⟩, rfl⟩
    · have : i = 1 := by omega
      subst this
      simp (implicitDefEqProofs := false) [t1, t41, t42, t43]
      rw [hQ1]
      simp (implicitDefEqProofs := false)
      refine cutN_end (H1 := H) [0] rfl (Nat.le_refl _) (by simp) (by simp) hw ?_
      exact ⟨by simp [t1], by simp [hgx]⟩
  clear t1 t
  rintro t H' ⟨t1, rfl⟩
  refine FW.cutN (ck4 H a l k) ?_ ?_
  · simp (implicitDefEqProofs := false) [t1, l1]
    refine FW.loopN (ck3I H a l k) 1 ?_ ?_
    · exact ⟨0, by omega, by simp, by simp, by simp, fun h => by omega, ⟨by simp [t1], rfl⟩, rfl⟩
    clear t1 t
    rintro t H' m ⟨i, hi, t74, t75, t76, hgd, ⟨t1, rfl⟩, rfl⟩ hk0 ht0 hn
    refine FWx.hide fun Q1 hQ1 => ?_
    by_cases h : i = 0
    · subst h
      simp (implicitDefEqProofs := false) [t1, t74, t75, t76, gfn, storeA, setL, cellsOf, scalar]
      refine FWops_callR rfl (by simp) (flow_calls C hP hT (.arr a 1) .nils .nils (.int .i64 0) (.int .i64 0) (.int .i64 0) .nils .nils (.arr b l.length) .nils _ l (hcs _) l3 hl1 k hR.lt hR.goes (hI.ok k hR.lt) hR.fin) ?_
      rintro v H' hv
      by_cases hgd : good l k
      · rw [if_pos hgd] at hv
        obtain ⟨rfl, rfl⟩ := hv
        simp (implicitDefEqProofs := false) [t76]
        rw [hQ1]
        refine loopN_end (H1 := H) [0] 0 (by omega) rfl (Nat.le_refl _) (by simp) (by simp) hw ?_
        exact ⟨1, by omega, by simp [t74, hgx], by simp [t75], by simp [hw1], fun _ => hgd, ⟨by simp [t1], by simp [hgx]⟩, rfl⟩
      · rw [if_neg hgd] at hv
        obtain ⟨rfl, rfl⟩ := hv
        simp (implicitDefEqProofs := false) [t76]
        rw [hQ1]
        simp (implicitDefEqProofs := false)
        rw [← hQ]
        refine retR_at (H1 := H) [] rfl rfl (by simp) (by simp) hw ?_
        simp [e7, hgd]
    · have : i = 1 := by omega
      subst this
      simp (implicitDefEqProofs := false) [t1, t74, t75, t76]
      rw [hQ1]
      simp (implicitDefEqProofs := false)
      refine cutN_end (H1 := H) [0] rfl (Nat.le_refl _) (by simp) (by simp) hw ?_
      exact ⟨hgd rfl, by simp [t1], by simp [hgx]⟩
  clear t1 t
  rintro t H' ⟨hgd, t1, rfl⟩
  refine FWx_sound ?_
  simp (implicitDefEqProofs := false)
  rw [← hQ]
  refine retR_at (H1 := H) [] rfl rfl (by simp) (by simp) hw ?_
  simp [e7, hgd]

end Go.Proofs.YtlghjfmehfochaaDoor
