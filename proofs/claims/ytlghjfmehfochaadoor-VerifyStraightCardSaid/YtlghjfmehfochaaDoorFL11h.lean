/-
  OWN WORK (an AI agent). Part L11h of a walk by simplification over abstract heaps.
-/
import Derived.Test.YtlghjfmehfochaaDoorFL11g
set_option linter.all false
set_option linter.unusedSimpArgs false
set_option linter.unusedVariables false
set_option maxRecDepth 20000
namespace Go.Proofs.YtlghjfmehfochaaDoor
open Go.F Go.RowKit

/-- a code under way -/
def CL (x : AVal) (o : Option ABlk) (id : Nat) (l : List (Int × Int)) : Prop := (x = .nils ∧ l = []) ∨ (x = .arr id l.length ∧ o = some ⟨codC l, 40⟩)

def st1I (H : AHeap) (n : Nat) (t : Fr) (H' : AHeap) (m : Nat) : Prop := ∃ (i : Nat) (x : AVal) (o : Option ABlk), i ≤ n ∧ t 0 = .int .i64 n ∧ t 3 = x ∧ t 4 = .int .i64 i ∧ CL x o H.length (pushL i) ∧ H' = H ++ [o] ∧ m = n - i
def st1 (H : AHeap) (n : Nat) (l : List (Int × Int)) (t : Fr) (H' : AHeap) : Prop := ∃ (x : AVal) (o : Option ABlk), t 0 = .int .i64 n ∧ t 3 = x ∧ CL x o H.length l ∧ H' = H ++ [o]
def st2I (H : AHeap) (n : Nat) (t : Fr) (H' : AHeap) (m : Nat) : Prop := ∃ (j : Nat) (x : AVal) (o : Option ABlk), 1 ≤ j ∧ j ≤ n ∧ t 0 = .int .i64 n ∧ t 3 = x ∧ t 5 = .int .i64 j ∧ CL x o H.length (pushL n ++ List.replicate (j - 1) (4, 0)) ∧ H' = H ++ [o] ∧ m = n - j

def st3 (H : AHeap) (n : Nat) (t : Fr) (H' : AHeap) : Prop := t 0 = .int .i64 n ∧ t 3 = .arr H.length (codeL n).length ∧ H' = H ++ [some ⟨codC (codeL n), 40⟩]

def st5I (H : AHeap) (n : Nat) (HH : AHeap) (t : Fr) (H' : AHeap) (m : Nat) : Prop := ∃ i : Nat, i ≤ 2 * n ∧ t 0 = .int .i64 n ∧ t 10 = .arr (H.length + 3) (codeL n).length ∧ t 12 = .int .i64 i ∧ H' = HH ∧ m = 2 * n - i
theorem codC_app (l m : List (Int × Int)) : codC (l ++ m) = codC l ++ codC m := by simp [codC]
theorem codC_one (e : Int × Int) : codC [e] = [.int .i64 e.1, .int .i64 e.2, .int .i64 0] := rfl

theorem straight_calls (C : Ctx) (hP : C.P = Tryd.prog) (hT : Tab C) (z : Int) (H : AHeap) : FCalls C 4 [.int .i64 z] H (fun v _ => v = .bool true) := by
  refine FCalls.entry (hP ▸ v4) (by simp [e4]) fun hw ha => ?_
  generalize hQ : retQ _ _ _ = Q
  show FW _ c4 _ _ _
  unfold c4
  refine FW.seq' ?_
  simp (implicitDefEqProofs := false) [e4]
  by_cases hz : z < 1 ∨ 300 < z
  · refine FW.seq' ?_
    by_cases hz1 : z < 1
    · simp (implicitDefEqProofs := false) [hz1]
      refine FWops_callR rfl (by simp) (live_calls C hP hT _) ?_
      rintro v H1 ⟨rfl, rfl⟩
      simp (implicitDefEqProofs := false)
      rw [← hQ]
      refine retQ_ret (by simp) ?_
      simp [e4]
    · have hz2 : 300 < z := by omega
      simp (implicitDefEqProofs := false) [hz1, hz2]
      refine FWops_callR rfl (by simp) (live_calls C hP hT _) ?_
      rintro v H1 ⟨rfl, rfl⟩
      simp (implicitDefEqProofs := false)
      rw [← hQ]
      refine retQ_ret (by simp) ?_
      simp [e4]
  have hz1 : ¬ z < 1 := by omega
  have hz2 : ¬ 300 < z := by omega
  refine FW.seq' ?_
  simp (implicitDefEqProofs := false) [hz1, hz2]
  obtain ⟨n, rfl⟩ : ∃ n : Nat, z = n := ⟨z.toNat, by omega⟩
  have n1 : 1 ≤ n := by omega
  have n2 : n ≤ 300 := by omega
  refine FW.seq' ?_
  simp (implicitDefEqProofs := false)
  refine FW.pad 1 ?_
  refine FW.cut' (st1 H n (pushL n)) ?_ ?_
  · simp (implicitDefEqProofs := false)
    refine FW.loopN (st1I H n) n ?_ ?_
    · exact ⟨0, .nils, none, by omega, by simp, by simp, by simp, .inl ⟨rfl, rfl⟩, by simp, rfl⟩
    rintro t H' m ⟨i, x, o, hi, t0, t3, t4, hx, rfl, rfl⟩ hk0 ht0 hn
    refine FWx.hide fun Q1 hQ1 => ?_
    by_cases h : i < n
    · have h' : (i : Int) < n := by omega
      rcases hx with ⟨rfl, hl⟩ | ⟨rfl, rfl⟩
      · have hi0 : i = 0 := by
          have := congrArg List.length hl
          rwa [pushL_length] at this
        simp (implicitDefEqProofs := false) [t0, t3, t4, h', evalP, fillA, setL, storeA, cellsOf, appendE, srcCells, scalar]
        rw [hQ1]
        refine loopN_end (H1 := H) [2] (n - (i + 1)) (by omega) rfl (Nat.le_refl _) (by simp) (by simp) hw ?_
        refine ⟨i + 1, .arr H.length 1, some ⟨codC (pushL (i + 1)), 40⟩, by omega, by simp [t0], by simp, by simp [wrap_nat (n := i) (by omega)], .inr ⟨by rw [pushL_length, hi0], rfl⟩, ?_, rfl⟩
        subst hi0
        simp [pushL, codC]
      · have hlen := pushL_length i
        have b1 : ((pushL i).length + 1) * 24 ≤ 140737488355328 := by omega
        have b2 : ¬ ((pushL i).length + 1) * 3 ≤ (pushL i).length * 3 := by omega
        have tk : List.take ((pushL i).length * 3) (codC (pushL i)) = codC (pushL i) := List.take_of_length_le (by rw [codC_length]; exact Nat.le_refl _)
        have hc : codC (pushL i) ++ [.int .i64 0, .int .i64 i, .int .i64 0] = codC (pushL (i + 1)) := by rw [← pushL_succ, codC_app]; rfl
        simp (implicitDefEqProofs := false) [t0, t3, t4, h', evalP, fillA, setL, storeA, cellsOf, appendE, srcCells, scalar, codC_length, b1, b2, tk, hc]
        rw [hQ1]
        refine loopN_end (H1 := H) [2] (n - (i + 1)) (by omega) rfl (Nat.le_refl _) (by simp) (by simp) hw ?_
        exact ⟨i + 1, .arr H.length (i + 1), some ⟨codC (pushL (i + 1)), 40⟩, by omega, by simp [t0], by simp [hlen], by simp [wrap_nat (n := i) (by omega)], .inr ⟨by rw [pushL_length], rfl⟩, by simp [ren_codC], rfl⟩
    · have h' : ¬ (i : Int) < n := by omega
      have e : i = n := by omega
      subst e
      simp (implicitDefEqProofs := false) [t0, t3, t4, h']
      rw [hQ1]
      simp (implicitDefEqProofs := false)
      exact ⟨x, o, by simp [t0], by simp [t3], hx, rfl⟩
  rintro t H' ⟨x, o, t0, t3, hx, rfl⟩
  refine FW.cut' (st1 H n (pushL n ++ List.replicate (n - 1) (4, 0))) ?_ ?_
  · simp (implicitDefEqProofs := false)
    refine FW.loopN (st2I H n) (n - 1) ?_ ?_
    · exact ⟨1, x, o, by omega, by omega, by simp [t0], by simp [t3], by simp, by simpa using hx, by simp, rfl⟩
    clear hx t0 t3 x o t
    rintro t H' m ⟨i, x, o, hi1, hi, t0, t3, t5, hx, rfl, rfl⟩ hk0 ht0 hn
    refine FWx.hide fun Q1 hQ1 => ?_
    by_cases h : i < n
    · have h' : (i : Int) < n := by omega
      rcases hx with ⟨rfl, hl⟩ | ⟨rfl, rfl⟩
      · have := congrArg List.length hl
        rw [List.length_append, pushL_length] at this
        simp at this
        omega
      · have hlen : (pushL n ++ List.replicate (i - 1) ((4, 0) : Int × Int)).length = n + (i - 1) := by rw [List.length_append, pushL_length, List.length_replicate]
        have hc : codC (pushL n ++ List.replicate (i - 1) (4, 0)) ++ [.int .i64 4, .int .i64 0, .int .i64 0] = codC (pushL n ++ List.replicate (i + 1 - 1) (4, 0)) := by
          rw [show i + 1 - 1 = (i - 1) + 1 by omega, ← drops_succ, codC_app (pushL n ++ List.replicate (i - 1) (4, 0))]; rfl
        have hlen2 : (pushL n ++ List.replicate (i + 1 - 1) ((4, 0) : Int × Int)).length = n + (i - 1) + 1 := by rw [List.length_append, pushL_length, List.length_replicate]; omega
        generalize hL2 : pushL n ++ List.replicate (i + 1 - 1) ((4, 0) : Int × Int) = L2 at *
        generalize hL1 : pushL n ++ List.replicate (i - 1) ((4, 0) : Int × Int) = L1 at *
        have b1 : (L1.length + 1) * 24 ≤ 140737488355328 := by omega
        have b2 : ¬ (L1.length + 1) * 3 ≤ L1.length * 3 := by omega
        have tk : List.take (L1.length * 3) (codC L1) = codC L1 := List.take_of_length_le (by rw [codC_length]; exact Nat.le_refl _)
        have hl12 : L2.length = L1.length + 1 := by omega
        simp (implicitDefEqProofs := false) [t0, t3, t5, h', evalP, fillA, setL, storeA, cellsOf, appendE, srcCells, scalar, codC_length, b1, b2, tk, hc]
        rw [hQ1]
        refine loopN_end (H1 := H) [2] (n - (i + 1)) (by omega) rfl (Nat.le_refl _) (by simp) (by simp) hw ?_
        exact ⟨i + 1, .arr H.length L2.length, some ⟨codC L2, 40⟩, by omega, by omega, by simp [t0], by simp [hl12], by simp [wrap_nat (n := i) (by omega)], .inr ⟨by rw [hL2], by rw [hL2]⟩, by simp [ren_codC], rfl⟩
    · have h' : ¬ (i : Int) < n := by omega
      have e : i = n := by omega
      subst e
      simp (implicitDefEqProofs := false) [t0, t3, t5, h']
      rw [hQ1]
      simp (implicitDefEqProofs := false)
      exact ⟨x, o, by simp [t0], by simp [t3], hx, rfl⟩
  clear hx t0 t3 x o t
  rintro t H' ⟨x, o, t0, t3, hx, rfl⟩
  have clen := codeL_length n1
  rcases hx with ⟨rfl, hl⟩ | ⟨rfl, rfl⟩
  · have := congrArg List.length hl
    rw [List.length_append, pushL_length] at this
    simp at this
    omega
  refine FW.cutN (st3 H n) ?_ ?_
  · have hc : codC (pushL n ++ List.replicate (n - 1) (4, 0)) ++ [.int .i64 27, .int .i64 0, .int .i64 0] = codC (codeL n) := by
      rw [codeL, codC_app (pushL n ++ List.replicate (n - 1) (4, 0))]; rfl
    have hlen : (pushL n ++ List.replicate (n - 1) ((4, 0) : Int × Int)).length + 1 = (codeL n).length := by rw [codeL, List.length_append (bs := [(27, 0)])]; rfl
    generalize hL1 : pushL n ++ List.replicate (n - 1) ((4, 0) : Int × Int) = L1 at *
    have b1 : (L1.length + 1) * 24 ≤ 140737488355328 := by omega
    have b2 : ¬ (L1.length + 1) * 3 ≤ L1.length * 3 := by omega
    have tk : List.take (L1.length * 3) (codC L1) = codC L1 := List.take_of_length_le (by rw [codC_length]; exact Nat.le_refl _)
    simp (implicitDefEqProofs := false) [t0, t3, evalP, fillA, setL, storeA, cellsOf, appendE, srcCells, scalar, codC_length, b1, b2, tk, hc]
    refine cutN_end (H1 := H) [2] rfl (Nat.le_refl _) (by simp) (by simp) hw ?_
    exact ⟨by simp [t0], by simp [hlen], by simp [ren_codC]⟩
  clear t0 t3 t
  rintro t H' ⟨t0, t3, rfl⟩
  refine FW.seq' ?_
  simp (implicitDefEqProofs := false) [t3, evalP, fillA, setL, storeA, cellsOf]
  refine FW.seq' ?_
  simp (implicitDefEqProofs := false) [t0, cellsOf]
  have hIm : ∀ L, Img C (H ++ some ⟨codC (codeL n), 40⟩ :: some ⟨[.int .i64 0, .int .i64 0, .nils, .nils, .arr H.length (codeL n).length, .nils], 38⟩ :: L) (H.length + 1) H.length (codeL n) := fun L => ⟨by simp, by simp, by omega, ok_code n1 n2⟩
  have hR := runs_code n1 n2
  have hG := good_code n1 n2
  refine FWops_callR rfl (by simp) (check_calls C hP hT _ (H.length + 1) H.length (codeL n) (hIm _) (endK n) hR) ?_
  rintro v H' ⟨hv, rfl⟩
  by_cases h256 : n ≤ 256
  rotate_left
  · have hg : ¬ good (codeL n) (endK n) := fun h => h256 (hG.1 h)
    have hk : endK n = 256 := if_neg h256
    have h256' : (256 : Int) < n := by omega
    rw [if_neg hg, hk] at hv
    subst hv
    simp (implicitDefEqProofs := false)
    refine FW.seq' ?_
    simp (implicitDefEqProofs := false) [cellsOf]
    refine FWops_callR rfl (by simp) (heights_calls C hP hT _ (H.length + 1) H.length (codeL n) (hIm _) (endK n) hR) ?_
    rintro v H' hv
    rw [if_neg hg] at hv
    obtain ⟨rfl, rfl⟩ := hv
    simp (implicitDefEqProofs := false)
    refine FW.seq' ?_
    simp (implicitDefEqProofs := false) [t0, h256']
    refine FWops_callR rfl (by simp) (num_calls C hP _ 6) ?_
    rintro v H' ⟨rfl, rfl⟩
    simp (implicitDefEqProofs := false)
    refine FWops_callR rfl (by simp) (num_calls C hP _ 6) ?_
    rintro v H' ⟨rfl, rfl⟩
    simp (implicitDefEqProofs := false)
    refine FWops_callR rfl (by simp) (live_calls C hP hT _) ?_
    rintro v H' ⟨rfl, rfl⟩
    simp (implicitDefEqProofs := false)
    rw [← hQ]
    refine retQ_ret (by simp) ?_
    simp [e4]
  have hg : good (codeL n) (endK n) := hG.2 h256
  have hk : endK n = 2 * n - 1 := if_pos h256
  have h256' : ¬ (256 : Int) < n := by omega
  rw [if_pos hg] at hv
  subst hv
  simp (implicitDefEqProofs := false)
  refine FW.seq' ?_
  simp (implicitDefEqProofs := false) [cellsOf]
  refine FWops_callR rfl (by simp) (heights_calls C hP hT _ (H.length + 1) H.length (codeL n) (hIm _) (endK n) hR) ?_
  rintro v H' hv
  rw [if_pos hg] at hv
  obtain ⟨rfl, rfl⟩ := hv
  have hw2 : IntKind.i64.wrap (2 * (n : Int)) = ((codeL n).length : Nat) := by rw [IntWalk.i64_in _ (by omega), clen]; omega
  have hw0 : IntKind.i64.wrap 0 = 0 := IntWalk.i64_in _ (by omega)
  simp (implicitDefEqProofs := false)
  refine FW.seq' ?_
  simp (implicitDefEqProofs := false) [t0, h256']
  refine FW.seq' ?_
  simp (implicitDefEqProofs := false)
  refine FWops_callR rfl (by simp) (num_calls C hP _ 0) ?_
  rintro v H' ⟨rfl, rfl⟩
  simp (implicitDefEqProofs := false)
  refine FWops_callR rfl (by simp) (num_calls C hP _ 0) ?_
  rintro v H' ⟨rfl, rfl⟩
  simp (implicitDefEqProofs := false) [t0, hw2, hw0]
  have hsn : ∀ i, i < 2 * n → (intC (seenL (codeL n) (endK n)))[i]? = some (.int .i64 (if i ≤ n then (i : Int) else 2 * (n : Int) - i)) := by
    intro i hi
    have h1 : i < (seenL (codeL n) (endK n)).length := by rw [seenL_length, clen]; exact hi
    rw [intC, List.getElem?_map, List.getElem?_eq_getElem h1, seenL_get h1, hk, if_pos (by omega), ht_code i (by omega)]
    rfl
  generalize intC (seenL (codeL n) (endK n)) = hs at hsn
  generalize hHH : H ++ [some ⟨codC (codeL n), 40⟩, some ⟨[.int .i64 0, .int .i64 0, .nils, .nils, .arr H.length (codeL n).length, .nils], 38⟩, some ⟨[.arr (H.length + 1) 1, .nils, .nils, .int .i64 0], 26⟩, some ⟨hs, 3⟩] = HH
  have hget : hget HH (H.length + 3) = some ⟨hs, 3⟩ := by rw [← hHH]; simp
  have hlen : H.length ≤ HH.length := by rw [← hHH]; simp
  have hw2' : IntKind.i64.wrap (2 * (n : Int)) = 2 * (n : Int) := IntWalk.i64_in _ (by omega)
  refine FW.cut' (fun t H' => H' = HH) ?_ ?_
  · simp (implicitDefEqProofs := false)
    refine FW.loop (st5I H n HH) (2 * n) ⟨0, by omega, by simp [t0], by simp, by simp, rfl, rfl⟩ ?_
    clear t0 t3 t
    rintro t H' m ⟨i, hi, t0, t10, t12, rfl, rfl⟩
    refine FWx_sound (FWx.hide fun Q1 hQ1 => ?_)
    by_cases h : i < 2 * n
    · have h' : (i : Int) < 2 * (n : Int) := by omega
      have h'' : (i : Int) < ((codeL n).length : Nat) := by rw [clen]; omega
      have hv := hsn i h
      by_cases hin : i ≤ n
      · rw [if_pos hin] at hv
        have hin' : ¬ (n : Int) < i := by omega
        simp (implicitDefEqProofs := false) [t0, t10, t12, h', h'', hw2', hin', hget, hv]
        rw [hQ1]
        simp (implicitDefEqProofs := false)
        exact ⟨2 * n - (i + 1), by omega, i + 1, by omega, by simp [t0], by simp [t10], by simp [wrap_nat (n := i) (by omega)], rfl, rfl⟩
      · rw [if_neg hin] at hv
        have hin' : (n : Int) < i := by omega
        have hw3 : IntKind.i64.wrap (2 * (n : Int) - i) = 2 * (n : Int) - i := IntWalk.i64_in _ (by omega)
        simp (implicitDefEqProofs := false) [t0, t10, t12, h', h'', hw2', hw3, hin', hget, hv]
        rw [hQ1]
        simp (implicitDefEqProofs := false)
        exact ⟨2 * n - (i + 1), by omega, i + 1, by omega, by simp [t0], by simp [t10], by simp [wrap_nat (n := i) (by omega)], rfl, rfl⟩
    · have h' : ¬ (i : Int) < 2 * (n : Int) := by omega
      simp (implicitDefEqProofs := false) [t0, t10, t12, h', hw2']
      rw [hQ1]
      simp (implicitDefEqProofs := false)
  clear t0 t3 t
  rintro t H' rfl
  refine FWx_sound ?_
  simp (implicitDefEqProofs := false)
  refine FWops_callR rfl (by simp) (live_calls C hP hT _) ?_
  rintro v H' ⟨rfl, rfl⟩
  simp (implicitDefEqProofs := false)
  rw [← hQ]
  refine retQ_ret hlen ?_
  simp [e4]

end Go.Proofs.YtlghjfmehfochaaDoor
