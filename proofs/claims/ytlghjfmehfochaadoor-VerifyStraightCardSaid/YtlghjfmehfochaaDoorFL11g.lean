/-
  OWN WORK (an AI agent). Part L11g of a walk by simplification over abstract heaps.
-/
import Derived.Test.YtlghjfmehfochaaDoorFL11f
set_option linter.all false
set_option linter.unusedSimpArgs false
set_option linter.unusedVariables false
set_option maxRecDepth 20000
namespace Go.Proofs.YtlghjfmehfochaaDoor
open Go.F Go.RowKit

/-! the straight code: n pushes, n - 1 drops, the return -/
def pushL (n : Nat) : List (Int × Int) := (List.range n).map fun (i : Nat) => (0, (i : Int))
def codeL (n : Nat) : List (Int × Int) := pushL n ++ List.replicate (n - 1) (4, 0) ++ [(27, 0)]

theorem pushL_length (n : Nat) : (pushL n).length = n := by simp [pushL]
theorem codeL_length {n : Nat} (h : 1 ≤ n) : (codeL n).length = 2 * n := by simp [codeL, pushL_length]; omega
theorem pushL_succ (n : Nat) : pushL n ++ [(0, (n : Int))] = pushL (n + 1) := by
  unfold pushL
  rw [List.range_succ, List.map_append]
  rfl
theorem drops_succ (n j : Nat) : pushL n ++ List.replicate j (4, 0) ++ [((4, 0) : Int × Int)] = pushL n ++ List.replicate (j + 1) (4, 0) := by
  rw [List.append_assoc, ← List.replicate_succ']

theorem nth_push {n i : Nat} (h : i < n) : nth (codeL n) i = (0, (i : Int)) := by
  have h1 : i < (pushL n).length := by rw [pushL_length]; exact h
  unfold nth codeL
  rw [List.getD_eq_getElem?_getD, List.append_assoc, List.getElem?_append_left h1, List.getElem?_eq_getElem h1]
  simp [pushL]
theorem nth_drop {n i : Nat} (h : n ≤ i) (h2 : i + 1 < 2 * n) : nth (codeL n) i = (4, 0) := by
  unfold nth codeL
  rw [List.getD_eq_getElem?_getD, List.append_assoc, List.getElem?_append_right (by rw [pushL_length]; exact h), pushL_length, List.getElem?_append_left (by simp; omega)]
  rw [List.getElem?_replicate, if_pos (by omega)]
  rfl
theorem nth_last {n : Nat} (h : 1 ≤ n) : nth (codeL n) (2 * n - 1) = (27, 0) := by
  unfold nth codeL
  rw [List.getD_eq_getElem?_getD, List.append_assoc, List.getElem?_append_right (by rw [pushL_length]; omega), pushL_length, List.getElem?_append_right (by simp; omega)]
  simp only [List.length_replicate]
  rw [show 2 * n - 1 - n - (n - 1) = 0 by omega]
  rfl

theorem ht_code {n : Nat} : ∀ i, i ≤ 2 * n - 1 → ht (codeL n) i = if i ≤ n then (i : Int) else 2 * (n : Int) - i
  | 0, _ => by simp [ht]
  | i + 1, hi => by
    have ih := ht_code (n := n) i (by omega)
    simp only [ht]
    rw [ih]
    by_cases h : i < n
    · rw [nth_push h, if_pos (by omega), if_pos (by omega)]
      simp [take1, put1]
    · rw [nth_drop (by omega) (by omega)]
      have e1 : take1 (4, 0) = 1 := rfl
      have e2 : put1 (4, 0) = 0 := rfl
      rw [e1, e2]
      split <;> split <;> omega

theorem ok_code {n : Nat} (h1 : 1 ≤ n) (h2 : n ≤ 300) : ∀ i, i < (codeL n).length → okI (nth (codeL n) i) := by
  intro i hi
  rw [codeL_length h1] at hi
  by_cases h : i < n
  · rw [nth_push h]
    exact .inl ⟨rfl, by simp only; omega, by simp only; omega⟩
  · by_cases h3 : i + 1 < 2 * n
    · rw [nth_drop (by omega) h3]
      exact .inr (.inl ⟨rfl, rfl⟩)
    · rw [show i = 2 * n - 1 by omega, nth_last h1]
      exact .inr (.inr ⟨rfl, rfl⟩)

theorem goes_code {n i : Nat} (h1 : 1 ≤ n) (h2 : n ≤ 300) (h : i + 1 < 2 * n) (h3 : n ≤ 256 ∨ i < 256) : goes (codeL n) i := by
  refine ⟨ok_code h1 h2 i (by rw [codeL_length h1]; omega), ?_, by rw [codeL_length h1]; exact h, ?_⟩
  · by_cases c : i < n
    · rw [nth_push c]; simp
    · rw [nth_drop (by omega) h]; decide
  · rw [ht_code i (by omega)]
    by_cases c : i < n
    · have e1 : take1 (0, (i : Int)) = 0 := rfl
      have e2 : put1 (0, (i : Int)) = 1 := rfl
      rw [nth_push c, e1, e2]
      split <;> omega
    · rw [nth_drop (by omega) h]
      have e1 : take1 (4, 0) = 1 := rfl
      have e2 : put1 (4, 0) = 0 := rfl
      rw [e1, e2]
      split <;> omega

/-- where the straight code ends -/
def endK (n : Nat) : Nat := if n ≤ 256 then 2 * n - 1 else 256

theorem good_code {n : Nat} (h1 : 1 ≤ n) (h2 : n ≤ 300) : good (codeL n) (endK n) ↔ n ≤ 256 := by
  unfold good
  by_cases c : n ≤ 256
  · have e : endK n = 2 * n - 1 := if_pos c
    have e1 : take1 (27, 0) = 1 := rfl
    have e2 : put1 (27, 0) = 0 := rfl
    rw [e, nth_last h1, ht_code _ (Nat.le_refl _), e1, e2]
    refine ⟨fun _ => c, fun _ => ?_⟩
    split <;> omega
  · have e : endK n = 256 := if_neg c
    have e1 : take1 (0, ((256 : Nat) : Int)) = 0 := rfl
    have e2 : put1 (0, ((256 : Nat) : Int)) = 1 := rfl
    rw [e, nth_push (by omega), ht_code _ (by omega), e1, e2]
    refine ⟨fun h => ?_, fun h => absurd h c⟩
    rw [if_pos (by omega)] at h
    omega

theorem runs_code {n : Nat} (h1 : 1 ≤ n) (h2 : n ≤ 300) : Runs (codeL n) (endK n) := by
  refine ⟨?_, fun i hi => ?_, fun h => ?_⟩
  · rw [codeL_length h1]; unfold endK; split <;> omega
  · unfold endK at hi
    split at hi
    · exact goes_code h1 h2 (by omega) (.inl (by assumption))
    · exact goes_code h1 h2 (by omega) (.inr hi)
  · have c := (good_code h1 h2).1 h
    have e : endK n = 2 * n - 1 := if_pos c
    rw [e, nth_last h1]

end Go.Proofs.YtlghjfmehfochaaDoor
