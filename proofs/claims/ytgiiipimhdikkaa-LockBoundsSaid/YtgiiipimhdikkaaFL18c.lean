/-
  OWN WORK (an AI agent). Part L18c of a walk by simplification over abstract heaps.
-/
import Derived.Test.YtgiiipimhdikkaaFL18b
import Derived.Test.YtgiiipimhdikkaaFM
set_option linter.all false
set_option linter.unusedSimpArgs false
set_option linter.unusedVariables false
namespace Go.Proofs.Ytgiiipimhdikkaa
open Go.F Go.RowKit

def mk (sl : AVal) : List AVal := [sl, .nils, .nils, .int .i64 0]

theorem make_first (C : Ctx) (hP : C.P = Try.prog) : FCalls C 6 [.ptr (.loc 0 0)] [some ⟨mk .nils, 42⟩] (fun v H => v = .tup [.int .i64 0, .int .i64 0] ∧ ∃ c, H = [some ⟨mk (.arr 1 1), 42⟩, some ⟨c, 43⟩] ∧ c.length = 1) := by
  refine FCalls.bodyR (hP ▸ v6) (by simp [e6]) fun _ _ => FWx_sound ?_
  simp (implicitDefEqProofs := false) [e6, c6, mk, frA, evalP, fillA, cellsOf, setL, boxA, appendA, srcCells, scalar, storeA]
  refine retR_ret [0, 3] 4 rfl rfl ?_
  simp [renV, renL, renH, IntWalk.i64_in]
  exact ⟨_, ⟨rfl, rfl⟩, rfl⟩

theorem make_more (C : Ctx) (hP : C.P = Try.prog) (k : Nat) (hk : 0 < k) (h1 : k < 1024) (cs : List AVal) (hc : cs.length = k) : FCalls C 6 [.ptr (.loc 0 0)] [some ⟨mk (.arr 1 k), 42⟩, some ⟨cs, 43⟩]
    (fun v H => v = .tup [.int .i64 k, .int .i64 0] ∧ ∃ c, H = [some ⟨mk (.arr 2 (k + 1)), 42⟩, none, some ⟨c, 43⟩] ∧ c.length = k + 1) := by
  refine FCalls.bodyR (hP ▸ v6) (by simp [e6]) fun _ _ => FWx_sound ?_
  have hne : ¬ ((k : Int) = 1024) := by omega
  have c1 : k ≤ cs.length ∧ (k + 1) * 8 ≤ 140737488355328 := by omega
  have c2 : ¬ (k + 1 ≤ cs.length) := by omega
  have hw2 : IntKind.i64.wrap (k : Int) = k := IntWalk.i64_in _ (by omega)
  simp (implicitDefEqProofs := false) [e6, c6, mk, frA, evalP, fillA, cellsOf, setL, boxA, appendA, srcCells, scalar, storeA, hne, c1, c2, hw2]
  refine retR_ret [0, 1, 4] 5 rfl rfl ?_
  simp [renV, renL, renH, List.idxOf?, List.findIdx?, List.findIdx?.go, renL_length]
  omega

theorem make_none (C : Ctx) (hP : C.P = Try.prog) (cs : List AVal) : FCalls C 6 [.ptr (.loc 0 0)] [some ⟨mk (.arr 1 1024), 42⟩, some ⟨cs, 43⟩] (fun v H => v = .tup [.int .i64 0, .int .i64 3] ∧ H = [some ⟨mk (.arr 1 1024), 42⟩, some ⟨cs, 43⟩]) := by
  refine FCalls.entry (hP ▸ v6) (by simp [e6]) fun _ _ => FWx_sound ?_
  simp (implicitDefEqProofs := false) [e6, c6, mk, frA]
  refine retQ_ret (Nat.le_refl _) ?_
  simp

theorem new_calls (C : Ctx) (hP : C.P = Try.prog) : FCalls C 5 [] [] (fun v H => v = .ptr (.loc 0 0) ∧ H = [some ⟨mk .nils, 42⟩]) := by
  refine FCalls.entry (hP ▸ v5) (by simp [e5]) fun _ _ => FWx_sound ?_
  simp (implicitDefEqProofs := false) [e5, c5, mk, frA, evalP, fillA, boxA, cellsOf]
  refine retQ_ret (Nat.zero_le _) ?_
  simp

theorem num_calls (C : Ctx) (hP : C.P = Try.prog) (e : Int) (H : AHeap) : FCalls C 7 [.int .i64 e] H (fun v H' => v = .int .i64 e ∧ H' = H) := by
  refine FCalls.entry (hP ▸ v7) (by simp [e7]) fun _ _ => FWx_sound ?_
  simp (implicitDefEqProofs := false) [e7, c7, frA]
  refine retQ_ret (Nat.le_refl _) ?_
  simp


/-- the heap behind i calls of Make -/
def hp (i : Nat) (H : AHeap) : Prop := if i = 0 then H = [some ⟨mk .nils, 42⟩] else ∃ c, H = [some ⟨mk (.arr 1 (min i 1024)), 42⟩, some ⟨c, 43⟩] ∧ c.length = min i 1024

theorem make_at (C : Ctx) (hP : C.P = Try.prog) (i : Nat) (H : AHeap) (h : hp i H) : FCalls C 6 [.ptr (.loc 0 0)] H
    (fun v H' => v = .tup [.int .i64 (if i < 1024 then i else 0), .int .i64 (if i < 1024 then 0 else 3)] ∧ ∃ keep, KeepOK 0 H' keep ∧ hp (i + 1) (renH keep H') ∧ renV keep (.ptr (.loc 0 0)) = .ptr (.loc 0 0)) := by
  unfold hp at h
  split at h
  · rename_i e; subst e; subst h
    refine (make_first C hP).mono ?_
    rintro v H' ⟨rfl, c, rfl, hc⟩
    refine ⟨by simp, [0, 1], .of rfl rfl, ?_, rfl⟩
    simp [hp]
    exact ⟨_, rfl, by rw [renL_length, hc]⟩
  · rename_i hi
    obtain ⟨c, rfl, hc⟩ := h
    by_cases h1 : i < 1024
    · have e : min i 1024 = i := by omega
      rw [e] at hc ⊢
      refine (make_more C hP i (by omega) h1 c hc).mono ?_
      rintro v H' ⟨rfl, c', rfl, hc'⟩
      refine ⟨by simp [h1], [0, 2], .of rfl rfl, ?_, rfl⟩
      have e2 : min (i + 1) 1024 = i + 1 := by omega
      simp only [hp, e2, Nat.succ_ne_zero, if_false]
      exact ⟨_, rfl, by rw [renL_length, hc']⟩
    · have e : min i 1024 = 1024 := by omega
      rw [e] at hc ⊢
      refine (make_none C hP c).mono ?_
      rintro v H' ⟨rfl, rfl⟩
      refine ⟨by simp [h1], [0, 1], .of rfl rfl, ?_, rfl⟩
      have e2 : min (i + 1) 1024 = 1024 := by omega
      simp only [hp, e2, Nat.succ_ne_zero, if_false]
      exact ⟨_, rfl, by rw [renL_length, hc]⟩

theorem bounds_calls (C : Ctx) (hP : C.P = Try.prog) (n : Int) (hn : -9223372036854775808 ≤ n ∧ n ≤ 9223372036854775807) : FCalls C 3 [.int .i64 n] [] (fun v H => v = .bool true) := by
  refine FCalls.entry (hP ▸ v3) (by simp [e3]) fun _ _ => FWx_sound (FWx.hide fun Q hQ => ?_)
  by_cases c1 : n < 1020
  · simp (implicitDefEqProofs := false) [e3, c3, c1]
    refine FWops_callR rfl (by simp) (live_calls C hP) ?_
    rintro v H rfl
    simp (implicitDefEqProofs := false)
    rw [hQ]
    refine retQ_ret (Nat.zero_le _) ?_
    simp [e3]
  by_cases c2 : 1030 < n
  · simp (implicitDefEqProofs := false) [e3, c3, c1, c2]
    refine FWops_callR rfl (by simp) (live_calls C hP) ?_
    rintro v H rfl
    simp (implicitDefEqProofs := false)
    rw [hQ]
    refine retQ_ret (Nat.zero_le _) ?_
    simp [e3]
  obtain ⟨n, rfl⟩ : ∃ m : Nat, n = m := ⟨n.toNat, by omega⟩
  simp (implicitDefEqProofs := false) [e3, c3, c1, c2]
  refine FWops_callR rfl (by simp) (new_calls C hP) ?_
  rintro v H ⟨rfl, rfl⟩
  simp (implicitDefEqProofs := false)
  refine FW.loopR (fun t H m => ∃ i : Nat, t 0 = .int .i64 n ∧ t 3 = .ptr (.loc 0 0) ∧ t 4 = .int .i64 i ∧ hp i H ∧ i ≤ n ∧ m = n - i) n ⟨0, ?_⟩ ?_
  · simp [hp]
  rintro t H m ⟨i, t0, t3, t4, hH, hin, rfl⟩
  refine FWx_sound (FWx.hide fun Q1 hQ1 => ?_)
  by_cases c3 : i < n
  · simp (implicitDefEqProofs := false) [t0, t3, t4, c3]
    refine FWops_callR rfl (by simp [t3]) (make_at C hP i H hH) ?_
    rintro v H1 ⟨rfl, keep, hk, hp1, hren⟩
    have hw : IntKind.i64.wrap ((i : Int) + 1) = i + 1 := by rw [IntWalk.i64_in _ (by omega)]
    have fin : ∀ t' : Fr, t' 0 = .int .i64 n → t' 3 = .ptr (.loc 0 0) → t' 4 = .int .i64 (IntKind.i64.wrap ((i : Int) + 1)) → Q1 .normal t' H1 := by
      intro t' h0 h3 h4
      rw [hQ1, l_normal]
      refine ⟨n - (i + 1), by omega, keep, hk, i + 1, ?_, ?_, ?_, hp1, by omega, rfl⟩
      · show renV keep (t' 0) = _; rw [h0]; rfl
      · show renV keep (t' 3) = _; rw [h3]; exact hren
      · show renV keep (t' 4) = _; rw [h4, hw]; simp [renV]
    by_cases c4 : i < 1024
    · have c5 : (i : Int) < 1024 := by omega
      have c7 : ¬ (1024 : Int) ≤ i := by omega
      simp (implicitDefEqProofs := false) [c4, c5, t0, t3, t4]
      refine FWops_callR rfl (by simp) (num_calls C hP 0 H1) ?_
      rintro v H2 ⟨rfl, rfl⟩
      simp (implicitDefEqProofs := false) [c4, c5, c7, t0, t3, t4]
      refine fin _ ?_ ?_ ?_ <;> simp [t0, t3]
    · have c5 : ¬ (i : Int) < 1024 := by omega
      have c6 : (1024 : Int) ≤ i := by omega
      simp (implicitDefEqProofs := false) [c4, c5, c6, t0, t3, t4]
      refine FWops_callR rfl (by simp) (num_calls C hP 3 H1) ?_
      rintro v H2 ⟨rfl, rfl⟩
      simp (implicitDefEqProofs := false) [c4, c5, c6, t0, t3, t4]
      refine fin _ ?_ ?_ ?_ <;> simp [t0, t3]
  · simp (implicitDefEqProofs := false) [t0, t3, t4, c3]
    rw [hQ1]
    simp (implicitDefEqProofs := false)
    refine FWops_callR rfl (by simp) ((live_calls C hP).forget (by simp [ltL]) (by rintro v H1 rfl; simp [AVal.lt])) ?_
    rintro v H1 ⟨⟨_, rfl⟩, rfl⟩
    simp (implicitDefEqProofs := false)
    rw [hQ]
    refine retQ_ret (Nat.zero_le _) ?_
    simp [e3]

end Go.Proofs.Ytgiiipimhdikkaa
