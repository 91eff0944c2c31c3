/-
  OWN WORK (an AI agent). Part L11c of a walk by simplification over abstract heaps.
-/
import Derived.Test.YtlghjfmehfochaaDoorFL11b
import Derived.Test.YtlghjfmehfochaaDoorFR
set_option linter.all false
set_option linter.unusedSimpArgs false
set_option linter.unusedVariables false
set_option maxRecDepth 20000
namespace Go.Proofs.YtlghjfmehfochaaDoor
open Go.F Go.RowKit

theorem wrap_nat {n : Nat} (h : n ≤ 1000000000000) : IntKind.i64.wrap ((n : Int) + 1) = ((n + 1 : Nat) : Int) := by
  rw [IntWalk.i64_in _ (by omega)]; omega

/-! a function's code: (operation, a) -/
def codC (l : List (Int × Int)) : List AVal := l.flatMap fun e => [.int .i64 e.1, .int .i64 e.2, .int .i64 0]
theorem codC_length (l : List (Int × Int)) : (codC l).length = l.length * 3 := by
  induction l with
  | nil => rfl
  | cons e l ih => simp only [codC, List.flatMap_cons, List.length_append, List.length_cons, List.length_nil] at ih ⊢; omega
theorem codC_scalar (l : List (Int × Int)) : (codC l).all scalar = true := by
  simp only [codC, List.all_flatMap, List.all_eq_true]
  intro e _
  simp [scalar]
theorem codC_flat (l : List (Int × Int)) : (codC l).all flatV = true := by
  simp only [codC, List.all_flatMap, List.all_eq_true]
  intro e _
  simp [flatV]
theorem codC_get : ∀ {l : List (Int × Int)} {i : Nat} {e : Int × Int}, l[i]? = some e → ∀ k, k < 3 → (codC l)[i * 3 + k]? = [AVal.int .i64 e.1, .int .i64 e.2, .int .i64 0][k]?
  | [], i, e, h, _, _ => by simp at h
  | x :: l, 0, e, h, k, hk => by
    simp only [List.getElem?_cons_zero, Option.some.injEq] at h
    subst h
    simp only [codC, List.flatMap_cons, Nat.zero_mul, Nat.zero_add]
    rw [List.getElem?_append_left (by simpa using hk)]
  | x :: l, i + 1, e, h, k, hk => by
    have := codC_get (l := l) (i := i) (e := e) (by simpa using h) k hk
    simp only [codC, List.flatMap_cons] at this ⊢
    rw [List.getElem?_append_right (by simp; omega)]
    simp only [List.length_cons, List.length_nil]
    rw [show (i + 1) * 3 + k - 3 = i * 3 + k by omega]
    exact this
theorem ren_codC (keep : List Nat) (l : List (Int × Int)) : renL keep (codC l) = codC l := flat_ren (codC_flat l)

structure Cs (C : Ctx) (H : AHeap) (x : AVal) (l : List (Int × Int)) : Prop where
  src : srcCells C H 3 x = some (l.length, codC l)
  ns : ∀ s, x ≠ .str s
  lt : x.lt H.length

theorem Cs.sl {C : Ctx} {H : AHeap} {x : AVal} {l : List (Int × Int)} (h : Cs C H x l) : Sl C H 3 x l.length (codC l) := ⟨h.src, codC_length l, codC_scalar l⟩
theorem Cs.app {C : Ctx} {H L : AHeap} {x : AVal} {l : List (Int × Int)} (h : Cs C H x l) : Cs C (H ++ L) x l := ⟨srcCells_app h.src, h.ns, AVal.lt_mono (by simp) h.lt⟩
theorem Cs.lenV {C : Ctx} {H : AHeap} {x : AVal} {l : List (Int × Int)} (h : Cs C H x l) : lenV false x = some (.int .i64 l.length) := h.sl.lenV h.ns
theorem Cs.idx {C : Ctx} {H : AHeap} {x : AVal} {l : List (Int × Int)} (h : Cs C H x l) {i : Nat} {e : Int × Int} (he : l[i]? = some e) :
    ∃ p, iaddrO 3 x (.int .i64 i) = some (.ptr p) ∧ (∀ k, H.length + k ∉ idOf p) ∧ ∀ L : AHeap, ldc C (H ++ L) p 0 = some (.int .i64 e.1) ∧ ldc C (H ++ L) p 1 = some (.int .i64 e.2) ∧ ldc C (H ++ L) p 2 = some (.int .i64 0) := by
  obtain ⟨p, h1, h2, h3⟩ := h.sl.idx h.ns (List.getElem?_eq_some_iff.1 he).1
  refine ⟨p, h1, fun k => by rw [h2]; exact idA_new h.lt k, fun L => ?_⟩
  have h4 := fun k hk => (h3 L k hk).trans (codC_get he k hk)
  exact ⟨h4 0 (by omega), h4 1 (by omega), h4 2 (by omega)⟩
theorem Cs.arr {C : Ctx} {H : AHeap} {id : Nat} {l : List (Int × Int)} {ty : Nat} (h : hget H id = some ⟨codC l, ty⟩) : Cs C H (.arr id l.length) l := by
  refine ⟨?_, by simp, by simp only [AVal.lt]; exact hget_lt h⟩
  simp only [srcCells]
  rw [ldn_of (l := codC l) (by rw [codC_length]) (fun k hk => by simp [ldc, h])]
  rfl

/-! the operations that a straight code has -/
def okI (e : Int × Int) : Prop := (e.1 = 0 ∧ -2305843009213693952 ≤ e.2 ∧ e.2 ≤ 2305843009213693951) ∨ (e.1 = 4 ∧ e.2 = 0) ∨ (e.1 = 27 ∧ e.2 = 0)

theorem instr_calls (C : Ctx) (hP : C.P = Tryd.prog) (hT : Tab C) (x1 x2 x3 x4 y0 y1 y2 y3 y4 y5 : AVal) (H : AHeap) (l : List (Int × Int)) (hy : Cs C H y4 l) (k : Nat) (hk : k < l.length) (ho : okI l[k]) :
    FCalls C 13 [.agg [x1, x2, x3, x4], .agg [y0, y1, y2, y3, y4, y5], .int .i64 k] H (fun v H' => v = .int .i64 0 ∧ H' = H) := by
  refine FCalls.entry (hP ▸ v13) (by simp [e13]) fun hw _ => FWx_sound (FWx.hide fun Q hQ => ?_)
  obtain ⟨p, p1, _, p2⟩ := hy.idx (i := k) (e := l[k]) (by simp [hk])
  have q0 := fun L => (p2 L).1
  have q1 := fun L => (p2 L).2.1
  have q2 := fun L => (p2 L).2.2
  rcases ho with ⟨e0, ha, hb⟩ | ⟨e0, e1⟩ | ⟨e0, e1⟩
  · rw [e0] at q0
    simp (implicitDefEqProofs := false) [e13, c13, boxA, cellsOf, p1, q0, q1, q2, storeA, setL, scalar]
    refine FWops_callR rfl (by simp) (between_calls C hP l[k].2 (-2305843009213693952) 2305843009213693951 _) ?_
    rintro v H' ⟨rfl, rfl⟩
    simp (implicitDefEqProofs := false) [ha, hb]
    rw [hQ]
    refine retQ_drop rfl hw ?_
    simp [AVal.lt, ltL, e13]
  · rw [e0] at q0
    rw [e1] at q1
    simp (implicitDefEqProofs := false) [e13, c13, boxA, cellsOf, p1, q0, q1, q2, storeA, setL, scalar]
    refine FWops_callR rfl (by simp) (name_straight C hP hT 4 _ (.inl rfl)) ?_
    rintro v H' ⟨⟨s, rfl, hs⟩, rfl⟩
    simp (implicitDefEqProofs := false) [emptyB, hs]
    refine FWops_callR rfl (by simp) (between_calls C hP 0 0 0 _) ?_
    rintro v H' ⟨rfl, rfl⟩
    simp (implicitDefEqProofs := false)
    rw [hQ]
    refine retQ_drop rfl hw ?_
    simp [AVal.lt, ltL, e13]
  · rw [e0] at q0
    rw [e1] at q1
    simp (implicitDefEqProofs := false) [e13, c13, boxA, cellsOf, p1, q0, q1, q2, storeA, setL, scalar]
    refine FWops_callR rfl (by simp) (name_straight C hP hT 27 _ (.inr rfl)) ?_
    rintro v H' ⟨⟨s, rfl, hs⟩, rfl⟩
    simp (implicitDefEqProofs := false) [emptyB, hs]
    refine FWops_callR rfl (by simp) (between_calls C hP 0 0 0 _) ?_
    rintro v H' ⟨rfl, rfl⟩
    simp (implicitDefEqProofs := false)
    rw [hQ]
    refine retQ_drop rfl hw ?_
    simp [AVal.lt, ltL, e13]

theorem num_calls (C : Ctx) (hP : C.P = Tryd.prog) (H : AHeap) (n : Int) : FCalls C 8 [.int .i64 n] H (fun v H' => v = .int .i64 n ∧ H' = H) := by
  refine FCalls.entry (hP ▸ v8) (by simp [e8]) fun hw _ => FWx_sound (FWx.hide fun Q hQ => ?_)
  simp (implicitDefEqProofs := false) [e8, c8]
  rw [hQ]
  refine retQ_ret (by simp) ?_
  simp [e8]

theorem index25_empty (C : Ctx) (hP : C.P = Tryd.prog) (x f : AVal) (H : AHeap) (hx : lenV false x = some (.int .i64 0)) : FCalls C 25 [x, f] H (fun v H' => v = .int .i64 (-1) ∧ H' = H) := by
  refine FCalls.entry (hP ▸ v25) (by simp [e25]) fun hw _ => FWx_sound (FWx.hide fun Q hQ => ?_)
  simp (implicitDefEqProofs := false) [e25, c25, hx]
  refine FW.loop_exit ?_
  simp (implicitDefEqProofs := false)
  rw [hQ]
  refine retQ_ret (Nat.le_refl _) ?_
  simp [e25]

theorem contains14_empty (C : Ctx) (hP : C.P = Tryd.prog) (x f : AVal) (H : AHeap) (hx : lenV false x = some (.int .i64 0)) : FCalls C 14 [x, f] H (fun v H' => v = .bool false ∧ H' = H) := by
  refine FCalls.entry (hP ▸ v14) (by simp [e14]) fun hw _ => FWx_sound (FWx.hide fun Q hQ => ?_)
  simp (implicitDefEqProofs := false) [e14, c14]
  refine FWops_callR rfl (by simp) (index25_empty C hP x f H hx) ?_
  rintro v H' ⟨rfl, rfl⟩
  simp (implicitDefEqProofs := false)
  rw [hQ]
  refine retQ_ret (Nat.le_refl _) ?_
  simp [e14]

def intC (l : List Int) : List AVal := l.map (.int .i64)
theorem intC_length (l : List Int) : (intC l).length = l.length := by simp [intC]
theorem intC_scalar (l : List Int) : (intC l).all scalar = true := by
  simp only [intC, List.all_map, List.all_eq_true]; intro e _; rfl
theorem ren_intC (keep : List Nat) (l : List Int) : renL keep (intC l) = intC l := flat_ren (by simp only [intC, List.all_map, List.all_eq_true]; intro e _; rfl)
theorem intC_set (l : List Int) (i : Nat) (d : Int) : (intC l).set i (.int .i64 d) = intC (l.set i d) := by simp [intC, List.map_set]
theorem intC_app (l m : List Int) : intC (l ++ m) = intC l ++ intC m := by simp [intC]

/-- where a walk may go on: a place is seen for the first time -/
theorem reach_calls (C : Ctx) (hP : C.P = Tryd.prog) (H : AHeap) (g1 g2 : List AVal) (x : Option ABlk) (seen work : List Int) (to : Nat) (h : Int) (hto : to < seen.length) (hs : seen[to] < 0) (hw0 : 0 < work.length) (hwl : work.length ≤ 1000000) :
    FCalls C 26 [.int .i64 to, .int .i64 h, .ptr (.loc (H.length + 6) 0), .ptr (.loc (H.length + 3) 0), .ptr (.loc (H.length + 5) 0)]
      (H ++ [some ⟨g1, 26⟩, some ⟨g2, 38⟩, some ⟨intC seen, 3⟩, some ⟨[.arr (H.length + 2) seen.length], 33⟩, some ⟨intC work, 3⟩, some ⟨[.arr (H.length + 4) work.length], 33⟩, some ⟨[.int .i64 (-1)], 3⟩, x])
      (fun v H' => ∃ y, H' = H ++ [some ⟨g1, 26⟩, some ⟨g2, 38⟩, some ⟨intC (seen.set to h), 3⟩, some ⟨[.arr (H.length + 2) seen.length], 33⟩, none, some ⟨[.arr (H.length + 9) (work.length + 1)], 33⟩, some ⟨[.int .i64 (-1)], 3⟩, x, y, some ⟨intC (work ++ [(to : Int)]), 3⟩]) := by
  refine FCalls.entry (hP ▸ v26) (by simp [e26]) fun hw _ => FWx_sound (FWx.hide fun Q hQ => ?_)
  have g0 : (intC seen)[to]? = some (.int .i64 seen[to]) := by simp [intC, hto]
  have g1 : to + 1 ≤ seen.length := hto
  have g2 := intC_set seen to h
  have tk : List.take work.length (intC work) = intC work := List.take_of_length_le (by rw [intC_length]; exact Nat.le_refl _)
  have hb : (work.length + 1) * 8 ≤ 140737488355328 := by omega
  have hn : ¬ work.length + 1 ≤ work.length := by omega
  have hto' : (to : Int) < seen.length := by omega
  simp (implicitDefEqProofs := false) [e26, c26, g0, hs, hto', storeA, setL, g1, g2, intC_length, evalP, fillA, appendE, srcCells, tk, hb, hn]
  rw [hQ]
  refine retQ_end (by simp) ?_
  simp [e26, intC_app, intC]

end Go.Proofs.YtlghjfmehfochaaDoor
