/-
  OWN WORK (an AI agent). Part L21c of a walk by simplification over abstract heaps.
-/
import Derived.Test.YtfbkogaijopcgaaFL21a
import Derived.Test.YtfbkogaijopcgaaFQ
set_option linter.all false
set_option linter.unusedSimpArgs false
set_option linter.unusedVariables false
set_option maxRecDepth 20000
namespace Go.Proofs.Ytfbkogaijopcgaa
open Go.F Go.RowKit

/-- an entry -/
structure Ent where
  k : Int
  a : Int
  b : Int
  f : Int
  g : Int
  i : Int
  deriving DecidableEq

def Ent.c (e : Ent) : List AVal := [.int .i64 e.k, .int .i64 e.a, .int .i64 e.b, .int .i64 e.f, .int .i64 e.g, .int .i64 e.i]
def entC (l : List Ent) : List AVal := l.flatMap Ent.c
def intC (l : List Int) : List AVal := l.map (.int .i64)

theorem entC_length (l : List Ent) : (entC l).length = l.length * 6 := by
  induction l with
  | nil => rfl
  | cons e l ih => simp only [entC, List.flatMap_cons, List.length_append] at ih ⊢; rw [ih]; simp [Ent.c]; omega

theorem entC_get : ∀ {l : List Ent} {i : Nat} {e : Ent}, l[i]? = some e → ∀ k, k < 6 → (entC l)[i * 6 + k]? = e.c[k]?
  | [], i, e, h, k, _ => by simp at h
  | x :: l, 0, e, h, k, hk => by
    simp only [List.getElem?_cons_zero, Option.some.injEq] at h
    subst h
    simp only [entC, List.flatMap_cons, Nat.zero_mul, Nat.zero_add]
    rw [List.getElem?_append_left (by simp [Ent.c]; omega)]
  | x :: l, i + 1, e, h, k, hk => by
    have := entC_get (l := l) (i := i) (e := e) (by simpa using h) k hk
    simp only [entC, List.flatMap_cons] at this ⊢
    have hx : x.c.length = 6 := rfl
    rw [List.getElem?_append_right (by rw [hx]; omega), hx, show (i + 1) * 6 + k - 6 = i * 6 + k by omega]
    exact this

/-- a slice of entries; of numbers -/
structure Es (C : Ctx) (H : AHeap) (x : AVal) (l : List Ent) : Prop where
  src : srcCells C H 6 x = some (l.length, entC l)
  ns : ∀ s, x ≠ .str s
  lt : x.lt H.length
structure Ds (C : Ctx) (H : AHeap) (x : AVal) (l : List Int) : Prop where
  src : srcCells C H 1 x = some (l.length, intC l)
  ns : ∀ s, x ≠ .str s
  lt : x.lt H.length

theorem entC_scalar (l : List Ent) : (entC l).all scalar = true := by
  simp only [entC, List.all_flatMap, List.all_eq_true]
  intro e _
  simp [Ent.c, scalar]

theorem intC_scalar (l : List Int) : (intC l).all scalar = true := by
  simp only [intC, List.all_map, List.all_eq_true]
  intro e _
  rfl

theorem Es.sl {C : Ctx} {H : AHeap} {x : AVal} {l : List Ent} (h : Es C H x l) : Sl C H 6 x l.length (entC l) := ⟨h.src, entC_length l, entC_scalar l⟩
theorem Ds.sl {C : Ctx} {H : AHeap} {x : AVal} {l : List Int} (h : Ds C H x l) : Sl C H 1 x l.length (intC l) := ⟨h.src, by simp [intC], intC_scalar l⟩
theorem Es.app {C : Ctx} {H L : AHeap} {x : AVal} {l : List Ent} (h : Es C H x l) : Es C (H ++ L) x l := ⟨srcCells_app h.src, h.ns, AVal.lt_mono (by simp) h.lt⟩
theorem Ds.app {C : Ctx} {H L : AHeap} {x : AVal} {l : List Int} (h : Ds C H x l) : Ds C (H ++ L) x l := ⟨srcCells_app h.src, h.ns, AVal.lt_mono (by simp) h.lt⟩
theorem Es.lenV {C : Ctx} {H : AHeap} {x : AVal} {l : List Ent} (h : Es C H x l) : lenV false x = some (.int .i64 l.length) := h.sl.lenV h.ns
theorem Ds.lenV {C : Ctx} {H : AHeap} {x : AVal} {l : List Int} (h : Ds C H x l) : lenV false x = some (.int .i64 l.length) := h.sl.lenV h.ns

theorem Es.idx {C : Ctx} {H : AHeap} {x : AVal} {l : List Ent} (h : Es C H x l) {i : Nat} {e : Ent} (he : l[i]? = some e) :
    ∃ p, iaddrO 6 x (.int .i64 i) = some (.ptr p) ∧ (∀ k, H.length + k ∉ idOf p) ∧ ∀ L : AHeap, ldc C (H ++ L) p 0 = some (.int .i64 e.k) ∧ ldc C (H ++ L) p 1 = some (.int .i64 e.a) ∧ ldc C (H ++ L) p 2 = some (.int .i64 e.b) ∧
      ldc C (H ++ L) p 3 = some (.int .i64 e.f) ∧ ldc C (H ++ L) p 4 = some (.int .i64 e.g) ∧ ldc C (H ++ L) p 5 = some (.int .i64 e.i) := by
  obtain ⟨p, h1, h2, h3⟩ := h.sl.idx h.ns (List.getElem?_eq_some_iff.1 he).1
  refine ⟨p, h1, fun k => by rw [h2]; exact idA_new h.lt k, fun L => ?_⟩
  have h4 := fun k hk => (h3 L k hk).trans (entC_get he k hk)
  exact ⟨h4 0 (by omega), h4 1 (by omega), h4 2 (by omega), h4 3 (by omega), h4 4 (by omega), h4 5 (by omega)⟩

theorem Ds.idx {C : Ctx} {H : AHeap} {x : AVal} {l : List Int} (h : Ds C H x l) {i : Nat} {e : Int} (he : l[i]? = some e) :
    ∃ p, iaddrO 1 x (.int .i64 i) = some (.ptr p) ∧ (∀ k, H.length + k ∉ idOf p) ∧ ∀ L : AHeap, ldc C (H ++ L) p 0 = some (.int .i64 e) := by
  obtain ⟨p, h1, h2, h3⟩ := h.sl.idx h.ns (List.getElem?_eq_some_iff.1 he).1
  refine ⟨p, h1, fun k => by rw [h2]; exact idA_new h.lt k, fun L => (h3 L 0 (by omega)).trans ?_⟩
  simp [intC, he]

theorem much_calls (C : Ctx) (hP : C.P = Try.prog) (xe xd : AVal) (E : List Ent) (D : List Int) (H : AHeap) (hE : Es C H xe E) (hD : Ds C H xd D) :
    FCalls C 10 [.agg [xe, xd]] H (fun v H' => v = .bool (decide (300 < E.length) || decide (300 < D.length)) ∧ H' = H) := by
  refine FCalls.entry (hP ▸ v10) (by simp [e10]) fun hw _ => FWx_sound ?_
  by_cases h : 300 < E.length
  · have h' : (300 : Int) < E.length := by omega
    simp (implicitDefEqProofs := false) [e10, c10, boxA, cellsOf, hE.lenV, hD.lenV, h']
    refine retQ_drop rfl hw ?_
    simp [AVal.lt, h]
  · have h' : ¬ (300 : Int) < E.length := by omega
    simp (implicitDefEqProofs := false) [e10, c10, boxA, cellsOf, hE.lenV, hD.lenV, h']
    refine retQ_drop rfl hw ?_
    simp [AVal.lt, h]
    omega

theorem wrap_nat {n : Nat} (h : n ≤ 1000000000000) : IntKind.i64.wrap ((n : Int) + 1) = ((n + 1 : Nat) : Int) := by
  rw [IntWalk.i64_in _ (by omega)]; omega

def picks (l : List Ent) : Nat := l.countP (fun e => e.k == 1)

theorem picks_calls (C : Ctx) (hP : C.P = Try.prog) (xe xd : AVal) (E : List Ent) (H : AHeap) (hE : Es C H xe E) (hl : E.length ≤ 1000000) :
    FCalls C 9 [.agg [xe, xd]] H (fun v H' => v = .int .i64 (picks E) ∧ H' = H) := by
  refine FCalls.entry (hP ▸ v9) (by simp [e9]) fun hw _ => FWx_sound (FWx.hide fun Q hQ => ?_)
  simp (implicitDefEqProofs := false) [e9, c9, boxA, cellsOf, hE.lenV]
  refine FW.loopW (fun t H' m => ∃ i : Nat, t 3 = .int .i64 (picks (E.take i)) ∧ t 7 = xe ∧ t 8 = .int .i64 E.length ∧ t 9 = .int .i64 i ∧ i ≤ E.length ∧ H' = H ++ [some ⟨[xe, xd], 27⟩] ∧ m = E.length - i) E.length ⟨0, ?_⟩ ?_
  · simp [picks]
  rintro t H1 m ⟨i, t3, t7, t8, t9, hi, rfl, rfl⟩ hk ht hn
  refine FWx.hide fun Q1 hQ1 => ?_
  have ht' : ∀ i, (t i).lt (H.length + 1) := by simpa using ht
  by_cases h : i < E.length
  · have h' : (i : Int) < E.length := by omega
    obtain ⟨p, p1, _, p2⟩ := hE.idx (i := i) (e := E[i]) (by simp [h])
    have q0 := fun L => (p2 L).1
    have q1 := fun L => (p2 L).2.1
    have q2 := fun L => (p2 L).2.2.1
    have q3 := fun L => (p2 L).2.2.2.1
    have q4 := fun L => (p2 L).2.2.2.2.1
    have q5 := fun L => (p2 L).2.2.2.2.2
    simp (implicitDefEqProofs := false) [t3, t7, t8, t9, h', p1, q0, q1, q2, q3, q4, q5, storeA, cellsOf, setL, scalar]
    have step : picks (E.take (i + 1)) = picks (E.take i) + if E[i].k = 1 then 1 else 0 := by
      simp only [picks, List.take_add_one, List.getElem?_eq_getElem h, Option.toList_some, List.countP_append, List.countP_singleton, beq_iff_eq]
    have hp : picks (E.take i) ≤ i := Nat.le_trans List.countP_le_length (by simp; omega)
    by_cases hk1 : E[i].k = 1
    · simp (implicitDefEqProofs := false) [hk1]
      rw [hQ1]
      refine loopW_end [3, 7, 8, 9] (E.length - (i + 1)) (by omega) hn (app1 _ _ _) hk ?_ ⟨i + 1, ?_⟩
      · simp [AVal.lt, ht']
      · simp [cutT, t7, t8, step, hk1, wrap_nat (n := i) (by omega), wrap_nat (n := picks (E.take i)) (by omega)]
        omega
    · simp (implicitDefEqProofs := false) [hk1]
      rw [hQ1]
      refine loopW_end [3, 7, 8, 9] (E.length - (i + 1)) (by omega) hn (app1 _ _ _) hk ?_ ⟨i + 1, ?_⟩
      · simp [AVal.lt, ht']
      · simp [cutT, t3, t7, t8, step, hk1, wrap_nat (n := i) (by omega)]
        omega
  · have h' : ¬ (i : Int) < E.length := by omega
    have e : i = E.length := by omega
    subst e
    simp (implicitDefEqProofs := false) [t3, t7, t8, t9, h', hQ1, hQ]
    refine retQ_drop rfl hw ?_
    simp [AVal.lt, e9]


theorem Ent.ne_dec (e f : Ent) : (!decide (e.k = f.k) || (!decide (e.a = f.a) || (!decide (e.b = f.b) || (!decide (e.f = f.f) || (!decide (e.g = f.g) || !decide (e.i = f.i)))))) = !decide (e = f) := by
  cases e; cases f
  simp only [Ent.mk.injEq, Bool.decide_and, Bool.not_and]

theorem take_eq_succ {α : Type} {l l' : List α} {i : Nat} (h : i < l.length) (h' : i < l'.length) (ht : l.take i = l'.take i) (e : l[i] = l'[i]) : l.take (i + 1) = l'.take (i + 1) := by
  rw [List.take_add_one, List.take_add_one, ht, List.getElem?_eq_getElem h, List.getElem?_eq_getElem h', e]

theorem same_calls (C : Ctx) (hP : C.P = Try.prog) (xe xd ye yd : AVal) (E E' : List Ent) (D D' : List Int) (H : AHeap) (hE : Es C H xe E) (hD : Ds C H xd D) (hE' : Es C H ye E') (hD' : Ds C H yd D') (hl : E.length ≤ 1000000) (hl2 : D.length ≤ 1000000) :
    FCalls C 8 [.agg [xe, xd], .agg [ye, yd], .bool false] H (fun v H' => v = .bool (decide (E = E' ∧ D = D')) ∧ H' = H) := by
  refine FCalls.entry (hP ▸ v8) (by simp [e8]) fun hw _ => FWx_sound (FWx.hide fun Q hQ => ?_)
  by_cases c1 : E.length = E'.length
  rotate_left
  · have c1' : ¬ (E.length : Int) = E'.length := by omega
    simp (implicitDefEqProofs := false) [e8, c8, boxA, cellsOf, hE.lenV, hE'.lenV, hD.lenV, hD'.lenV, c1']
    rw [hQ]
    refine retQ_drop rfl hw ?_
    have : E ≠ E' := fun e => c1 (by rw [e])
    simp [AVal.lt, e8, this]
  by_cases c2 : D.length = D'.length
  rotate_left
  · have c1' : (E.length : Int) = E'.length := by omega
    have c2' : ¬ (D.length : Int) = D'.length := by omega
    simp (implicitDefEqProofs := false) [e8, c8, boxA, cellsOf, hE.lenV, hE'.lenV, hD.lenV, hD'.lenV, c1', c2']
    rw [hQ]
    refine retQ_drop rfl hw ?_
    have : D ≠ D' := fun e => c2 (by rw [e])
    simp [AVal.lt, e8, this]
  have c1' : (E.length : Int) = E'.length := by omega
  have c2' : (D.length : Int) = D'.length := by omega
  simp (implicitDefEqProofs := false) [e8, c8, boxA, cellsOf, hE.lenV, hE'.lenV, hD.lenV, hD'.lenV, c1', c2']
  refine FW.loopW (fun t H' m => ∃ i : Nat, t 2 = .bool false ∧ t 3 = .ptr (.loc H.length 0) ∧ t 4 = .ptr (.loc (H.length + 1) 0) ∧ t 7 = .int .i64 i ∧ i ≤ E.length ∧ E.take i = E'.take i ∧ H' = H ++ [some ⟨[xe, xd], 27⟩, some ⟨[ye, yd], 27⟩] ∧ m = E.length - i) E.length ⟨0, ?_⟩ ?_
  · simp
  rintro t H1 m ⟨i, t2, t3, t4, t7, hi, htk, rfl, rfl⟩ hk ht hn
  refine FWx.hide fun Q1 hQ1 => ?_
  have ht' : ∀ i, (t i).lt (H.length + 2) := by simpa using ht
  by_cases h : i < E.length
  · have h' : (i : Int) < E.length := by omega
    have h2 : i < E'.length := by omega
    have h2' : (i : Int) < E'.length := by omega
    obtain ⟨p, p1, pn, p2⟩ := hE.idx (i := i) (e := E[i]) (by simp [h])
    obtain ⟨q, q1, qn, q2⟩ := hE'.idx (i := i) (e := E'[i]) (by simp [h2])
    have a0 := fun L => (p2 L).1
    have a1 := fun L => (p2 L).2.1
    have a2 := fun L => (p2 L).2.2.1
    have a3 := fun L => (p2 L).2.2.2.1
    have a4 := fun L => (p2 L).2.2.2.2.1
    have a5 := fun L => (p2 L).2.2.2.2.2
    have b0 := fun L => (q2 L).1
    have b1 := fun L => (q2 L).2.1
    have b2 := fun L => (q2 L).2.2.1
    have b3 := fun L => (q2 L).2.2.2.1
    have b4 := fun L => (q2 L).2.2.2.2.1
    have b5 := fun L => (q2 L).2.2.2.2.2
    simp (implicitDefEqProofs := false) [t2, t3, t4, t7, h', h2', hE.lenV, hE'.lenV, p1, q1, pn, qn, a0, a1, a2, a3, a4, a5, b0, b1, b2, b3, b4, b5, storeA, cellsOf, setL, scalar, setAt]
    rw [Ent.ne_dec]
    by_cases he : E[i] = E'[i]
    · simp (implicitDefEqProofs := false) [he, t7]
      rw [hQ1]
      refine loopW_end [2, 3, 4, 7] (E.length - (i + 1)) (by omega) hn (app2 _ _ _ _) hk ?_ ⟨i + 1, ?_⟩
      · simp [AVal.lt, ht', t7]
      · simp [cutT, t2, t3, t4, t7, wrap_nat (n := i) (by omega)]
        exact ⟨by omega, take_eq_succ h h2 htk he⟩
    · simp (implicitDefEqProofs := false) [he, hQ1, hQ]
      refine retQ_drop rfl hw ?_
      have : E ≠ E' := fun e => he (by simp [e])
      simp [AVal.lt, e8, this]
  · have h' : ¬ (i : Int) < E.length := by omega
    have e : i = E.length := by omega
    subst e
    have hEE : E = E' := by rw [List.take_length] at htk; rw [htk, c1, List.take_length]
    subst hEE
    simp (implicitDefEqProofs := false) [t2, t3, t4, t7, h', hE.lenV, hQ1, hQ]
    clear hQ1
    refine FW.loopW (fun t H' m => ∃ i : Nat, t 3 = .ptr (.loc H.length 0) ∧ t 4 = .ptr (.loc (H.length + 1) 0) ∧ t 10 = .int .i64 i ∧ i ≤ D.length ∧ D.take i = D'.take i ∧ H' = H ++ [some ⟨[xe, xd], 27⟩, some ⟨[ye, yd], 27⟩] ∧ m = D.length - i) D.length ⟨0, ?_⟩ ?_
    · simp [t3, t4]
    rintro t H1 m ⟨i, t3, t4, t10, hi, htk, rfl, rfl⟩ hk ht hn
    refine FWx.hide fun Q2 hQ2 => ?_
    have ht' : ∀ i, (t i).lt (H.length + 2) := by simpa using ht
    by_cases h : i < D.length
    · have h' : (i : Int) < D.length := by omega
      have h2 : i < D'.length := by omega
      obtain ⟨p, p1, _, p2⟩ := hD.idx (i := i) (e := D[i]) (by simp [h])
      obtain ⟨q, q1, _, q2⟩ := hD'.idx (i := i) (e := D'[i]) (by simp [h2])
      simp (implicitDefEqProofs := false) [t3, t4, t10, h', hD.lenV, hD'.lenV, p1, q1, p2, q2]
      by_cases he : D[i] = D'[i]
      · simp (implicitDefEqProofs := false) [he, t10]
        rw [hQ2]
        refine loopW_end [3, 4, 10] (D.length - (i + 1)) (by omega) hn (by rw [List.append_nil]) hk ?_ ⟨i + 1, ?_⟩
        · simp [AVal.lt, ht', t10]
        · simp [cutT, t3, t4, t10, wrap_nat (n := i) (by omega)]
          exact ⟨by omega, take_eq_succ h h2 htk he⟩
      · simp (implicitDefEqProofs := false) [he, hQ2, hQ]
        refine retQ_drop rfl hw ?_
        have : D ≠ D' := fun e => he (by simp [e])
        simp [AVal.lt, e8, this]
    · have h' : ¬ (i : Int) < D.length := by omega
      have e : i = D.length := by omega
      subst e
      have hDD : D = D' := by rw [List.take_length] at htk; rw [htk, c2, List.take_length]
      subst hDD
      simp (implicitDefEqProofs := false) [t3, t4, t10, h', hD.lenV, hQ2, hQ]
      refine retQ_drop rfl hw ?_
      simp [AVal.lt, e8]

end Go.Proofs.Ytfbkogaijopcgaa
