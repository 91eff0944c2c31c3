/-
  OWN WORK (an AI agent). Part L21d of a walk by simplification over abstract heaps.
-/
import Derived.Test.YtfbkogaijopcgaaFL21c
import Derived.Test.YtfbkogaijopcgaaFR
set_option linter.all false
set_option linter.unusedSimpArgs false
set_option linter.unusedVariables false
set_option maxRecDepth 20000
namespace Go.Proofs.Ytfbkogaijopcgaa
open Go.F Go.RowKit

theorem entC_flat (l : List Ent) : (entC l).all flatV = true := by
  simp only [entC, List.all_flatMap, List.all_eq_true]
  intro e _
  simp [Ent.c, flatV]
theorem intC_flat (l : List Int) : (intC l).all flatV = true := by
  simp only [intC, List.all_map, List.all_eq_true]
  intro e _
  rfl
theorem intC_length (l : List Int) : (intC l).length = l.length := by simp [intC]

theorem ren_entC (keep : List Nat) (l : List Ent) : renL keep (entC l) = entC l := flat_ren (entC_flat l)
theorem ren_intC (keep : List Nat) (l : List Int) : renL keep (intC l) = intC l := flat_ren (intC_flat l)
attribute [simp] ren_entC ren_intC entC_length intC_length

theorem Ds.kind {C : Ctx} {H : AHeap} {x : AVal} {l : List Int} (h : Ds C H x l) : (x = .nils ∧ l = []) ∨ (∃ id, x = .arr id l.length) ∨ (∃ a, x = .slc a l.length) := by
  rcases h.sl.kind with ⟨rfl, h1, _⟩ | ⟨id, rfl, _⟩ | ⟨a, rfl, _⟩ | ⟨s, rfl⟩
  · exact .inl ⟨rfl, List.length_eq_zero_iff.1 h1⟩
  · exact .inr (.inl ⟨id, rfl⟩)
  · exact .inr (.inr ⟨a, rfl⟩)
  · exact absurd rfl (h.ns s)

theorem clone_calls (C : Ctx) (hP : C.P = Try.prog) (xd : AVal) (D : List Int) (H : AHeap) (hD : Ds C H xd D) (hl : D.length ≤ 1000000) :
    FCalls C 15 [xd] H (fun v H' => (v = .nils ∧ D = [] ∧ H' = H) ∨ (v = .arr H.length D.length ∧ H' = H ++ [some ⟨intC D, 3⟩])) := by
  refine FCalls.bodyR (hP ▸ v15) (by simp [e15]) fun hw ha => FWx_sound (FWx.hide fun Q hQ => ?_)
  have hsrc : ∀ L, srcCells C (H ++ L) 1 xd = some (D.length, intC D) := fun L => srcCells_app hD.src
  by_cases hnil : xd = .nils
  · subst hnil
    rcases hD.kind with ⟨_, rfl⟩ | ⟨_, h⟩ | ⟨_, h⟩
    · simp (implicitDefEqProofs := false) [e15, c15]
      rw [hQ]
      refine retR_at (L := []) [] (by simp) rfl (by simp) (by simp) hw ?_
      simp [e15]
    · cases h
    · cases h
  · have hne : binA .eql .slice xd .nils = some (.bool false) := by
      rcases hD.kind with ⟨h, _⟩ | ⟨id, h⟩ | ⟨a, h⟩
      · exact absurd h hnil
      · rw [h]; rfl
      · rw [h]; rfl
    cases D with
    | nil =>
      simp (implicitDefEqProofs := false) [e15, c15, hne, evalP, fillA, appendE, hsrc, intC_scalar]
      rw [hQ]
      refine retR_at (L := [some ⟨[], 3⟩]) [0] rfl rfl (by simp) (by simp) hw ?_
      simp [e15, intC]
    | cons d D =>
      have hc : (d :: D).length * 8 ≤ 140737488355328 := by simp at hl ⊢; omega
      have hsc := intC_scalar (d :: D)
      simp only [List.length_cons] at hsrc hc hl
      simp (implicitDefEqProofs := false) [e15, c15, hne, evalP, fillA, appendE, hsrc, hsc, hc]
      rw [hQ]
      refine retR_at (L := [none, some ⟨intC (d :: D), 3⟩]) [1] (by simp) rfl (by simp) (by simp) hw ?_
      simp [e15]

def noTier (l : List Ent) : List Ent := l.filter (fun e => !(e.k == 3))


theorem noTier_step {E : List Ent} {i : Nat} (h : i < E.length) : noTier (E.take (i + 1)) = noTier (E.take i) ++ if E[i].k = 3 then [] else [E[i]] := by
  simp only [noTier, List.take_add_one, List.getElem?_eq_getElem h, Option.toList_some, List.filter_append]
  by_cases hk : E[i].k = 3 <;> simp [hk]

theorem entC_append (l l' : List Ent) : entC (l ++ l') = entC l ++ entC l' := by simp [entC]
theorem entC_one (e : Ent) : entC [e] = e.c := by simp [entC]

/-- a slice made anew, or none -/
def NewE (x : AVal) (o : Option ABlk) (id : Nat) (l : List Ent) : Prop := (x = .nils ∧ l = []) ∨ (x = .arr id l.length ∧ o = some ⟨entC l, 40⟩)
def NewD (x : AVal) (o : Option ABlk) (id : Nat) (l : List Int) : Prop := (x = .nils ∧ l = []) ∨ (x = .arr id l.length ∧ o = some ⟨intC l, 3⟩)

/-- the heap in the loop of Erase -/
def eraseH (H : AHeap) (xe xd : AVal) (r : ABlk) (d : AVal) (F : List Ent) (H' : AHeap) : Prop :=
  (F = [] ∧ H' = H ++ [some ⟨[xe, xd], 27⟩, some r, some ⟨[.nils, d], 27⟩]) ∨
  (H' = H ++ [some ⟨[xe, xd], 27⟩, some r, some ⟨[.arr (H.length + 3) F.length, d], 27⟩, some ⟨entC F, 40⟩])

def eraseI (xe xd : AVal) (E : List Ent) (H : AHeap) (t : Fr) (H' : AHeap) (m : Nat) : Prop := ∃ i : Nat, t 1 = .ptr (.loc H.length 0) ∧ t 2 = .ptr (.loc (H.length + 1) 0) ∧ t 3 = .ptr (.loc (H.length + 2) 0) ∧ t 7 = xe ∧ t 8 = .int .i64 E.length ∧ t 9 = .int .i64 i ∧ i ≤ E.length ∧
    eraseH H xe xd ⟨[.nils, .nils], 27⟩ .nils (noTier (E.take i)) H' ∧ m = E.length - i

theorem erase_calls (C : Ctx) (hP : C.P = Try.prog) (xe xd : AVal) (E : List Ent) (D : List Int) (H : AHeap) (hE : Es C H xe E) (hD : Ds C H xd D) (hl : E.length ≤ 1000000) (hl2 : D.length ≤ 1000000) :
    FCalls C 11 [.agg [xe, xd]] H (fun v H' => ∃ re rd oe od, v = .agg [re, rd] ∧ H' = H ++ [oe, od] ∧ NewE re oe H.length (noTier E) ∧ NewD rd od (H.length + 1) D) := by
  refine FCalls.bodyR (hP ▸ v11) (by simp [e11]) fun hw ha => FWx_sound (FWx.hide fun Q hQ => ?_)
  simp (implicitDefEqProofs := false) [e11, c11, boxA, cellsOf, hE.lenV]
  refine FW.loopN (eraseI xe xd E H) E.length ⟨0, ?_⟩ ?_
  · simp [eraseH, noTier]
  rintro t H1 m ⟨i, t1, t2, t3, t7, t8, t9, hi, hH, rfl⟩ hk ht hn
  refine FWx.hide fun Q1 hQ1 => ?_
  have hxe : ∀ ks, renV (keepAt H.length ks) xe = xe := fun ks => renV_keepAt hE.lt
  have hxd : ∀ ks, renV (keepAt H.length ks) xd = xd := fun ks => renV_keepAt hD.lt
  by_cases h : i < E.length
  · have h' : (i : Int) < E.length := by omega
    obtain ⟨p, p1, _, p2⟩ := hE.idx (i := i) (e := E[i]) (by simp [h])
    have q0 := fun L => (p2 L).1
    have q1 := fun L => (p2 L).2.1
    have q2 := fun L => (p2 L).2.2.1
    have q3 := fun L => (p2 L).2.2.2.1
    have q4 := fun L => (p2 L).2.2.2.2.1
    have q5 := fun L => (p2 L).2.2.2.2.2
    have step := noTier_step h
    have hlen : (noTier (E.take i)).length ≤ i := Nat.le_trans (List.length_filter_le _ _) (by simp; omega)
    have hw1 := wrap_nat (n := i) (by omega)
    rcases hH with ⟨hF, rfl⟩ | rfl
    · by_cases hk3 : E[i].k = 3
      · simp (implicitDefEqProofs := false) [t1, t2, t3, t7, t8, t9, h', p1, q0, q1, q2, q3, q4, q5, storeA, cellsOf, setL, scalar, hk3]
        rw [hQ1]
        refine loopN_end (H1 := H) [0, 1, 2] (E.length - (i + 1)) (by omega) rfl (Nat.le_refl _) (by simp) (by simp) hw ⟨i + 1, ?_⟩
        simp [t1, t2, t3, t7, t8, hxe, hxd, hw1, eraseH, step, hk3, hF]
        omega
      · simp (implicitDefEqProofs := false) [t1, t2, t3, t7, t8, t9, h', p1, q0, q1, q2, q3, q4, q5, storeA, cellsOf, setL, scalar, hk3, evalP, fillA, appendE, srcCells]
        rw [hQ1]
        refine loopN_end (H1 := H) [0, 1, 2, 5] (E.length - (i + 1)) (by omega) rfl (Nat.le_refl _) (by simp) (by simp) hw ⟨i + 1, ?_⟩
        simp [t1, t2, t3, t7, t8, hxe, hxd, hw1, eraseH, step, hk3, hF, entC_one, Ent.c]
        omega
    · by_cases hk3 : E[i].k = 3
      · simp (implicitDefEqProofs := false) [t1, t2, t3, t7, t8, t9, h', p1, q0, q1, q2, q3, q4, q5, storeA, cellsOf, setL, scalar, hk3]
        rw [hQ1]
        refine loopN_end (H1 := H) [0, 1, 2, 3] (E.length - (i + 1)) (by omega) rfl (Nat.le_refl _) (by simp) (by simp) hw ⟨i + 1, ?_⟩
        simp [t1, t2, t3, t7, t8, hxe, hxd, hw1, eraseH, step, hk3]
        omega
      · have hby : ((noTier (E.take i)).length + 1) * 48 ≤ 140737488355328 := by omega
        have hng : ¬ ((noTier (E.take i)).length + 1) * 6 ≤ (noTier (E.take i)).length * 6 := by omega
        have htk : List.take ((noTier (E.take i)).length * 6) (entC (noTier (E.take i))) = entC (noTier (E.take i)) := by rw [← entC_length, List.take_length]
        simp (implicitDefEqProofs := false) [t1, t2, t3, t7, t8, t9, h', p1, q0, q1, q2, q3, q4, q5, storeA, cellsOf, setL, scalar, hk3, evalP, fillA, appendE, srcCells, hby, hng, htk]
        rw [hQ1]
        refine loopN_end (H1 := H) [0, 1, 2, 6] (E.length - (i + 1)) (by omega) rfl (Nat.le_refl _) (by simp) (by simp) hw ⟨i + 1, ?_⟩
        simp [t1, t2, t3, t7, t8, hxe, hxd, hw1, eraseH, step, hk3, entC_append, entC_one, Ent.c, ren_append]
        omega
  · have h' : ¬ (i : Int) < E.length := by omega
    have e : i = E.length := by omega
    subst e
    rw [List.take_length] at hH
    have hD' : ∀ L, Ds C (H ++ L) xd D := fun L => hD.app
    rcases hH with ⟨hF, rfl⟩ | rfl
    · simp (implicitDefEqProofs := false) [t1, t2, t3, t7, t8, t9, h']
      rw [hQ1]
      simp (implicitDefEqProofs := false) [t1, t3]
      refine FWops_callR rfl (by simp) (clone_calls C hP xd D _ (hD' _) hl2) ?_
      rintro v H' (⟨rfl, hDn, rfl⟩ | ⟨rfl, rfl⟩)
      · simp (implicitDefEqProofs := false) [t1, t2, t3, storeA, cellsOf, setL, scalar]
        rw [hQ]
        refine retR_at (H1 := H) [0, 1] rfl rfl (by simp) (by simp) hw ?_
        exact ⟨[.agg [.nils, .nils]], by simp [e11, t2], .nils, .nils, _, _, by simp, rfl, .inl ⟨rfl, hF⟩, .inl ⟨rfl, hDn⟩⟩
      · simp (implicitDefEqProofs := false) [t1, t2, t3, storeA, cellsOf, setL, scalar]
        rw [hQ]
        refine retR_at (H1 := H) [0, 3] rfl rfl (by simp) (by simp) hw ?_
        exact ⟨[.agg [.nils, .arr (H.length + 3) D.length]], by simp [e11, t2], .nils, .arr (H.length + 1) D.length, _, _, by simp, rfl, .inl ⟨rfl, hF⟩, .inr ⟨rfl, by simp⟩⟩
    · simp (implicitDefEqProofs := false) [t1, t2, t3, t7, t8, t9, h']
      rw [hQ1]
      simp (implicitDefEqProofs := false) [t1, t3]
      refine FWops_callR rfl (by simp) (clone_calls C hP xd D _ (hD' _) hl2) ?_
      rintro v H' (⟨rfl, hDn, rfl⟩ | ⟨rfl, rfl⟩)
      · simp (implicitDefEqProofs := false) [t1, t2, t3, storeA, cellsOf, setL, scalar]
        rw [hQ]
        refine retR_at (H1 := H) [3, 1] rfl rfl (by simp) (by simp) hw ?_
        exact ⟨[.agg [.arr (H.length + 3) (noTier E).length, .nils]], by simp [e11, t2], .arr H.length (noTier E).length, .nils, _, _, by simp, rfl, .inr ⟨rfl, by simp⟩, .inl ⟨rfl, hDn⟩⟩
      · simp (implicitDefEqProofs := false) [t1, t2, t3, storeA, cellsOf, setL, scalar]
        rw [hQ]
        refine retR_at (H1 := H) [3, 4] rfl rfl (by simp) (by simp) hw ?_
        exact ⟨[.agg [.arr (H.length + 3) (noTier E).length, .arr (H.length + 4) D.length]], by simp [e11, t2], .arr H.length (noTier E).length, .arr (H.length + 1) D.length, _, _, by simp, rfl, .inr ⟨rfl, by simp⟩, .inr ⟨rfl, by simp⟩⟩


def reraseH (H : AHeap) (xe xd : AVal) (D : List Int) (F : List Ent) (H' : AHeap) : Prop :=
  (F = [] ∧ H' = H ++ [some ⟨[xe, xd], 27⟩, some ⟨[.nils, .nils], 27⟩, some ⟨intC D, 3⟩, some ⟨[.nils, .arr (H.length + 2) D.length], 27⟩]) ∨
  (H' = H ++ [some ⟨[xe, xd], 27⟩, some ⟨[.nils, .nils], 27⟩, some ⟨intC D, 3⟩, some ⟨[.arr (H.length + 4) F.length, .arr (H.length + 2) D.length], 27⟩, some ⟨entC F, 40⟩])

def reraseI (xe xd : AVal) (E : List Ent) (D : List Int) (H : AHeap) (t : Fr) (H' : AHeap) (m : Nat) : Prop := ∃ i : Nat, t 1 = .ptr (.loc H.length 0) ∧ t 2 = .ptr (.loc (H.length + 1) 0) ∧ t 3 = .ptr (.loc (H.length + 3) 0) ∧ t 4 = .int .i64 i ∧ i ≤ E.length ∧
    reraseH H xe xd D (noTier (E.take i)) H' ∧ m = E.length - i

theorem rerase_calls (C : Ctx) (hP : C.P = Try.prog) (xe xd : AVal) (E : List Ent) (D : List Int) (H : AHeap) (hE : Es C H xe E) (hD : Ds C H xd D) (hl : E.length ≤ 1000000) (hl2 : D.length ≤ 1000000) :
    FCalls C 12 [.agg [xe, xd]] H (fun v H' => ∃ re oe, v = .agg [re, .arr (H.length + 1) D.length] ∧ H' = H ++ [oe, some ⟨intC D, 3⟩] ∧ NewE re oe H.length (noTier E)) := by
  refine FCalls.bodyR (hP ▸ v12) (by simp [e12]) fun hw ha => ?_
  generalize hQ : retR _ _ _ = Q
  have hxe : ∀ ks, renV (keepAt H.length ks) xe = xe := fun ks => renV_keepAt hE.lt
  have hxd : ∀ ks, renV (keepAt H.length ks) xd = xd := fun ks => renV_keepAt hD.lt
  have hsrc : ∀ L, srcCells C (H ++ L) 1 xd = some (D.length, intC D) := fun L => srcCells_app hD.src
  show FW _ c12 _ _ _
  unfold c12
  refine FW.seq' ?_
  simp (implicitDefEqProofs := false) [e12, boxA, cellsOf]
  refine FW.cutN (fun t H' => t 1 = .ptr (.loc H.length 0) ∧ t 2 = .ptr (.loc (H.length + 1) 0) ∧ t 3 = .ptr (.loc (H.length + 3) 0) ∧ reraseH H xe xd D [] H') ?_ ?_
  · cases D with
    | nil =>
      simp (implicitDefEqProofs := false) [evalP, fillA, cellsOf, appendE, hsrc, intC_scalar, storeA, setL, scalar]
      refine cutN_end (H1 := H) [0, 1, 2, 3] rfl (Nat.le_refl _) (by simp) (by simp) hw ?_
      simp [hxe, hxd, reraseH, intC, setL]
    | cons d D =>
      have hc : (d :: D).length * 8 ≤ 140737488355328 := by simp at hl2 ⊢; omega
      have hsc := intC_scalar (d :: D)
      simp only [List.length_cons] at hsrc hc hl2
      simp (implicitDefEqProofs := false) [evalP, fillA, cellsOf, appendE, hsrc, hsc, hc, storeA, setL, scalar]
      refine cutN_end (H1 := H) [0, 1, 3, 4] rfl (Nat.le_refl _) (by simp) (by simp) hw ?_
      simp [hxe, hxd, reraseH]
  rintro t0 H0 ⟨t1, t2, t3, hH0⟩
  refine FWx_sound ?_
  simp (implicitDefEqProofs := false) [t1, t2, t3]
  refine FW.loopN (reraseI xe xd E D H) E.length ⟨0, ?_⟩ ?_
  · simp [t1, t2, t3, hH0, noTier]
  clear t1 t2 t3 hH0 t0 H0
  rintro t H1 m ⟨i, t1, t2, t3, t4, hi, hH, rfl⟩ hk ht hn
  refine FWx.hide fun Q1 hQ1 => ?_
  by_cases h : i < E.length
  · have h' : (i : Int) < E.length := by omega
    obtain ⟨p, p1, _, p2⟩ := hE.idx (i := i) (e := E[i]) (by simp [h])
    have q0 := fun L => (p2 L).1
    have q1 := fun L => (p2 L).2.1
    have q2 := fun L => (p2 L).2.2.1
    have q3 := fun L => (p2 L).2.2.2.1
    have q4 := fun L => (p2 L).2.2.2.2.1
    have q5 := fun L => (p2 L).2.2.2.2.2
    have step := noTier_step h
    have hlen : (noTier (E.take i)).length ≤ i := Nat.le_trans (List.length_filter_le _ _) (by simp; omega)
    have hw1 := wrap_nat (n := i) (by omega)
    rcases hH with ⟨hF, rfl⟩ | rfl
    · by_cases hk3 : E[i].k = 3
      · simp (implicitDefEqProofs := false) [t1, t2, t3, t4, hE.lenV, h', p1, q0, q1, q2, q3, q4, q5, storeA, cellsOf, setL, scalar, hk3]
        rw [hQ1]
        refine loopN_end (H1 := H) [0, 1, 2, 3] (E.length - (i + 1)) (by omega) rfl (Nat.le_refl _) (by simp) (by simp) hw ⟨i + 1, ?_⟩
        simp [t1, t2, t3, hxe, hxd, hw1, reraseH, step, hk3, hF]
        omega
      · simp (implicitDefEqProofs := false) [t1, t2, t3, t4, hE.lenV, h', p1, q0, q1, q2, q3, q4, q5, storeA, cellsOf, setL, scalar, hk3, evalP, fillA, appendE, srcCells]
        rw [hQ1]
        refine loopN_end (H1 := H) [0, 1, 2, 3, 5] (E.length - (i + 1)) (by omega) rfl (Nat.le_refl _) (by simp) (by simp) hw ⟨i + 1, ?_⟩
        simp [t1, t2, t3, hxe, hxd, hw1, reraseH, step, hk3, hF, entC_one, Ent.c]
        omega
    · by_cases hk3 : E[i].k = 3
      · simp (implicitDefEqProofs := false) [t1, t2, t3, t4, hE.lenV, h', p1, q0, q1, q2, q3, q4, q5, storeA, cellsOf, setL, scalar, hk3]
        rw [hQ1]
        refine loopN_end (H1 := H) [0, 1, 2, 3, 4] (E.length - (i + 1)) (by omega) rfl (Nat.le_refl _) (by simp) (by simp) hw ⟨i + 1, ?_⟩
        simp [t1, t2, t3, hxe, hxd, hw1, reraseH, step, hk3]
        omega
      · have hby : ((noTier (E.take i)).length + 1) * 48 ≤ 140737488355328 := by omega
        have hng : ¬ ((noTier (E.take i)).length + 1) * 6 ≤ (noTier (E.take i)).length * 6 := by omega
        have htk : List.take ((noTier (E.take i)).length * 6) (entC (noTier (E.take i))) = entC (noTier (E.take i)) := by rw [← entC_length, List.take_length]
        simp (implicitDefEqProofs := false) [t1, t2, t3, t4, hE.lenV, h', p1, q0, q1, q2, q3, q4, q5, storeA, cellsOf, setL, scalar, hk3, evalP, fillA, appendE, srcCells, hby, hng, htk]
        rw [hQ1]
        refine loopN_end (H1 := H) [0, 1, 2, 3, 6] (E.length - (i + 1)) (by omega) rfl (Nat.le_refl _) (by simp) (by simp) hw ⟨i + 1, ?_⟩
        simp [t1, t2, t3, hxe, hxd, hw1, reraseH, step, hk3, entC_append, entC_one, Ent.c, ren_append]
        omega
  · have h' : ¬ (i : Int) < E.length := by omega
    have e : i = E.length := by omega
    subst e
    rw [List.take_length] at hH
    rcases hH with ⟨hF, rfl⟩ | rfl
    · simp (implicitDefEqProofs := false) [t1, t2, t3, t4, hE.lenV, h']
      rw [hQ1]
      simp (implicitDefEqProofs := false) [t1, t2, t3, storeA, cellsOf, setL, scalar]
      rw [← hQ]
      refine retR_at (H1 := H) [0, 2] rfl rfl (by simp) (by simp) hw ?_
      exact ⟨[.agg [.nils, .arr (H.length + 2) D.length]], by simp [e12, t2], .nils, _, by simp, by simp; rfl, .inl ⟨rfl, hF⟩⟩
    · simp (implicitDefEqProofs := false) [t1, t2, t3, t4, hE.lenV, h']
      rw [hQ1]
      simp (implicitDefEqProofs := false) [t1, t2, t3, storeA, cellsOf, setL, scalar]
      rw [← hQ]
      refine retR_at (H1 := H) [4, 2] rfl rfl (by simp) (by simp) hw ?_
      exact ⟨[.agg [.arr (H.length + 4) (noTier E).length, .arr (H.length + 2) D.length]], by simp [e12, t2], .arr H.length (noTier E).length, _, by simp, by simp, .inr ⟨rfl, rfl⟩⟩

end Go.Proofs.Ytfbkogaijopcgaa
