/-
  OWN WORK (an AI agent). Part L21e of a walk by simplification over abstract heaps.
-/
import Derived.Test.YtfbkogaijopcgaaFL21i
import Derived.Test.YtfbkogaijopcgaaFL21b
set_option linter.all false
set_option linter.unusedSimpArgs false
set_option linter.unusedVariables false
set_option maxRecDepth 20000
namespace Go.Proofs.Ytfbkogaijopcgaa
open Go.F Go.RowKit

theorem Es.arr {C : Ctx} {H : AHeap} {id : Nat} {l : List Ent} {ty : Nat} (h : hget H id = some ⟨entC l, ty⟩) : Es C H (.arr id l.length) l := by
  refine ⟨?_, by simp, by simp only [AVal.lt]; exact hget_lt h⟩
  simp only [srcCells]
  rw [ldn_of (l := entC l) (by rw [entC_length]) (fun k hk => by simp [ldc, h])]
  rfl
theorem Es.nils (C : Ctx) (H : AHeap) : Es C H .nils [] := ⟨rfl, by simp, by simp only [AVal.lt]⟩
theorem Ds.arr {C : Ctx} {H : AHeap} {id : Nat} {l : List Int} {ty : Nat} (h : hget H id = some ⟨intC l, ty⟩) : Ds C H (.arr id l.length) l := by
  refine ⟨?_, by simp, by simp only [AVal.lt]; exact hget_lt h⟩
  simp only [srcCells]
  rw [ldn_of (l := intC l) (by rw [intC_length, Nat.mul_one]) (fun k hk => by simp [ldc, h])]
  rfl
theorem Ds.nils (C : Ctx) (H : AHeap) : Ds C H .nils [] := ⟨rfl, by simp, by simp only [AVal.lt]⟩

theorem NewE.es {C : Ctx} {H : AHeap} {x : AVal} {o : Option ABlk} {id : Nat} {l : List Ent} (h : NewE x o id l) (ho : hget H id = o) : Es C H x l := by
  rcases h with ⟨rfl, rfl⟩ | ⟨rfl, rfl⟩
  · exact .nils C H
  · exact .arr ho
theorem NewD.ds {C : Ctx} {H : AHeap} {x : AVal} {o : Option ABlk} {id : Nat} {l : List Int} (h : NewD x o id l) (ho : hget H id = o) : Ds C H x l := by
  rcases h with ⟨rfl, rfl⟩ | ⟨rfl, rfl⟩
  · exact .nils C H
  · exact .arr ho

/-- behind the copies -/
def st1 (H : AHeap) (xe xd : AVal) (E : List Ent) (D : List Int) : AHeap := [some ⟨[xe, xd], 27⟩, some ⟨entC E, 40⟩, some ⟨intC D, 3⟩, some ⟨[.arr (H.length + 1) E.length, .arr (H.length + 2) D.length], 27⟩]

def S1 (H : AHeap) (xe xd : AVal) (E : List Ent) (D : List Int) (t : Fr) (H' : AHeap) : Prop := t 1 = .ptr (.loc H.length 0) ∧ t 3 = .ptr (.loc (H.length + 3) 0) ∧ H' = H ++ st1 H xe xd E D

def S2 (H : AHeap) (xe xd : AVal) (E : List Ent) (D : List Int) (F : List Ent) (G : List Int) (t : Fr) (H' : AHeap) : Prop := t 1 = .ptr (.loc H.length 0) ∧ t 3 = .ptr (.loc (H.length + 3) 0) ∧ t 4 = .ptr (.loc (H.length + 6) 0) ∧
  ∃ re rd oe od, H' = H ++ [some ⟨[xe, xd], 27⟩, some ⟨entC E, 40⟩, some ⟨intC D, 3⟩, some ⟨[.arr (H.length + 1) E.length, .arr (H.length + 2) D.length], 27⟩, oe, od, some ⟨[re, rd], 27⟩] ∧ NewE re oe (H.length + 4) F ∧ NewD rd od (H.length + 5) G

theorem picks_noTier (E : List Ent) : picks (noTier E) = picks E := by
  simp only [picks, noTier, List.countP_filter]
  apply List.countP_congr
  intro e _
  by_cases h : e.k = 1
  · have : ¬ e.k = 3 := by omega
    simp [h]
  · simp [h]

def neg1 (e : Ent) : Ent := { e with a := -1 }
def setA (F : List Ent) (i : Nat) : List Ent := (F.take i).map neg1 ++ F.drop i

theorem setA_length (F : List Ent) (i : Nat) : (setA F i).length = F.length := by simp [setA]; omega
theorem setA_get {F : List Ent} {i : Nat} (h : i < F.length) : (setA F i)[i]? = some F[i] := by
  unfold setA
  rw [List.getElem?_append_right (by simp; omega)]
  simp only [List.length_map, List.length_take]
  rw [show i - min i F.length = 0 by omega, List.getElem?_drop]
  simp [h]
theorem map_step {α : Type} (f : α → α) {F : List α} {i : Nat} (h : i < F.length) : (F.take (i + 1)).map f ++ F.drop (i + 1) = ((F.take i).map f ++ F.drop i).set i (f F[i]) := by
  have e1 : F.drop i = F[i] :: F.drop (i + 1) := List.drop_eq_getElem_cons h
  have hl : ((F.take i).map f).length = i := by simp; omega
  rw [List.set_append_right _ _ (by omega), hl, Nat.sub_self, e1, List.set_cons_zero, List.take_add_one, List.getElem?_eq_getElem h]
  simp only [Option.toList_some, List.map_append, List.map_cons, List.map_nil, List.append_assoc, List.cons_append, List.nil_append]
theorem setA_succ {F : List Ent} {i : Nat} (h : i < F.length) : setA F (i + 1) = (setA F i).set i (neg1 F[i]) := map_step neg1 h

theorem entC_set : ∀ {l : List Ent} {i : Nat} {e : Ent}, l[i]? = some e → (entC l).set (i * 6 + 1) (.int .i64 (-1)) = entC (l.set i (neg1 e))
  | [], i, e, h => by simp at h
  | x :: l, 0, e, h => by
    simp only [List.getElem?_cons_zero, Option.some.injEq] at h
    subst h
    simp [entC, Ent.c, neg1]
  | x :: l, i + 1, e, h => by
    have := entC_set (l := l) (i := i) (e := e) (by simpa using h)
    simp only [entC, List.flatMap_cons, List.set_cons_succ] at this ⊢
    have hx : x.c.length = 6 := rfl
    rw [List.set_append_right _ _ (by rw [hx]; omega), hx, show (i + 1) * 6 + 1 - 6 = i * 6 + 1 by omega, this]

def setD (D : List Int) (i : Nat) : List Int := (D.take i).map (fun d => IntKind.i64.wrap (d + 1)) ++ D.drop i
theorem setD_length (F : List Int) (i : Nat) : (setD F i).length = F.length := by simp [setD]; omega
theorem setD_get {F : List Int} {i : Nat} (h : i < F.length) : (setD F i)[i]? = some F[i] := by
  unfold setD
  rw [List.getElem?_append_right (by simp; omega)]
  simp only [List.length_map, List.length_take]
  rw [show i - min i F.length = 0 by omega, List.getElem?_drop]
  simp [h]
theorem setD_succ {F : List Int} {i : Nat} (h : i < F.length) : setD F (i + 1) = (setD F i).set i (IntKind.i64.wrap (F[i] + 1)) := map_step _ h
theorem intC_set (l : List Int) (i : Nat) (d : Int) : (intC l).set i (.int .i64 d) = intC (l.set i d) := by simp [intC, List.map_set]

def loop1I (H : AHeap) (xe xd : AVal) (E : List Ent) (D : List Int) (F : List Ent) (t : Fr) (H' : AHeap) (m : Nat) : Prop := ∃ i : Nat, t 5 = .int .i64 i ∧ i ≤ F.length ∧ S2 H xe xd E D (setA F i) D t H' ∧ m = F.length - i
def loop2I (H : AHeap) (xe xd : AVal) (E : List Ent) (D : List Int) (F : List Ent) (t : Fr) (H' : AHeap) (m : Nat) : Prop := ∃ i : Nat, t 6 = .int .i64 i ∧ i ≤ D.length ∧ S2 H xe xd E D F (setD D i) t H' ∧ m = D.length - i

theorem erases_calls (C : Ctx) (hP : C.P = Try.prog) (xe xd : AVal) (E : List Ent) (D : List Int) (H : AHeap) (hE : Es C H xe E) (hD : Ds C H xd D) :
    FCalls C 4 [.agg [xe, xd]] H (fun v _ => v = .bool true) := by
  refine FCalls.entry (hP ▸ v4) (by simp [e4]) fun hw ha => ?_
  generalize hQ : retQ _ _ _ = Q
  have hxe : ∀ ks, renV (keepAt H.length ks) xe = xe := fun ks => renV_keepAt hE.lt
  have hxd : ∀ ks, renV (keepAt H.length ks) xd = xd := fun ks => renV_keepAt hD.lt
  have sE : ∀ L, srcCells C (H ++ L) 6 xe = some (E.length, entC E) := fun L => srcCells_app hE.src
  have sD : ∀ L, srcCells C (H ++ L) 1 xd = some (D.length, intC D) := fun L => srcCells_app hD.src
  have eE : ∀ L, Es C (H ++ L) xe E := fun L => hE.app
  have eD : ∀ L, Ds C (H ++ L) xd D := fun L => hD.app
  show FW _ c4 _ _ _
  unfold c4
  refine FW.seq' ?_
  simp (implicitDefEqProofs := false) [e4, boxA, cellsOf]
  by_cases hm : (decide (300 < E.length) || decide (300 < D.length)) = true
  · refine FW.seq' ?_
    simp (implicitDefEqProofs := false)
    refine FWops_callR rfl (by simp) (much_calls C hP xe xd E D _ (eE _) (eD _)) ?_
    rintro v H' ⟨rfl, rfl⟩
    rw [hm]
    simp (implicitDefEqProofs := false)
    refine FWops_callR rfl (by simp) ((live_calls C hP).forget (by simp [ltL]) (by rintro v H1 rfl; simp [AVal.lt])) ?_
    rintro v H1 ⟨⟨_, rfl⟩, rfl⟩
    simp (implicitDefEqProofs := false)
    rw [← hQ]
    refine retQ_ret (by simp) ?_
    simp [e4]
  have hm2 : (decide (300 < E.length) || decide (300 < D.length)) = false := by simpa using hm
  have hl : E.length ≤ 300 := by simp at hm2; omega
  have hl2 : D.length ≤ 300 := by simp at hm2; omega
  refine FW.seq' ?_
  simp (implicitDefEqProofs := false)
  refine FWops_callR rfl (by simp) (much_calls C hP xe xd E D _ (eE _) (eD _)) ?_
  rintro v H' ⟨rfl, rfl⟩
  rw [hm2]
  simp (implicitDefEqProofs := false)
  refine FW.cutN (S1 H xe xd E D) ?_ ?_
  · have c1 : E.length * 48 ≤ 140737488355328 := by omega
    have c2 : D.length * 8 ≤ 140737488355328 := by omega
    have i1 := idA_new hE.lt
    have i2 := idA_new hD.lt
    have hsE := entC_scalar E
    have hsD := intC_scalar D
    by_cases n1 : E.length = 0
    · have n1' : E = [] := List.length_eq_zero_iff.1 n1
      by_cases n2 : D.length = 0
      · have n2' : D = [] := List.length_eq_zero_iff.1 n2
        simp (implicitDefEqProofs := false) [evalP, fillA, cellsOf, setAt, appendA, sE, sD, hsE, hsD, storeA, setL, i1, i2, n1, n2]
        refine cutN_end (H1 := H) [0, 1, 5, 10] rfl (Nat.le_refl _) (by simp) (by simp) hw ?_
        simp [S1, st1, hxe, hxd, n1, n2, n1', n2', entC, intC, setL]
      · simp (implicitDefEqProofs := false) [evalP, fillA, cellsOf, setAt, appendA, sE, sD, hsE, hsD, storeA, setL, i1, i2, n1, n2, c2]
        refine cutN_end (H1 := H) [0, 1, 8, 10] rfl (Nat.le_refl _) (by simp) (by simp) hw ?_
        simp [S1, st1, hxe, hxd, n1, n1', entC, setL]
    · have n1' : ¬ E.length * 6 = 0 := by omega
      by_cases n2 : D.length = 0
      · have n2' : D = [] := List.length_eq_zero_iff.1 n2
        simp (implicitDefEqProofs := false) [evalP, fillA, cellsOf, setAt, appendA, sE, sD, hsE, hsD, storeA, setL, i1, i2, n1, n2, n1', c1]
        refine cutN_end (H1 := H) [0, 4, 5, 10] rfl (Nat.le_refl _) (by simp) (by simp) hw ?_
        simp [S1, st1, hxe, hxd, n2, n2', intC, setL]
      · simp (implicitDefEqProofs := false) [evalP, fillA, cellsOf, setAt, appendA, sE, sD, hsE, hsD, storeA, setL, i1, i2, n1, n2, n1', c1, c2]
        refine cutN_end (H1 := H) [0, 4, 8, 10] rfl (Nat.le_refl _) (by simp) (by simp) hw ?_
        simp [S1, st1, hxe, hxd]
  rintro t H' ⟨t1, t3, rfl⟩
  have f1 : hget (H ++ st1 H xe xd E D) (H.length + 1) = some ⟨entC E, 40⟩ := by simp [st1]
  have f2 : hget (H ++ st1 H xe xd E D) (H.length + 2) = some ⟨intC D, 3⟩ := by simp [st1]
  refine FW.cutN (S2 H xe xd E D (noTier E) D) ?_ ?_
  · simp (implicitDefEqProofs := false) [t1, t3, st1]
    refine FWops_callR rfl (by simp) (erase_calls C hP _ _ E D _ (Es.arr f1) (Ds.arr f2) (by omega) (by omega)) ?_
    rintro v H' ⟨re, rd, oe, od, rfl, rfl, ne, nd⟩
    have ne : NewE re oe (H.length + 4) (noTier E) := by simpa using ne
    have nd : NewD rd od (H.length + 5) D := by simpa using nd
    simp (implicitDefEqProofs := false) [t1, t3, st1, storeA, cellsOf, setL, ne.sc, nd.sc]
    refine cutN_end (H1 := H) [0, 1, 2, 3, 4, 5, 6] rfl (Nat.le_refl _) (by simp) (by simp) hw ?_
    refine ⟨by simp [t1], by simp [t3], by simp, renV (keepAt H.length [0, 1, 2, 3, 4, 5, 6]) re, renV (keepAt H.length [0, 1, 2, 3, 4, 5, 6]) rd, oe.map fun b => ⟨renL (keepAt H.length [0, 1, 2, 3, 4, 5, 6]) b.cells, b.ty⟩, od.map fun b => ⟨renL (keepAt H.length [0, 1, 2, 3, 4, 5, 6]) b.cells, b.ty⟩, by simp [hxe, hxd], ne.ren rfl, nd.ren rfl⟩
  clear t1 t3 f1 f2 t
  rintro t H' ⟨t1, t3, t4, re, rd, oe, od, rfl, ne, nd⟩
  have hlF : (noTier E).length ≤ 300 := Nat.le_trans (List.length_filter_le _ _) hl
  refine FW.cutN (S2 H xe xd E D (noTier E) D) ?_ ?_
  · have aE : ∀ L, Es C (H ++ some ⟨[xe, xd], 27⟩ :: some ⟨entC E, 40⟩ :: some ⟨intC D, 3⟩ :: some ⟨[.arr (H.length + 1) E.length, .arr (H.length + 2) D.length], 27⟩ :: oe :: od :: L) (.arr (H.length + 1) E.length) E := fun L => Es.arr (ty := 40) (by simp)
    have aD : ∀ L, Ds C (H ++ some ⟨[xe, xd], 27⟩ :: some ⟨entC E, 40⟩ :: some ⟨intC D, 3⟩ :: some ⟨[.arr (H.length + 1) E.length, .arr (H.length + 2) D.length], 27⟩ :: oe :: od :: L) (.arr (H.length + 2) D.length) D := fun L => Ds.arr (ty := 3) (by simp)
    have bE : ∀ L, Es C (H ++ some ⟨[xe, xd], 27⟩ :: some ⟨entC E, 40⟩ :: some ⟨intC D, 3⟩ :: some ⟨[.arr (H.length + 1) E.length, .arr (H.length + 2) D.length], 27⟩ :: oe :: od :: L) re (noTier E) := fun L => ne.es (by simp)
    have bD : ∀ L, Ds C (H ++ some ⟨[xe, xd], 27⟩ :: some ⟨entC E, 40⟩ :: some ⟨intC D, 3⟩ :: some ⟨[.arr (H.length + 1) E.length, .arr (H.length + 2) D.length], 27⟩ :: oe :: od :: L) rd D := fun L => nd.ds (by simp)
    simp (implicitDefEqProofs := false) [t1, t3, t4]
    refine FWtreeR_callR rfl (by simp) (rerase_calls C hP xe xd E D _ (eE _) (eD _) (by omega) (by omega)) ?_
    rintro v H' ⟨re2, oe2, rfl, rfl, ne2⟩
    have ne2 : NewE re2 oe2 (H.length + 25) (noTier E) := by simpa using ne2
    refine ⟨by simp, ?_⟩
    simp (implicitDefEqProofs := false) [t1, t3, t4]
    refine FWtreeR_callR rfl (by simp) (same_calls C hP re rd re2 (.arr (H.length + 26) D.length) (noTier E) (noTier E) D D _ (bE _) (bD _) (ne2.es (by simp)) (Ds.arr (ty := 3) (by simp)) (by omega) (by omega)) ?_
    rintro v H' ⟨rfl, rfl⟩
    refine ⟨by simp, ?_⟩
    simp (implicitDefEqProofs := false) [t1, t3, t4]
    refine FWtreeR_callR rfl (by simp) (same_calls C hP (.arr (H.length + 1) E.length) (.arr (H.length + 2) D.length) xe xd E E D D _ (aE _) (aD _) (eE _) (eD _) (by omega) (by omega)) ?_
    rintro v H' ⟨rfl, rfl⟩
    refine ⟨by simp, ?_⟩
    simp (implicitDefEqProofs := false) [t1, t3, t4]
    refine FWtreeR_callR rfl (by simp) (picks_calls C hP re rd (noTier E) _ (bE _) (by omega)) ?_
    rintro v H' ⟨rfl, rfl⟩
    refine ⟨by simp, ?_⟩
    refine FWtreeR_callR rfl (by simp) (picks_calls C hP xe xd E _ (eE _) (by omega)) ?_
    rintro v H' ⟨rfl, rfl⟩
    refine ⟨by simp, ?_⟩
    have hpk := picks_noTier E
    simp (implicitDefEqProofs := false) [t1, t3, t4, hpk]
    refine cutN_end (H1 := H) [0, 1, 2, 3, 4, 5, 6] rfl (Nat.le_refl _) (by simp) (by simp) hw ?_
    refine ⟨by simp [t1], by simp [t3], by simp [t4], renV (keepAt H.length [0, 1, 2, 3, 4, 5, 6]) re, renV (keepAt H.length [0, 1, 2, 3, 4, 5, 6]) rd, oe.map fun b => ⟨renL (keepAt H.length [0, 1, 2, 3, 4, 5, 6]) b.cells, b.ty⟩, od.map fun b => ⟨renL (keepAt H.length [0, 1, 2, 3, 4, 5, 6]) b.cells, b.ty⟩, by simp [hxe, hxd], ne.ren rfl, nd.ren rfl⟩
  clear t1 t3 t4 ne nd re rd oe od t
  intro t H' h2
  refine FW.cut' (S2 H xe xd E D (setA (noTier E) (noTier E).length) D) ?_ ?_
  · simp (implicitDefEqProofs := false)
    refine FW.loop (loop1I H xe xd E D (noTier E)) (noTier E).length ⟨0, ?_⟩ ?_
    · obtain ⟨t1, t3, t4, h2⟩ := h2
      exact ⟨rfl, Nat.zero_le _, ⟨by simp [t1], by simp [t3], by simp [t4], by simpa [setA] using h2⟩, rfl⟩
    rintro t H' m ⟨i, t5, hi, ⟨t1, t3, t4, re, rd, oe, od, rfl, ne, nd⟩, rfl⟩
    refine FWx_sound (FWx.hide fun Q1 hQ1 => ?_)
    by_cases h : i < (noTier E).length
    · have h' : (i : Int) < (noTier E).length := by omega
      rcases ne with ⟨rfl, hn⟩ | ⟨rfl, rfl⟩
      · have := setA_length (noTier E) i
        rw [hn] at this
        simp at this
        omega
      rw [setA_length] at *
      have hg := setA_get h
      have g0 := entC_get hg 0 (by omega)
      have hk : ¬ (noTier E)[i].k = 3 := by
        have := List.getElem_mem h
        unfold noTier at this
        rw [List.mem_filter] at this
        have h2 := this.2
        intro hc
        unfold noTier at hc
        rw [hc] at h2
        simp at h2
      have g1 : i * 6 + 1 + 1 ≤ (noTier E).length * 6 := by omega
      have g2 := entC_set hg
      rw [← setA_succ h] at g2
      simp only [Nat.add_zero, Ent.c, List.getElem?_cons_zero] at g0
      simp (implicitDefEqProofs := false) [t1, t3, t4, t5, h', g0, hk, storeA, cellsOf, setL, setA_length, g1, g2]
      rw [hQ1]
      simp (implicitDefEqProofs := false)
      refine ⟨(noTier E).length - (i + 1), by omega, i + 1, ?_, by omega, ⟨by simp [t1], by simp [t3], by simp [t4], .arr (H.length + 4) (noTier E).length, rd, _, od, rfl, .inr ⟨by rw [setA_length], rfl⟩, nd⟩, rfl⟩
      simp [wrap_nat (n := i) (by omega)]
    · have h' : ¬ (i : Int) < (noTier E).length := by omega
      have e : i = (noTier E).length := by omega
      have hlen : lenV false re = some (.int .i64 (noTier E).length) := by
        rcases ne with ⟨rfl, hn⟩ | ⟨rfl, rfl⟩
        · have := setA_length (noTier E) i
          rw [hn] at this
          simp at this
          rw [← this]; rfl
        · rw [setA_length]; rfl
      simp (implicitDefEqProofs := false) [t1, t3, t4, t5, h', hlen]
      rw [hQ1]
      simp (implicitDefEqProofs := false)
      rw [e] at ne
      exact ⟨by simp [t1], by simp [t3], by simp [t4], re, rd, oe, od, rfl, ne, nd⟩
  clear h2 t H'
  intro t H' h2
  generalize setA (noTier E) (noTier E).length = F at h2
  refine FW.cut' (S2 H xe xd E D F (setD D D.length)) ?_ ?_
  · simp (implicitDefEqProofs := false)
    refine FW.loop (loop2I H xe xd E D F) D.length ⟨0, ?_⟩ ?_
    · obtain ⟨t1, t3, t4, h2⟩ := h2
      exact ⟨rfl, Nat.zero_le _, ⟨by simp [t1], by simp [t3], by simp [t4], by simpa [setD] using h2⟩, rfl⟩
    rintro t H' m ⟨i, t6, hi, ⟨t1, t3, t4, re, rd, oe, od, rfl, ne, nd⟩, rfl⟩
    refine FWx_sound (FWx.hide fun Q1 hQ1 => ?_)
    by_cases h : i < D.length
    · have h' : (i : Int) < D.length := by omega
      rcases nd with ⟨rfl, hn⟩ | ⟨rfl, rfl⟩
      · have := setD_length D i
        rw [hn] at this
        simp at this
        omega
      rw [setD_length] at *
      have hg := setD_get h
      have g0 : (intC (setD D i))[i]? = some (.int .i64 D[i]) := by simp [intC, hg]
      have g1 : i + 1 ≤ D.length := by omega
      have g2 := intC_set (setD D i) i (IntKind.i64.wrap (D[i] + 1))
      rw [← setD_succ h] at g2
      simp (implicitDefEqProofs := false) [t1, t3, t4, t6, h', g0, storeA, cellsOf, setL, setD_length, g1, g2]
      rw [hQ1]
      simp (implicitDefEqProofs := false)
      refine ⟨D.length - (i + 1), by omega, i + 1, ?_, by omega, ⟨by simp [t1], by simp [t3], by simp [t4], re, .arr (H.length + 5) D.length, oe, _, rfl, ne, .inr ⟨by rw [setD_length], rfl⟩⟩, rfl⟩
      simp [wrap_nat (n := i) (by omega)]
    · have h' : ¬ (i : Int) < D.length := by omega
      have e : i = D.length := by omega
      have hlen : lenV false rd = some (.int .i64 D.length) := by
        rcases nd with ⟨rfl, hn⟩ | ⟨rfl, rfl⟩
        · have := setD_length D i
          rw [hn] at this
          simp at this
          rw [← this]; rfl
        · rw [setD_length]; rfl
      simp (implicitDefEqProofs := false) [t1, t3, t4, t6, h', hlen]
      rw [hQ1]
      simp (implicitDefEqProofs := false)
      rw [e] at nd
      exact ⟨by simp [t1], by simp [t3], by simp [t4], re, rd, oe, od, rfl, ne, nd⟩
  clear h2 t H'
  rintro t H' ⟨t1, t3, t4, re, rd, oe, od, rfl, ne, nd⟩
  have aE : ∀ L, Es C (H ++ some ⟨[xe, xd], 27⟩ :: some ⟨entC E, 40⟩ :: some ⟨intC D, 3⟩ :: some ⟨[.arr (H.length + 1) E.length, .arr (H.length + 2) D.length], 27⟩ :: oe :: od :: L) (.arr (H.length + 1) E.length) E := fun L => Es.arr (ty := 40) (by simp)
  have aD : ∀ L, Ds C (H ++ some ⟨[xe, xd], 27⟩ :: some ⟨entC E, 40⟩ :: some ⟨intC D, 3⟩ :: some ⟨[.arr (H.length + 1) E.length, .arr (H.length + 2) D.length], 27⟩ :: oe :: od :: L) (.arr (H.length + 2) D.length) D := fun L => Ds.arr (ty := 3) (by simp)
  refine FWx_sound ?_
  simp (implicitDefEqProofs := false) [t1, t3, t4]
  refine FWtreeR_callR rfl (by simp) (same_calls C hP (.arr (H.length + 1) E.length) (.arr (H.length + 2) D.length) xe xd E E D D _ (aE _) (aD _) (eE _) (eD _) (by omega) (by omega)) ?_
  rintro v H' ⟨rfl, rfl⟩
  refine ⟨by simp, ?_⟩
  simp (implicitDefEqProofs := false) [t1, t3, t4]
  refine FWtreeR_callR rfl (by simp) (erase_calls C hP (.arr (H.length + 1) E.length) (.arr (H.length + 2) D.length) E D _ (aE _) (aD _) (by omega) (by omega)) ?_
  rintro v H' ⟨re1, rd1, oe1, od1, rfl, rfl, ne1, nd1⟩
  have ne1 : NewE re1 oe1 (H.length + 21) (noTier E) := by simpa using ne1
  have nd1 : NewD rd1 od1 (H.length + 22) D := by simpa using nd1
  refine ⟨by simp, ?_⟩
  simp (implicitDefEqProofs := false) [t1, t3, t4]
  refine FWtreeR_callR rfl (by simp) (rerase_calls C hP xe xd E D _ (eE _) (eD _) (by omega) (by omega)) ?_
  rintro v H' ⟨re2, oe2, rfl, rfl, ne2⟩
  have ne2 : NewE re2 oe2 (H.length + 23) (noTier E) := by simpa using ne2
  refine ⟨by simp, ?_⟩
  simp (implicitDefEqProofs := false) [t1, t3, t4]
  refine FWtreeR_callR rfl (by simp) (same_calls C hP re1 rd1 re2 (.arr (H.length + 24) D.length) (noTier E) (noTier E) D D _ (ne1.es (by simp)) (nd1.ds (by simp)) (ne2.es (by simp)) (Ds.arr (ty := 3) (by simp)) (by omega) (by omega)) ?_
  rintro v H' ⟨rfl, rfl⟩
  refine ⟨by simp, ?_⟩
  simp (implicitDefEqProofs := false) [t1, t3, t4]
  refine FWtreeR_callR rfl (by simp) ((live_calls C hP).forget (by simp [ltL]) (by rintro v H1 rfl; simp [AVal.lt])) ?_
  rintro v H1 ⟨⟨_, rfl⟩, rfl⟩
  refine ⟨by simp, ?_⟩
  simp (implicitDefEqProofs := false)
  rw [← hQ]
  refine retQ_ret (by simp) ?_
  simp [e4]

end Go.Proofs.Ytfbkogaijopcgaa
