/-
  OWN WORK (an AI agent). Part L21m of a walk by simplification over abstract heaps.
-/
import Derived.Test.YtfbkogaijopcgaaFL21l
import Derived.Test.YtfbkogaijopcgaaFL21e
set_option linter.all false
set_option linter.unusedSimpArgs false
set_option linter.unusedVariables false
set_option maxRecDepth 20000
namespace Go.Proofs.Ytfbkogaijopcgaa
open Go.F Go.RowKit

/-! what a parse hands back -/
def pE (A : List Int) : List Ent := if (parse A).e = 0 then (parse A).es else []
def pD (A : List Int) : List Int := if (parse A).e = 0 then (parse A).ds else []
def pK (A : List Int) : Nat := if (parse A).e = 0 then A.length else (parse A).k

theorem Base.app {C : Ctx} {H : AHeap} {x : AVal} {l : List Int} (h : Base C H x l) (L : AHeap) : Base C (H ++ L) x l := ⟨h.b.app, AVal.lt_mono (by simp) h.lt, h.len, h.ok⟩

theorem num_calls (C : Ctx) (hP : C.P = Try.prog) (H : AHeap) (n : Int) : FCalls C 7 [.int .i64 n] H (fun v H' => v = .int .i64 n ∧ H' = H) := by
  refine FCalls.entry (hP ▸ v7) (by simp [e7]) fun hw _ => FWx_sound (FWx.hide fun Q hQ => ?_)
  simp (implicitDefEqProofs := false) [e7, c7]
  rw [hQ]
  refine retQ_ret (by simp) ?_
  simp [e7]

theorem parse_calls' (C : Ctx) (hP : C.P = Try.prog) {H : AHeap} {xb : AVal} {bs : List Int} (hB : Base C H xb bs) (hl : bs.length ≤ 9000) :
    FCalls C 6 [xb] H (fun v H' => ∃ ve vd oe od, v = .tup [.agg [ve, vd], .int .i64 (parse bs).e, .int .i64 (pK bs)] ∧ H' = H ++ [oe, od] ∧ NewE ve oe H.length (pE bs) ∧ NewD vd od (H.length + 1) (pD bs)) :=
  (parse_calls C hP hB hl).mono fun v H' ⟨ve, vd, oe, od, h1, h2, h3, h4⟩ => ⟨ve, vd, oe, od, by
    rw [h2]
    unfold pK
    by_cases h : (parse bs).e = 0
    · rw [if_pos h, if_pos h]
    · rw [if_neg h, if_neg h], h1, h3, h4⟩

theorem bApp {C : Ctx} {H : AHeap} {xb : AVal} {bs : List Int} (hB : Base C H xb bs) (L : AHeap) : srcCells C (H ++ L) 1 xb = some (bs.length, byteC bs) := hB.b.app.src

theorem base_arr {C : Ctx} {H : AHeap} {id n ty : Nat} {l : List Int} {cs : List AVal} (hg : hget H id = some ⟨cs, ty⟩) (hc : cs = byteC l) (hn : n = l.length) (hl : l.length ≤ 1000000) (ho : okB l) : Base C H (.arr id n) l := by
  subst hc hn
  exact ⟨Bs.arr _ hg, by simp only [AVal.lt]; exact hget_lt hg, hl, ho⟩

theorem parse_bd : ∀ (n : Nat) (a : List Int), a.length ≤ n → (parse a).k ≤ a.length ∧ (parse a).es.length ≤ a.length ∧ (parse a).ds.length ≤ a.length
  | 0, a, hn => by
    have : a = [] := List.length_eq_zero_iff.1 (by omega)
    subst this
    simp [parse_nil]
  | n + 1, a, hn => by
    have i1 : (oneM a).2.es.length ≤ 1 := by cases (oneM a).2 <;> simp [Item.es]
    have i2 : (oneM a).2.ds.length ≤ 1 := by cases (oneM a).2 <;> simp [Item.ds]
    by_cases h1 : a = []
    · subst h1; simp [parse_nil]
    · have hl : a.length ≠ 0 := fun h => h1 (List.length_eq_zero_iff.1 h)
      by_cases h2 : (oneM a).1.2 = 0
      · rw [parse_step h1 h2]
        have hp := oneM_pos h2
        obtain ⟨q1, q2, q3⟩ := parse_bd n (a.drop (oneM a).1.1) (by simp; omega)
        simp only [Out.put, List.length_append]
        simp only [List.length_drop] at q1 q2 q3
        omega
      · rw [parse_bad h1 h2]
        have := oneM_le a
        simp only
        omega

theorem picks_app (E F : List Ent) : picks (E ++ F) = picks E + picks F := by
  unfold picks
  rw [List.countP_append]

theorem NewE.fresh {x : AVal} {o : Option ABlk} {n m : Nat} {l : List Ent} (h : NewE x o n l) (hm : n < m) : m ∉ idA x := by
  rcases h with ⟨rfl, rfl⟩ | ⟨rfl, rfl⟩ <;> simp [idA]; omega
theorem NewD.fresh {x : AVal} {o : Option ABlk} {n m : Nat} {l : List Int} (h : NewD x o n l) (hm : n < m) : m ∉ idA x := by
  rcases h with ⟨rfl, rfl⟩ | ⟨rfl, rfl⟩ <;> simp [idA]; omega
theorem entC_app (l m : List Ent) : entC (l ++ m) = entC l ++ entC m := by simp [entC]
theorem intC_app (l m : List Int) : intC (l ++ m) = intC l ++ intC m := by simp [intC]

/-- after three parses -/
def SJ (H : AHeap) (xa xb : AVal) (A B : List Int) (t : Fr) (H' : AHeap) : Prop :=
  ∃ va1 vd1 va2 vd2 va3 vd3 oe1 od1 oe2 od2 oe3 od3, t 0 = xa ∧ t 1 = xb ∧ t 5 = .ptr (.loc (H.length + 2) 0) ∧ t 6 = .int .i64 (parse A).e ∧ t 7 = .int .i64 (pK A) ∧
    t 8 = .ptr (.loc (H.length + 5) 0) ∧ t 9 = .int .i64 (parse B).e ∧ t 10 = .int .i64 (pK B) ∧ t 11 = .ptr (.loc (H.length + 8) 0) ∧ t 12 = .int .i64 (parse (A ++ B)).e ∧ t 13 = .int .i64 (pK (A ++ B)) ∧
    H' = H ++ [oe1, od1, some ⟨[va1, vd1], 27⟩, oe2, od2, some ⟨[va2, vd2], 27⟩, oe3, od3, some ⟨[va3, vd3], 27⟩] ∧
    NewE va1 oe1 H.length (pE A) ∧ NewD vd1 od1 (H.length + 1) (pD A) ∧ NewE va2 oe2 (H.length + 3) (pE B) ∧ NewD vd2 od2 (H.length + 4) (pD B) ∧ NewE va3 oe3 (H.length + 6) (pE (A ++ B)) ∧ NewD vd3 od3 (H.length + 7) (pD (A ++ B))

/-- behind the joined copy -/
def SR (H : AHeap) (xa xb : AVal) (A B : List Int) (t : Fr) (H' : AHeap) : Prop :=
  ∃ va1 vd1 va2 vd2 va3 vd3 vr vq oe1 od1 oe2 od2 oe3 od3 oer oed, t 0 = xa ∧ t 1 = xb ∧ t 5 = .ptr (.loc (H.length + 2) 0) ∧ 
    t 8 = .ptr (.loc (H.length + 5) 0) ∧ t 11 = .ptr (.loc (H.length + 8) 0) ∧ t 12 = .int .i64 (parse (A ++ B)).e ∧ t 13 = .int .i64 (pK (A ++ B)) ∧ t 14 = .ptr (.loc (H.length + 11) 0) ∧
    H' = H ++ [oe1, od1, some ⟨[va1, vd1], 27⟩, oe2, od2, some ⟨[va2, vd2], 27⟩, oe3, od3, some ⟨[va3, vd3], 27⟩, oer, oed, some ⟨[vr, vq], 27⟩] ∧
    NewE va1 oe1 H.length (pE A) ∧ NewD vd1 od1 (H.length + 1) (pD A) ∧ NewE va2 oe2 (H.length + 3) (pE B) ∧ NewD vd2 od2 (H.length + 4) (pD B) ∧ NewE va3 oe3 (H.length + 6) (pE (A ++ B)) ∧ NewD vd3 od3 (H.length + 7) (pD (A ++ B)) ∧
    NewE vr oer (H.length + 9) (pE A ++ pE B) ∧ NewD vq oed (H.length + 10) (pD A ++ pD B)

set_option maxHeartbeats 4000000 in
theorem joins_calls (C : Ctx) (hP : C.P = Try.prog) {H : AHeap} {xa xb : AVal} {A B : List Int} (hA0 : Bs C H xa A) (hB0 : Bs C H xb B) (ltA : xa.lt H.length) (ltB : xb.lt H.length) (okA : okB A) (okBB : okB B) :
    FCalls C 3 [xa, xb] H (fun v _ => v = .bool true) := by
  refine FCalls.entry (hP ▸ v3) (by simp [e3]) fun hw ha => ?_
  generalize hQ : retQ _ _ _ = Q
  have hxa : ∀ ks, renV (keepAt H.length ks) xa = xa := fun ks => renV_keepAt ltA
  have hxb : ∀ ks, renV (keepAt H.length ks) xb = xb := fun ks => renV_keepAt ltB
  show FW _ c3 _ _ _
  unfold c3
  refine FW.seq' ?_
  simp (implicitDefEqProofs := false) [e3, boxA, cellsOf]
  by_cases hm : 3000 < A.length ∨ 3000 < B.length
  · refine FW.seq' ?_
    have hm' : (3000 : Int) < A.length ∨ (3000 : Int) < B.length := by omega
    by_cases h1 : (3000 : Int) < A.length
    · simp (implicitDefEqProofs := false) [hA0.lenV, hB0.lenV, h1]
      refine FWops_callR rfl (by simp) ((live_calls C hP).forget (by simp [ltL]) (by rintro v H1 rfl; simp [AVal.lt])) ?_
      rintro v H1 ⟨⟨_, rfl⟩, rfl⟩
      simp (implicitDefEqProofs := false)
      rw [← hQ]
      refine retQ_ret (by simp) ?_
      simp [e3]
    · have h2 : (3000 : Int) < B.length := by omega
      simp (implicitDefEqProofs := false) [hA0.lenV, hB0.lenV, h1, h2]
      refine FWops_callR rfl (by simp) ((live_calls C hP).forget (by simp [ltL]) (by rintro v H1 rfl; simp [AVal.lt])) ?_
      rintro v H1 ⟨⟨_, rfl⟩, rfl⟩
      simp (implicitDefEqProofs := false)
      rw [← hQ]
      refine retQ_ret (by simp) ?_
      simp [e3]
  have la : A.length ≤ 3000 := by omega
  have lb : B.length ≤ 3000 := by omega
  have hA : Base C H xa A := ⟨hA0, ltA, by omega, okA⟩
  have hB : Base C H xb B := ⟨hB0, ltB, by omega, okBB⟩
  have aA : ∀ L, Base C (H ++ L) xa A := fun L => hA.app L
  have aB : ∀ L, Base C (H ++ L) xb B := fun L => hB.app L
  have h1 : ¬ (3000 : Int) < A.length := by omega
  have h2 : ¬ (3000 : Int) < B.length := by omega
  refine FW.seq' ?_
  simp (implicitDefEqProofs := false) [hA.b.lenV, hB.b.lenV, h1, h2]
  refine FW.seq' ?_
  simp (implicitDefEqProofs := false)
  refine FWops_callR rfl (by simp) (parse_calls' C hP hA (by omega)) ?_
  rintro v H' ⟨va1, vd1, oe1, od1, rfl, rfl, nE1, nD1⟩
  simp (implicitDefEqProofs := false) [cellsOf, storeA, setL, nE1.sc, nD1.sc]
  refine FW.seq' ?_
  simp (implicitDefEqProofs := false)
  refine FWops_callR rfl (by simp) (parse_calls' C hP (aB _) (by omega)) ?_
  rintro v H' ⟨va2, vd2, oe2, od2, rfl, rfl, nE2, nD2⟩
  simp (implicitDefEqProofs := false) [cellsOf, storeA, setL, nE2.sc, nD2.sc]
  refine FW.cutN (SJ H xa xb A B) ?_ ?_
  · have sA : ∀ L, srcCells C (H ++ L) 1 xa = some (A.length, byteC A) := fun L => (aA L).b.src
    have sB : ∀ L, srcCells C (H ++ L) 1 xb = some (B.length, byteC B) := fun L => (aB L).b.src
    have cA : A.length ≤ 140737488355328 := by omega
    have cB : B.length ≤ 140737488355328 := by omega
    have cAB : A.length + B.length ≤ 140737488355328 := by omega
    have tk : List.take A.length (byteC A) = byteC A := List.take_of_length_le (by rw [byteC_length]; exact Nat.le_refl _)
    have i1 := idA_new hA.lt
    have i2 := idA_new hB.lt
    have hsA := byteC_scalar A
    have hsB := byteC_scalar B
    have okAB : okB (A ++ B) := fun c hc => (List.mem_append.1 hc).elim (hA.ok c) (hB.ok c)
    have lAB : (A ++ B).length ≤ 1000000 := by simp; omega
    have nE2' : NewE va2 oe2 (H.length + 3) (pE B) := by simpa using nE2
    have nD2' : NewD vd2 od2 (H.length + 4) (pD B) := by simpa using nD2
    by_cases n1 : A.length = 0
    · have n1' : A = [] := List.length_eq_zero_iff.1 n1
      have e1 : byteC A = [] := by rw [n1']; rfl
      by_cases n2 : B.length = 0
      · have n2' : B = [] := List.length_eq_zero_iff.1 n2
        have e2 : byteC B = [] := by rw [n2']; rfl
        simp (implicitDefEqProofs := false) [evalP, fillA, cellsOf, setAt, appendE, appendA, sA, sB, hsA, hsB, storeA, setL, i1, i2, n1, n2, byteC_length, e1, e2]
        refine FWops_callR rfl (by simp) (parse_calls' C hP (bs := A ++ B) (base_arr (id := H.length + 6) (ty := 5) (cs := []) (n := 0) (by simp) (by simp [n1', n2', byteC]) (by simp [n1, n2]) lAB okAB) (by simp; omega)) ?_
        rintro v H' ⟨va3, vd3, oe3, od3, rfl, rfl, nE3, nD3⟩
        have nE3' : NewE va3 oe3 (H.length + 7) (pE (A ++ B)) := by simpa using nE3
        have nD3' : NewD vd3 od3 (H.length + 8) (pD (A ++ B)) := by simpa using nD3
        simp (implicitDefEqProofs := false) [evalP, fillA, cellsOf, storeA, setL, nE3'.sc, nD3'.sc]
        refine cutN_end (H1 := H) [0, 1, 2, 3, 4, 5, 7, 8, 9] rfl (Nat.le_refl _) (by simp) (by simp) hw ?_
        refine ⟨_, _, _, _, _, _, _, _, _, _, _, _, by simp [hxa], by simp [hxb], by simp, by simp, by simp, by simp, by simp, by simp, by simp, by simp, by simp, by simp; exact ⟨rfl, rfl, ⟨rfl, rfl⟩, rfl, rfl, ⟨rfl, rfl⟩, rfl, rfl, rfl, rfl⟩, ?_⟩
        exact ⟨NewE.ren (j := 0) (k := 0) nE1 (by simp), nD1.ren (by simp), nE2'.ren (by simp), nD2'.ren (by simp), nE3'.ren (by simp), nD3'.ren (by simp)⟩
      · simp (implicitDefEqProofs := false) [evalP, fillA, cellsOf, setAt, appendE, appendA, sA, sB, hsA, hsB, storeA, setL, i1, i2, n1, n2, byteC_length, cB, e1]
        refine FWops_callR rfl (by simp) (parse_calls' C hP (bs := A ++ B) (base_arr (id := H.length + 7) (ty := 5) (cs := byteC B) (n := B.length) (by simp) (by simp [byteC, n1']) (by simp [n1, n2]) lAB okAB) (by simp; omega)) ?_
        rintro v H' ⟨va3, vd3, oe3, od3, rfl, rfl, nE3, nD3⟩
        have nE3' : NewE va3 oe3 (H.length + 8) (pE (A ++ B)) := by simpa using nE3
        have nD3' : NewD vd3 od3 (H.length + 9) (pD (A ++ B)) := by simpa using nD3
        simp (implicitDefEqProofs := false) [evalP, fillA, cellsOf, storeA, setL, nE3'.sc, nD3'.sc]
        refine cutN_end (H1 := H) [0, 1, 2, 3, 4, 5, 8, 9, 10] rfl (Nat.le_refl _) (by simp) (by simp) hw ?_
        refine ⟨_, _, _, _, _, _, _, _, _, _, _, _, by simp [hxa], by simp [hxb], by simp, by simp, by simp, by simp, by simp, by simp, by simp, by simp, by simp, by simp; exact ⟨rfl, rfl, ⟨rfl, rfl⟩, rfl, rfl, ⟨rfl, rfl⟩, rfl, rfl, rfl, rfl⟩, ?_⟩
        exact ⟨NewE.ren (j := 0) (k := 0) nE1 (by simp), nD1.ren (by simp), nE2'.ren (by simp), nD2'.ren (by simp), nE3'.ren (by simp), nD3'.ren (by simp)⟩
    · by_cases n2 : B.length = 0
      · have n2' : B = [] := List.length_eq_zero_iff.1 n2
        have e2 : byteC B = [] := by rw [n2']; rfl
        simp (implicitDefEqProofs := false) [evalP, fillA, cellsOf, setAt, appendE, appendA, sA, sB, hsA, hsB, storeA, setL, i1, i2, n1, n2, byteC_length, cA, e2]
        refine FWops_callR rfl (by simp) (parse_calls' C hP (bs := A ++ B) (base_arr (id := H.length + 7) (ty := 5) (cs := byteC A) (n := A.length) (by simp) (by simp [byteC, n2']) (by simp [n1, n2]) lAB okAB) (by simp; omega)) ?_
        rintro v H' ⟨va3, vd3, oe3, od3, rfl, rfl, nE3, nD3⟩
        have nE3' : NewE va3 oe3 (H.length + 8) (pE (A ++ B)) := by simpa using nE3
        have nD3' : NewD vd3 od3 (H.length + 9) (pD (A ++ B)) := by simpa using nD3
        simp (implicitDefEqProofs := false) [evalP, fillA, cellsOf, storeA, setL, nE3'.sc, nD3'.sc]
        refine cutN_end (H1 := H) [0, 1, 2, 3, 4, 5, 8, 9, 10] rfl (Nat.le_refl _) (by simp) (by simp) hw ?_
        refine ⟨_, _, _, _, _, _, _, _, _, _, _, _, by simp [hxa], by simp [hxb], by simp, by simp, by simp, by simp, by simp, by simp, by simp, by simp, by simp, by simp; exact ⟨rfl, rfl, ⟨rfl, rfl⟩, rfl, rfl, ⟨rfl, rfl⟩, rfl, rfl, rfl, rfl⟩, ?_⟩
        exact ⟨NewE.ren (j := 0) (k := 0) nE1 (by simp), nD1.ren (by simp), nE2'.ren (by simp), nD2'.ren (by simp), nE3'.ren (by simp), nD3'.ren (by simp)⟩
      · have cN : ¬ A.length + B.length ≤ A.length := by omega
        simp (implicitDefEqProofs := false) [evalP, fillA, cellsOf, setAt, appendE, appendA, sA, sB, hsA, hsB, storeA, setL, i1, i2, n1, n2, byteC_length, cA, cB, cAB, cN, tk]
        refine FWops_callR rfl (by simp) (parse_calls' C hP (bs := A ++ B) (base_arr (id := H.length + 8) (ty := 5) (cs := byteC A ++ byteC B) (n := A.length + B.length) (by simp) (by simp [byteC]) (by simp [n1, n2]) lAB okAB) (by simp; omega)) ?_
        rintro v H' ⟨va3, vd3, oe3, od3, rfl, rfl, nE3, nD3⟩
        have nE3' : NewE va3 oe3 (H.length + 9) (pE (A ++ B)) := by simpa using nE3
        have nD3' : NewD vd3 od3 (H.length + 10) (pD (A ++ B)) := by simpa using nD3
        simp (implicitDefEqProofs := false) [evalP, fillA, cellsOf, storeA, setL, nE3'.sc, nD3'.sc]
        refine cutN_end (H1 := H) [0, 1, 2, 3, 4, 5, 9, 10, 11] rfl (Nat.le_refl _) (by simp) (by simp) hw ?_
        refine ⟨_, _, _, _, _, _, _, _, _, _, _, _, by simp [hxa], by simp [hxb], by simp, by simp, by simp, by simp, by simp, by simp, by simp, by simp, by simp, by simp; exact ⟨rfl, rfl, ⟨rfl, rfl⟩, rfl, rfl, ⟨rfl, rfl⟩, rfl, rfl, rfl, rfl⟩, ?_⟩
        exact ⟨NewE.ren (j := 0) (k := 0) nE1 (by simp), nD1.ren (by simp), nE2'.ren (by simp), nD2'.ren (by simp), nE3'.ren (by simp), nD3'.ren (by simp)⟩
  clear nE1 nD1 nE2 nD2 va1 vd1 oe1 od1 va2 vd2 oe2 od2
  rintro t H' ⟨va1, vd1, va2, vd2, va3, vd3, oe1, od1, oe2, od2, oe3, od3, t0, t1, t5, t6, t7, t8, t9, t10, t11, t12, t13, rfl, nE1, nD1, nE2, nD2, nE3, nD3⟩
  have bdA := parse_bd _ A (Nat.le_refl _)
  have bdB := parse_bd _ B (Nat.le_refl _)
  by_cases he : (parse A).e = 0
  rotate_left
  · refine FW.seq' ?_
    simp (implicitDefEqProofs := false) [t6]
    refine FWops_callR rfl (by simp) (num_calls C hP _ (parse A).e) ?_
    rintro v H' ⟨rfl, rfl⟩
    simp (implicitDefEqProofs := false) [he]
    refine FWops_callR rfl (by simp) ((live_calls C hP).forget (by simp [ltL]) (by rintro v H1 rfl; simp [AVal.lt])) ?_
    rintro v H1 ⟨⟨_, rfl⟩, rfl⟩
    simp (implicitDefEqProofs := false)
    rw [← hQ]
    refine retQ_ret (by simp) ?_
    simp [e3]
  have hp := parse_app B _ A (Nat.le_refl _) he
  have kB : pK B ≤ B.length := by unfold pK; split <;> omega
  refine FW.seq' ?_
  simp (implicitDefEqProofs := false) [t6]
  refine FWops_callR rfl (by simp) (num_calls C hP _ (parse A).e) ?_
  rintro v H' ⟨rfl, rfl⟩
  simp (implicitDefEqProofs := false) [he]
  by_cases hf : (parse B).e = 0
  rotate_left
  · refine FW.seq' ?_
    have hg : (parse (A ++ B)).e = (parse B).e := by rw [hp]
    have hk : pK (A ++ B) = pK B + A.length := by
      unfold pK
      rw [hg, if_neg hf, if_neg hf, hp]
      simp only
      omega
    have hk' : IntKind.i64.wrap ((pK B : Int) + A.length) = (pK (A ++ B) : Nat) := by
      rw [IntWalk.i64_in _ (by omega), hk]; omega
    simp (implicitDefEqProofs := false) [t9]
    refine FWops_callR rfl (by simp) (num_calls C hP _ (parse B).e) ?_
    rintro v H' ⟨rfl, rfl⟩
    simp (implicitDefEqProofs := false) [hf, t12]
    refine FWops_callR rfl (by simp) (num_calls C hP _ (parse (A ++ B)).e) ?_
    rintro v H' ⟨rfl, rfl⟩
    simp (implicitDefEqProofs := false) [hf, t9]
    refine FWops_callR rfl (by simp) (num_calls C hP _ (parse B).e) ?_
    rintro v H' ⟨rfl, rfl⟩
    simp (implicitDefEqProofs := false) [hf, hg, t0, t10, t13, hA.b.lenV, hk']
    refine FWops_callR rfl (by simp) ((live_calls C hP).forget (by simp [ltL]) (by rintro v H1 rfl; simp [AVal.lt])) ?_
    rintro v H1 ⟨⟨_, rfl⟩, rfl⟩
    simp (implicitDefEqProofs := false)
    rw [← hQ]
    refine retQ_ret (by simp) ?_
    simp [e3]
  refine FW.seq' ?_
  simp (implicitDefEqProofs := false) [t9]
  refine FWops_callR rfl (by simp) (num_calls C hP _ (parse B).e) ?_
  rintro v H' ⟨rfl, rfl⟩
  simp (implicitDefEqProofs := false) [hf]
  refine FW.cutN (SR H xa xb A B) ?_ ?_
  · have gE1 : ∀ L, srcCells C (H ++ oe1 :: od1 :: some ⟨[va1, vd1], 27⟩ :: oe2 :: od2 :: some ⟨[va2, vd2], 27⟩ :: oe3 :: od3 :: some ⟨[va3, vd3], 27⟩ :: L) 6 va1 = some ((pE A).length, entC (pE A)) := fun L => (nE1.es (by simp)).src
    have gD1 : ∀ L, srcCells C (H ++ oe1 :: od1 :: some ⟨[va1, vd1], 27⟩ :: oe2 :: od2 :: some ⟨[va2, vd2], 27⟩ :: oe3 :: od3 :: some ⟨[va3, vd3], 27⟩ :: L) 1 vd1 = some ((pD A).length, intC (pD A)) := fun L => (nD1.ds (by simp)).src
    have gE2 : ∀ L, srcCells C (H ++ oe1 :: od1 :: some ⟨[va1, vd1], 27⟩ :: oe2 :: od2 :: some ⟨[va2, vd2], 27⟩ :: oe3 :: od3 :: some ⟨[va3, vd3], 27⟩ :: L) 6 va2 = some ((pE B).length, entC (pE B)) := fun L => (nE2.es (by simp)).src
    have gD2 : ∀ L, srcCells C (H ++ oe1 :: od1 :: some ⟨[va1, vd1], 27⟩ :: oe2 :: od2 :: some ⟨[va2, vd2], 27⟩ :: oe3 :: od3 :: some ⟨[va3, vd3], 27⟩ :: L) 1 vd2 = some ((pD B).length, intC (pD B)) := fun L => (nD2.ds (by simp)).src
    have lE1 : (pE A).length ≤ 3000 := by unfold pE; split <;> first | omega | exact Nat.zero_le _
    have lE2 : (pE B).length ≤ 3000 := by unfold pE; split <;> first | omega | exact Nat.zero_le _
    have lD1 : (pD A).length ≤ 3000 := by unfold pD; split <;> first | omega | exact Nat.zero_le _
    have lD2 : (pD B).length ≤ 3000 := by unfold pD; split <;> first | omega | exact Nat.zero_le _
    have i1 : ∀ k, H.length + (k + 9) ∉ idA va1 := fun k => nE1.fresh (by omega)
    have i2 : ∀ k, H.length + (k + 9) ∉ idA va2 := fun k => nE2.fresh (by omega)
    have i3 : ∀ k, H.length + (k + 9) ∉ idA vd1 := fun k => nD1.fresh (by omega)
    have i4 : ∀ k, H.length + (k + 9) ∉ idA vd2 := fun k => nD2.fresh (by omega)
    generalize hpe1 : pE A = E1 at *
    generalize hpe2 : pE B = E2 at *
    generalize hpd1 : pD A = D1 at *
    generalize hpd2 : pD B = D2 at *
    have hs1 := entC_scalar E1
    have hs2 := entC_scalar E2
    have hs3 := intC_scalar D1
    have hs4 := intC_scalar D2
    have b1 : E1.length * 48 ≤ 140737488355328 := by omega
    have b2 : E2.length * 48 ≤ 140737488355328 := by omega
    have b12 : (E1.length + E2.length) * 48 ≤ 140737488355328 := by omega
    have b3 : D1.length * 8 ≤ 140737488355328 := by omega
    have b4 : D2.length * 8 ≤ 140737488355328 := by omega
    have b34 : (D1.length + D2.length) * 8 ≤ 140737488355328 := by omega
    have tk1 : List.take (E1.length * 6) (entC E1) = entC E1 := List.take_of_length_le (by rw [entC_length]; exact Nat.le_refl _)
    have tk2 : List.take D1.length (intC D1) = intC D1 := List.take_of_length_le (by rw [intC_length]; exact Nat.le_refl _)
    by_cases n1 : E1.length = 0
    · by_cases n2 : E2.length = 0
      · by_cases n3 : D1.length = 0
        · by_cases n4 : D2.length = 0
          · have z1 : E1 = [] := List.length_eq_zero_iff.1 n1
            have y1 : entC E1 = [] := by rw [z1]; rfl
            have z2 : E2 = [] := List.length_eq_zero_iff.1 n2
            have y2 : entC E2 = [] := by rw [z2]; rfl
            have z3 : D1 = [] := List.length_eq_zero_iff.1 n3
            have y3 : intC D1 = [] := by rw [z3]; rfl
            have z4 : D2 = [] := List.length_eq_zero_iff.1 n4
            have y4 : intC D2 = [] := by rw [z4]; rfl
            simp (implicitDefEqProofs := false) [t5, t8, evalP, fillA, cellsOf, setAt, appendE, appendA, gE1, gE2, gD1, gD2, hs1, hs2, hs3, hs4, entC_length, intC_length, storeA, setL, i1, i2, i3, i4, n1, n2, n3, n4, y1, y2, y3, y4]
            refine cutN_end (H1 := H) [0, 1, 2, 3, 4, 5, 6, 7, 8, 9, 16, 24] rfl (Nat.le_refl _) (by simp) (by simp) hw ?_
            refine ⟨_, _, _, _, _, _, .arr (H.length + 9) (E1 ++ E2).length, .arr (H.length + 10) (D1 ++ D2).length, _, _, _, _, _, _, some ⟨entC (E1 ++ E2), 40⟩, some ⟨intC (D1 ++ D2), 3⟩, by simp [t0, hxa], by simp [t1, hxb], by simp [t5], by simp [t8], by simp [t11], by simp [t12], by simp [t13], by simp, by simp [entC_app, intC_app, ren_append, n1, n2, n3, n4, y1, y2, y3, y4]; exact ⟨rfl, rfl, ⟨rfl, rfl⟩, rfl, rfl, ⟨rfl, rfl⟩, rfl, rfl, rfl, rfl⟩, ?_⟩
            rw [hpe1, hpe2, hpd1, hpd2]
            exact ⟨NewE.ren (j := 0) (k := 0) nE1 (by simp), nD1.ren (by simp), nE2.ren (by simp), nD2.ren (by simp), nE3.ren (by simp), nD3.ren (by simp), .inr ⟨rfl, rfl⟩, .inr ⟨rfl, rfl⟩⟩
          · have z1 : E1 = [] := List.length_eq_zero_iff.1 n1
            have y1 : entC E1 = [] := by rw [z1]; rfl
            have z2 : E2 = [] := List.length_eq_zero_iff.1 n2
            have y2 : entC E2 = [] := by rw [z2]; rfl
            have z3 : D1 = [] := List.length_eq_zero_iff.1 n3
            have y3 : intC D1 = [] := by rw [z3]; rfl
            simp (implicitDefEqProofs := false) [t5, t8, evalP, fillA, cellsOf, setAt, appendE, appendA, gE1, gE2, gD1, gD2, hs1, hs2, hs3, hs4, entC_length, intC_length, storeA, setL, i1, i2, i3, i4, n1, n2, n3, n4, b4, y1, y2, y3]
            refine cutN_end (H1 := H) [0, 1, 2, 3, 4, 5, 6, 7, 8, 9, 22, 24] rfl (Nat.le_refl _) (by simp) (by simp) hw ?_
            refine ⟨_, _, _, _, _, _, .arr (H.length + 9) (E1 ++ E2).length, .arr (H.length + 10) (D1 ++ D2).length, _, _, _, _, _, _, some ⟨entC (E1 ++ E2), 40⟩, some ⟨intC (D1 ++ D2), 3⟩, by simp [t0, hxa], by simp [t1, hxb], by simp [t5], by simp [t8], by simp [t11], by simp [t12], by simp [t13], by simp, by simp [entC_app, intC_app, ren_append, n1, n2, n3, n4, y1, y2, y3]; exact ⟨rfl, rfl, ⟨rfl, rfl⟩, rfl, rfl, ⟨rfl, rfl⟩, rfl, rfl, rfl, rfl⟩, ?_⟩
            rw [hpe1, hpe2, hpd1, hpd2]
            exact ⟨NewE.ren (j := 0) (k := 0) nE1 (by simp), nD1.ren (by simp), nE2.ren (by simp), nD2.ren (by simp), nE3.ren (by simp), nD3.ren (by simp), .inr ⟨rfl, rfl⟩, .inr ⟨rfl, rfl⟩⟩
        · by_cases n4 : D2.length = 0
          · have z1 : E1 = [] := List.length_eq_zero_iff.1 n1
            have y1 : entC E1 = [] := by rw [z1]; rfl
            have z2 : E2 = [] := List.length_eq_zero_iff.1 n2
            have y2 : entC E2 = [] := by rw [z2]; rfl
            have z4 : D2 = [] := List.length_eq_zero_iff.1 n4
            have y4 : intC D2 = [] := by rw [z4]; rfl
            simp (implicitDefEqProofs := false) [t5, t8, evalP, fillA, cellsOf, setAt, appendE, appendA, gE1, gE2, gD1, gD2, hs1, hs2, hs3, hs4, entC_length, intC_length, storeA, setL, i1, i2, i3, i4, n1, n2, n3, n4, b3, y1, y2, y4]
            refine cutN_end (H1 := H) [0, 1, 2, 3, 4, 5, 6, 7, 8, 9, 19, 24] rfl (Nat.le_refl _) (by simp) (by simp) hw ?_
            refine ⟨_, _, _, _, _, _, .arr (H.length + 9) (E1 ++ E2).length, .arr (H.length + 10) (D1 ++ D2).length, _, _, _, _, _, _, some ⟨entC (E1 ++ E2), 40⟩, some ⟨intC (D1 ++ D2), 3⟩, by simp [t0, hxa], by simp [t1, hxb], by simp [t5], by simp [t8], by simp [t11], by simp [t12], by simp [t13], by simp, by simp [entC_app, intC_app, ren_append, n1, n2, n3, n4, y1, y2, y4]; exact ⟨rfl, rfl, ⟨rfl, rfl⟩, rfl, rfl, ⟨rfl, rfl⟩, rfl, rfl, rfl, rfl⟩, ?_⟩
            rw [hpe1, hpe2, hpd1, hpd2]
            exact ⟨NewE.ren (j := 0) (k := 0) nE1 (by simp), nD1.ren (by simp), nE2.ren (by simp), nD2.ren (by simp), nE3.ren (by simp), nD3.ren (by simp), .inr ⟨rfl, rfl⟩, .inr ⟨rfl, rfl⟩⟩
          · have z1 : E1 = [] := List.length_eq_zero_iff.1 n1
            have y1 : entC E1 = [] := by rw [z1]; rfl
            have z2 : E2 = [] := List.length_eq_zero_iff.1 n2
            have y2 : entC E2 = [] := by rw [z2]; rfl
            have c34 : ¬ D1.length + D2.length ≤ D1.length := by omega
            simp (implicitDefEqProofs := false) [t5, t8, evalP, fillA, cellsOf, setAt, appendE, appendA, gE1, gE2, gD1, gD2, hs1, hs2, hs3, hs4, entC_length, intC_length, storeA, setL, i1, i2, i3, i4, n1, n2, n3, n4, c34, b34, tk2, b3, b4, y1, y2]
            refine cutN_end (H1 := H) [0, 1, 2, 3, 4, 5, 6, 7, 8, 9, 22, 24] rfl (Nat.le_refl _) (by simp) (by simp) hw ?_
            refine ⟨_, _, _, _, _, _, .arr (H.length + 9) (E1 ++ E2).length, .arr (H.length + 10) (D1 ++ D2).length, _, _, _, _, _, _, some ⟨entC (E1 ++ E2), 40⟩, some ⟨intC (D1 ++ D2), 3⟩, by simp [t0, hxa], by simp [t1, hxb], by simp [t5], by simp [t8], by simp [t11], by simp [t12], by simp [t13], by simp, by simp [entC_app, intC_app, ren_append, n1, n2, n3, n4, y1, y2]; exact ⟨rfl, rfl, ⟨rfl, rfl⟩, rfl, rfl, ⟨rfl, rfl⟩, rfl, rfl, rfl, rfl⟩, ?_⟩
            rw [hpe1, hpe2, hpd1, hpd2]
            exact ⟨NewE.ren (j := 0) (k := 0) nE1 (by simp), nD1.ren (by simp), nE2.ren (by simp), nD2.ren (by simp), nE3.ren (by simp), nD3.ren (by simp), .inr ⟨rfl, rfl⟩, .inr ⟨rfl, rfl⟩⟩
      · by_cases n3 : D1.length = 0
        · by_cases n4 : D2.length = 0
          · have z1 : E1 = [] := List.length_eq_zero_iff.1 n1
            have y1 : entC E1 = [] := by rw [z1]; rfl
            have z3 : D1 = [] := List.length_eq_zero_iff.1 n3
            have y3 : intC D1 = [] := by rw [z3]; rfl
            have z4 : D2 = [] := List.length_eq_zero_iff.1 n4
            have y4 : intC D2 = [] := by rw [z4]; rfl
            have c2 : ¬ E2.length * 6 = 0 := by omega
            simp (implicitDefEqProofs := false) [t5, t8, evalP, fillA, cellsOf, setAt, appendE, appendA, gE1, gE2, gD1, gD2, hs1, hs2, hs3, hs4, entC_length, intC_length, storeA, setL, i1, i2, i3, i4, n1, n2, n3, n4, b2, c2, y1, y3, y4]
            refine cutN_end (H1 := H) [0, 1, 2, 3, 4, 5, 6, 7, 8, 15, 16, 24] rfl (Nat.le_refl _) (by simp) (by simp) hw ?_
            refine ⟨_, _, _, _, _, _, .arr (H.length + 9) (E1 ++ E2).length, .arr (H.length + 10) (D1 ++ D2).length, _, _, _, _, _, _, some ⟨entC (E1 ++ E2), 40⟩, some ⟨intC (D1 ++ D2), 3⟩, by simp [t0, hxa], by simp [t1, hxb], by simp [t5], by simp [t8], by simp [t11], by simp [t12], by simp [t13], by simp, by simp [entC_app, intC_app, ren_append, n1, n2, n3, n4, y1, y3, y4]; exact ⟨rfl, rfl, ⟨rfl, rfl⟩, rfl, rfl, ⟨rfl, rfl⟩, rfl, rfl, rfl, rfl⟩, ?_⟩
            rw [hpe1, hpe2, hpd1, hpd2]
            exact ⟨NewE.ren (j := 0) (k := 0) nE1 (by simp), nD1.ren (by simp), nE2.ren (by simp), nD2.ren (by simp), nE3.ren (by simp), nD3.ren (by simp), .inr ⟨rfl, rfl⟩, .inr ⟨rfl, rfl⟩⟩
          · have z1 : E1 = [] := List.length_eq_zero_iff.1 n1
            have y1 : entC E1 = [] := by rw [z1]; rfl
            have z3 : D1 = [] := List.length_eq_zero_iff.1 n3
            have y3 : intC D1 = [] := by rw [z3]; rfl
            have c2 : ¬ E2.length * 6 = 0 := by omega
            simp (implicitDefEqProofs := false) [t5, t8, evalP, fillA, cellsOf, setAt, appendE, appendA, gE1, gE2, gD1, gD2, hs1, hs2, hs3, hs4, entC_length, intC_length, storeA, setL, i1, i2, i3, i4, n1, n2, n3, n4, b2, c2, b4, y1, y3]
            refine cutN_end (H1 := H) [0, 1, 2, 3, 4, 5, 6, 7, 8, 15, 22, 24] rfl (Nat.le_refl _) (by simp) (by simp) hw ?_
            refine ⟨_, _, _, _, _, _, .arr (H.length + 9) (E1 ++ E2).length, .arr (H.length + 10) (D1 ++ D2).length, _, _, _, _, _, _, some ⟨entC (E1 ++ E2), 40⟩, some ⟨intC (D1 ++ D2), 3⟩, by simp [t0, hxa], by simp [t1, hxb], by simp [t5], by simp [t8], by simp [t11], by simp [t12], by simp [t13], by simp, by simp [entC_app, intC_app, ren_append, n1, n2, n3, n4, y1, y3]; exact ⟨rfl, rfl, ⟨rfl, rfl⟩, rfl, rfl, ⟨rfl, rfl⟩, rfl, rfl, rfl, rfl⟩, ?_⟩
            rw [hpe1, hpe2, hpd1, hpd2]
            exact ⟨NewE.ren (j := 0) (k := 0) nE1 (by simp), nD1.ren (by simp), nE2.ren (by simp), nD2.ren (by simp), nE3.ren (by simp), nD3.ren (by simp), .inr ⟨rfl, rfl⟩, .inr ⟨rfl, rfl⟩⟩
        · by_cases n4 : D2.length = 0
          · have z1 : E1 = [] := List.length_eq_zero_iff.1 n1
            have y1 : entC E1 = [] := by rw [z1]; rfl
            have z4 : D2 = [] := List.length_eq_zero_iff.1 n4
            have y4 : intC D2 = [] := by rw [z4]; rfl
            have c2 : ¬ E2.length * 6 = 0 := by omega
            simp (implicitDefEqProofs := false) [t5, t8, evalP, fillA, cellsOf, setAt, appendE, appendA, gE1, gE2, gD1, gD2, hs1, hs2, hs3, hs4, entC_length, intC_length, storeA, setL, i1, i2, i3, i4, n1, n2, n3, n4, b2, c2, b3, y1, y4]
            refine cutN_end (H1 := H) [0, 1, 2, 3, 4, 5, 6, 7, 8, 15, 19, 24] rfl (Nat.le_refl _) (by simp) (by simp) hw ?_
            refine ⟨_, _, _, _, _, _, .arr (H.length + 9) (E1 ++ E2).length, .arr (H.length + 10) (D1 ++ D2).length, _, _, _, _, _, _, some ⟨entC (E1 ++ E2), 40⟩, some ⟨intC (D1 ++ D2), 3⟩, by simp [t0, hxa], by simp [t1, hxb], by simp [t5], by simp [t8], by simp [t11], by simp [t12], by simp [t13], by simp, by simp [entC_app, intC_app, ren_append, n1, n2, n3, n4, y1, y4]; exact ⟨rfl, rfl, ⟨rfl, rfl⟩, rfl, rfl, ⟨rfl, rfl⟩, rfl, rfl, rfl, rfl⟩, ?_⟩
            rw [hpe1, hpe2, hpd1, hpd2]
            exact ⟨NewE.ren (j := 0) (k := 0) nE1 (by simp), nD1.ren (by simp), nE2.ren (by simp), nD2.ren (by simp), nE3.ren (by simp), nD3.ren (by simp), .inr ⟨rfl, rfl⟩, .inr ⟨rfl, rfl⟩⟩
          · have z1 : E1 = [] := List.length_eq_zero_iff.1 n1
            have y1 : entC E1 = [] := by rw [z1]; rfl
            have c2 : ¬ E2.length * 6 = 0 := by omega
            have c34 : ¬ D1.length + D2.length ≤ D1.length := by omega
            simp (implicitDefEqProofs := false) [t5, t8, evalP, fillA, cellsOf, setAt, appendE, appendA, gE1, gE2, gD1, gD2, hs1, hs2, hs3, hs4, entC_length, intC_length, storeA, setL, i1, i2, i3, i4, n1, n2, n3, n4, b2, c2, c34, b34, tk2, b3, b4, y1]
            refine cutN_end (H1 := H) [0, 1, 2, 3, 4, 5, 6, 7, 8, 15, 22, 24] rfl (Nat.le_refl _) (by simp) (by simp) hw ?_
            refine ⟨_, _, _, _, _, _, .arr (H.length + 9) (E1 ++ E2).length, .arr (H.length + 10) (D1 ++ D2).length, _, _, _, _, _, _, some ⟨entC (E1 ++ E2), 40⟩, some ⟨intC (D1 ++ D2), 3⟩, by simp [t0, hxa], by simp [t1, hxb], by simp [t5], by simp [t8], by simp [t11], by simp [t12], by simp [t13], by simp, by simp [entC_app, intC_app, ren_append, n1, n2, n3, n4, y1]; exact ⟨rfl, rfl, ⟨rfl, rfl⟩, rfl, rfl, ⟨rfl, rfl⟩, rfl, rfl, rfl, rfl⟩, ?_⟩
            rw [hpe1, hpe2, hpd1, hpd2]
            exact ⟨NewE.ren (j := 0) (k := 0) nE1 (by simp), nD1.ren (by simp), nE2.ren (by simp), nD2.ren (by simp), nE3.ren (by simp), nD3.ren (by simp), .inr ⟨rfl, rfl⟩, .inr ⟨rfl, rfl⟩⟩
    · by_cases n2 : E2.length = 0
      · by_cases n3 : D1.length = 0
        · by_cases n4 : D2.length = 0
          · have z2 : E2 = [] := List.length_eq_zero_iff.1 n2
            have y2 : entC E2 = [] := by rw [z2]; rfl
            have z3 : D1 = [] := List.length_eq_zero_iff.1 n3
            have y3 : intC D1 = [] := by rw [z3]; rfl
            have z4 : D2 = [] := List.length_eq_zero_iff.1 n4
            have y4 : intC D2 = [] := by rw [z4]; rfl
            have c1 : ¬ E1.length * 6 = 0 := by omega
            simp (implicitDefEqProofs := false) [t5, t8, evalP, fillA, cellsOf, setAt, appendE, appendA, gE1, gE2, gD1, gD2, hs1, hs2, hs3, hs4, entC_length, intC_length, storeA, setL, i1, i2, i3, i4, n1, n2, n3, n4, b1, c1, y2, y3, y4]
            refine cutN_end (H1 := H) [0, 1, 2, 3, 4, 5, 6, 7, 8, 12, 16, 24] rfl (Nat.le_refl _) (by simp) (by simp) hw ?_
            refine ⟨_, _, _, _, _, _, .arr (H.length + 9) (E1 ++ E2).length, .arr (H.length + 10) (D1 ++ D2).length, _, _, _, _, _, _, some ⟨entC (E1 ++ E2), 40⟩, some ⟨intC (D1 ++ D2), 3⟩, by simp [t0, hxa], by simp [t1, hxb], by simp [t5], by simp [t8], by simp [t11], by simp [t12], by simp [t13], by simp, by simp [entC_app, intC_app, ren_append, n1, n2, n3, n4, y2, y3, y4]; exact ⟨rfl, rfl, ⟨rfl, rfl⟩, rfl, rfl, ⟨rfl, rfl⟩, rfl, rfl, rfl, rfl⟩, ?_⟩
            rw [hpe1, hpe2, hpd1, hpd2]
            exact ⟨NewE.ren (j := 0) (k := 0) nE1 (by simp), nD1.ren (by simp), nE2.ren (by simp), nD2.ren (by simp), nE3.ren (by simp), nD3.ren (by simp), .inr ⟨rfl, rfl⟩, .inr ⟨rfl, rfl⟩⟩
          · have z2 : E2 = [] := List.length_eq_zero_iff.1 n2
            have y2 : entC E2 = [] := by rw [z2]; rfl
            have z3 : D1 = [] := List.length_eq_zero_iff.1 n3
            have y3 : intC D1 = [] := by rw [z3]; rfl
            have c1 : ¬ E1.length * 6 = 0 := by omega
            simp (implicitDefEqProofs := false) [t5, t8, evalP, fillA, cellsOf, setAt, appendE, appendA, gE1, gE2, gD1, gD2, hs1, hs2, hs3, hs4, entC_length, intC_length, storeA, setL, i1, i2, i3, i4, n1, n2, n3, n4, b1, c1, b4, y2, y3]
            refine cutN_end (H1 := H) [0, 1, 2, 3, 4, 5, 6, 7, 8, 12, 22, 24] rfl (Nat.le_refl _) (by simp) (by simp) hw ?_
            refine ⟨_, _, _, _, _, _, .arr (H.length + 9) (E1 ++ E2).length, .arr (H.length + 10) (D1 ++ D2).length, _, _, _, _, _, _, some ⟨entC (E1 ++ E2), 40⟩, some ⟨intC (D1 ++ D2), 3⟩, by simp [t0, hxa], by simp [t1, hxb], by simp [t5], by simp [t8], by simp [t11], by simp [t12], by simp [t13], by simp, by simp [entC_app, intC_app, ren_append, n1, n2, n3, n4, y2, y3]; exact ⟨rfl, rfl, ⟨rfl, rfl⟩, rfl, rfl, ⟨rfl, rfl⟩, rfl, rfl, rfl, rfl⟩, ?_⟩
            rw [hpe1, hpe2, hpd1, hpd2]
            exact ⟨NewE.ren (j := 0) (k := 0) nE1 (by simp), nD1.ren (by simp), nE2.ren (by simp), nD2.ren (by simp), nE3.ren (by simp), nD3.ren (by simp), .inr ⟨rfl, rfl⟩, .inr ⟨rfl, rfl⟩⟩
        · by_cases n4 : D2.length = 0
          · have z2 : E2 = [] := List.length_eq_zero_iff.1 n2
            have y2 : entC E2 = [] := by rw [z2]; rfl
            have z4 : D2 = [] := List.length_eq_zero_iff.1 n4
            have y4 : intC D2 = [] := by rw [z4]; rfl
            have c1 : ¬ E1.length * 6 = 0 := by omega
            simp (implicitDefEqProofs := false) [t5, t8, evalP, fillA, cellsOf, setAt, appendE, appendA, gE1, gE2, gD1, gD2, hs1, hs2, hs3, hs4, entC_length, intC_length, storeA, setL, i1, i2, i3, i4, n1, n2, n3, n4, b1, c1, b3, y2, y4]
            refine cutN_end (H1 := H) [0, 1, 2, 3, 4, 5, 6, 7, 8, 12, 19, 24] rfl (Nat.le_refl _) (by simp) (by simp) hw ?_
            refine ⟨_, _, _, _, _, _, .arr (H.length + 9) (E1 ++ E2).length, .arr (H.length + 10) (D1 ++ D2).length, _, _, _, _, _, _, some ⟨entC (E1 ++ E2), 40⟩, some ⟨intC (D1 ++ D2), 3⟩, by simp [t0, hxa], by simp [t1, hxb], by simp [t5], by simp [t8], by simp [t11], by simp [t12], by simp [t13], by simp, by simp [entC_app, intC_app, ren_append, n1, n2, n3, n4, y2, y4]; exact ⟨rfl, rfl, ⟨rfl, rfl⟩, rfl, rfl, ⟨rfl, rfl⟩, rfl, rfl, rfl, rfl⟩, ?_⟩
            rw [hpe1, hpe2, hpd1, hpd2]
            exact ⟨NewE.ren (j := 0) (k := 0) nE1 (by simp), nD1.ren (by simp), nE2.ren (by simp), nD2.ren (by simp), nE3.ren (by simp), nD3.ren (by simp), .inr ⟨rfl, rfl⟩, .inr ⟨rfl, rfl⟩⟩
          · have z2 : E2 = [] := List.length_eq_zero_iff.1 n2
            have y2 : entC E2 = [] := by rw [z2]; rfl
            have c1 : ¬ E1.length * 6 = 0 := by omega
            have c34 : ¬ D1.length + D2.length ≤ D1.length := by omega
            simp (implicitDefEqProofs := false) [t5, t8, evalP, fillA, cellsOf, setAt, appendE, appendA, gE1, gE2, gD1, gD2, hs1, hs2, hs3, hs4, entC_length, intC_length, storeA, setL, i1, i2, i3, i4, n1, n2, n3, n4, b1, c1, c34, b34, tk2, b3, b4, y2]
            refine cutN_end (H1 := H) [0, 1, 2, 3, 4, 5, 6, 7, 8, 12, 22, 24] rfl (Nat.le_refl _) (by simp) (by simp) hw ?_
            refine ⟨_, _, _, _, _, _, .arr (H.length + 9) (E1 ++ E2).length, .arr (H.length + 10) (D1 ++ D2).length, _, _, _, _, _, _, some ⟨entC (E1 ++ E2), 40⟩, some ⟨intC (D1 ++ D2), 3⟩, by simp [t0, hxa], by simp [t1, hxb], by simp [t5], by simp [t8], by simp [t11], by simp [t12], by simp [t13], by simp, by simp [entC_app, intC_app, ren_append, n1, n2, n3, n4, y2]; exact ⟨rfl, rfl, ⟨rfl, rfl⟩, rfl, rfl, ⟨rfl, rfl⟩, rfl, rfl, rfl, rfl⟩, ?_⟩
            rw [hpe1, hpe2, hpd1, hpd2]
            exact ⟨NewE.ren (j := 0) (k := 0) nE1 (by simp), nD1.ren (by simp), nE2.ren (by simp), nD2.ren (by simp), nE3.ren (by simp), nD3.ren (by simp), .inr ⟨rfl, rfl⟩, .inr ⟨rfl, rfl⟩⟩
      · by_cases n3 : D1.length = 0
        · by_cases n4 : D2.length = 0
          · have z3 : D1 = [] := List.length_eq_zero_iff.1 n3
            have y3 : intC D1 = [] := by rw [z3]; rfl
            have z4 : D2 = [] := List.length_eq_zero_iff.1 n4
            have y4 : intC D2 = [] := by rw [z4]; rfl
            have c1 : ¬ E1.length * 6 = 0 := by omega
            have c2 : ¬ E2.length * 6 = 0 := by omega
            have c12 : ¬ (E1.length + E2.length) * 6 ≤ E1.length * 6 := by omega
            have c12' : ¬ E1.length + E2.length ≤ E1.length := by omega
            simp (implicitDefEqProofs := false) [t5, t8, evalP, fillA, cellsOf, setAt, appendE, appendA, gE1, gE2, gD1, gD2, hs1, hs2, hs3, hs4, entC_length, intC_length, storeA, setL, i1, i2, i3, i4, n1, n2, n3, n4, c12, c12', b12, tk1, b1, c1, b2, c2, y3, y4]
            refine cutN_end (H1 := H) [0, 1, 2, 3, 4, 5, 6, 7, 8, 15, 16, 24] rfl (Nat.le_refl _) (by simp) (by simp) hw ?_
            refine ⟨_, _, _, _, _, _, .arr (H.length + 9) (E1 ++ E2).length, .arr (H.length + 10) (D1 ++ D2).length, _, _, _, _, _, _, some ⟨entC (E1 ++ E2), 40⟩, some ⟨intC (D1 ++ D2), 3⟩, by simp [t0, hxa], by simp [t1, hxb], by simp [t5], by simp [t8], by simp [t11], by simp [t12], by simp [t13], by simp, by simp [entC_app, intC_app, ren_append, n1, n2, n3, n4, y3, y4]; exact ⟨rfl, rfl, ⟨rfl, rfl⟩, rfl, rfl, ⟨rfl, rfl⟩, rfl, rfl, rfl, rfl⟩, ?_⟩
            rw [hpe1, hpe2, hpd1, hpd2]
            exact ⟨NewE.ren (j := 0) (k := 0) nE1 (by simp), nD1.ren (by simp), nE2.ren (by simp), nD2.ren (by simp), nE3.ren (by simp), nD3.ren (by simp), .inr ⟨rfl, rfl⟩, .inr ⟨rfl, rfl⟩⟩
          · have z3 : D1 = [] := List.length_eq_zero_iff.1 n3
            have y3 : intC D1 = [] := by rw [z3]; rfl
            have c1 : ¬ E1.length * 6 = 0 := by omega
            have c2 : ¬ E2.length * 6 = 0 := by omega
            have c12 : ¬ (E1.length + E2.length) * 6 ≤ E1.length * 6 := by omega
            have c12' : ¬ E1.length + E2.length ≤ E1.length := by omega
            simp (implicitDefEqProofs := false) [t5, t8, evalP, fillA, cellsOf, setAt, appendE, appendA, gE1, gE2, gD1, gD2, hs1, hs2, hs3, hs4, entC_length, intC_length, storeA, setL, i1, i2, i3, i4, n1, n2, n3, n4, c12, c12', b12, tk1, b1, c1, b2, c2, b4, y3]
            refine cutN_end (H1 := H) [0, 1, 2, 3, 4, 5, 6, 7, 8, 15, 22, 24] rfl (Nat.le_refl _) (by simp) (by simp) hw ?_
            refine ⟨_, _, _, _, _, _, .arr (H.length + 9) (E1 ++ E2).length, .arr (H.length + 10) (D1 ++ D2).length, _, _, _, _, _, _, some ⟨entC (E1 ++ E2), 40⟩, some ⟨intC (D1 ++ D2), 3⟩, by simp [t0, hxa], by simp [t1, hxb], by simp [t5], by simp [t8], by simp [t11], by simp [t12], by simp [t13], by simp, by simp [entC_app, intC_app, ren_append, n1, n2, n3, n4, y3]; exact ⟨rfl, rfl, ⟨rfl, rfl⟩, rfl, rfl, ⟨rfl, rfl⟩, rfl, rfl, rfl, rfl⟩, ?_⟩
            rw [hpe1, hpe2, hpd1, hpd2]
            exact ⟨NewE.ren (j := 0) (k := 0) nE1 (by simp), nD1.ren (by simp), nE2.ren (by simp), nD2.ren (by simp), nE3.ren (by simp), nD3.ren (by simp), .inr ⟨rfl, rfl⟩, .inr ⟨rfl, rfl⟩⟩
        · by_cases n4 : D2.length = 0
          · have z4 : D2 = [] := List.length_eq_zero_iff.1 n4
            have y4 : intC D2 = [] := by rw [z4]; rfl
            have c1 : ¬ E1.length * 6 = 0 := by omega
            have c2 : ¬ E2.length * 6 = 0 := by omega
            have c12 : ¬ (E1.length + E2.length) * 6 ≤ E1.length * 6 := by omega
            have c12' : ¬ E1.length + E2.length ≤ E1.length := by omega
            simp (implicitDefEqProofs := false) [t5, t8, evalP, fillA, cellsOf, setAt, appendE, appendA, gE1, gE2, gD1, gD2, hs1, hs2, hs3, hs4, entC_length, intC_length, storeA, setL, i1, i2, i3, i4, n1, n2, n3, n4, c12, c12', b12, tk1, b1, c1, b2, c2, b3, y4]
            refine cutN_end (H1 := H) [0, 1, 2, 3, 4, 5, 6, 7, 8, 15, 19, 24] rfl (Nat.le_refl _) (by simp) (by simp) hw ?_
            refine ⟨_, _, _, _, _, _, .arr (H.length + 9) (E1 ++ E2).length, .arr (H.length + 10) (D1 ++ D2).length, _, _, _, _, _, _, some ⟨entC (E1 ++ E2), 40⟩, some ⟨intC (D1 ++ D2), 3⟩, by simp [t0, hxa], by simp [t1, hxb], by simp [t5], by simp [t8], by simp [t11], by simp [t12], by simp [t13], by simp, by simp [entC_app, intC_app, ren_append, n1, n2, n3, n4, y4]; exact ⟨rfl, rfl, ⟨rfl, rfl⟩, rfl, rfl, ⟨rfl, rfl⟩, rfl, rfl, rfl, rfl⟩, ?_⟩
            rw [hpe1, hpe2, hpd1, hpd2]
            exact ⟨NewE.ren (j := 0) (k := 0) nE1 (by simp), nD1.ren (by simp), nE2.ren (by simp), nD2.ren (by simp), nE3.ren (by simp), nD3.ren (by simp), .inr ⟨rfl, rfl⟩, .inr ⟨rfl, rfl⟩⟩
          · have c1 : ¬ E1.length * 6 = 0 := by omega
            have c2 : ¬ E2.length * 6 = 0 := by omega
            have c12 : ¬ (E1.length + E2.length) * 6 ≤ E1.length * 6 := by omega
            have c12' : ¬ E1.length + E2.length ≤ E1.length := by omega
            have c34 : ¬ D1.length + D2.length ≤ D1.length := by omega
            simp (implicitDefEqProofs := false) [t5, t8, evalP, fillA, cellsOf, setAt, appendE, appendA, gE1, gE2, gD1, gD2, hs1, hs2, hs3, hs4, entC_length, intC_length, storeA, setL, i1, i2, i3, i4, n1, n2, n3, n4, c12, c12', b12, tk1, b1, c1, b2, c2, c34, b34, tk2, b3, b4]
            refine cutN_end (H1 := H) [0, 1, 2, 3, 4, 5, 6, 7, 8, 15, 22, 24] rfl (Nat.le_refl _) (by simp) (by simp) hw ?_
            refine ⟨_, _, _, _, _, _, .arr (H.length + 9) (E1 ++ E2).length, .arr (H.length + 10) (D1 ++ D2).length, _, _, _, _, _, _, some ⟨entC (E1 ++ E2), 40⟩, some ⟨intC (D1 ++ D2), 3⟩, by simp [t0, hxa], by simp [t1, hxb], by simp [t5], by simp [t8], by simp [t11], by simp [t12], by simp [t13], by simp, by simp [entC_app, intC_app, ren_append, n1, n2, n3, n4]; exact ⟨rfl, rfl, ⟨rfl, rfl⟩, rfl, rfl, ⟨rfl, rfl⟩, rfl, rfl, rfl, rfl⟩, ?_⟩
            rw [hpe1, hpe2, hpd1, hpd2]
            exact ⟨NewE.ren (j := 0) (k := 0) nE1 (by simp), nD1.ren (by simp), nE2.ren (by simp), nD2.ren (by simp), nE3.ren (by simp), nD3.ren (by simp), .inr ⟨rfl, rfl⟩, .inr ⟨rfl, rfl⟩⟩
  clear nE1 nD1 nE2 nD2 nE3 nD3 t0 t1 t5 t6 t7 t8 t9 t10 t11 t12 t13 va1 vd1 oe1 od1 va2 vd2 oe2 od2 va3 vd3 oe3 od3 t
  rintro t H' ⟨va1, vd1, va2, vd2, va3, vd3, vr, vq, oe1, od1, oe2, od2, oe3, od3, oer, oed, t0, t1, t5, t8, t11, t12, t13, t14, rfl, nE1, nD1, nE2, nD2, nE3, nD3, nE4, nD4⟩
  have hg : (parse (A ++ B)).e = 0 := by rw [hp]; exact hf
  have hk : pK (A ++ B) = A.length + B.length := by
    unfold pK
    rw [if_pos hg, List.length_append]
  have hk' : IntKind.i64.wrap ((A.length : Int) + B.length) = (pK (A ++ B) : Nat) := by
    rw [IntWalk.i64_in _ (by omega), hk]; omega
  have hE : pE (A ++ B) = pE A ++ pE B := by
    unfold pE
    rw [if_pos hg, if_pos he, if_pos hf, hp]
  have hD : pD (A ++ B) = pD A ++ pD B := by
    unfold pD
    rw [if_pos hg, if_pos he, if_pos hf, hp]
  have lE1 : (pE A).length ≤ 3000 := by unfold pE; split <;> first | omega | exact Nat.zero_le _
  have lE2 : (pE B).length ≤ 3000 := by unfold pE; split <;> first | omega | exact Nat.zero_le _
  have lD1 : (pD A).length ≤ 3000 := by unfold pD; split <;> first | omega | exact Nat.zero_le _
  have lD2 : (pD B).length ≤ 3000 := by unfold pD; split <;> first | omega | exact Nat.zero_le _
  rw [hE] at nE3
  rw [hD] at nD3
  have lE12 : (pE A ++ pE B).length ≤ 1000000 := by simp; omega
  have lD12 : (pD A ++ pD B).length ≤ 1000000 := by simp; omega
  have hpk := picks_app (pE A) (pE B)
  have pk1 : picks (pE A) ≤ (pE A).length := List.countP_le_length
  have pk2 : picks (pE B) ≤ (pE B).length := List.countP_le_length
  have hpk' : IntKind.i64.wrap ((picks (pE A) : Int) + picks (pE B)) = (picks (pE A ++ pE B) : Nat) := by
    rw [IntWalk.i64_in _ (by omega), hpk]; omega
  refine FWx_sound ?_
  simp (implicitDefEqProofs := false) [t0, t1, t5, t8, t11, t12, t13, t14]
  refine FWtreeR_callR rfl (by simp) (num_calls C hP _ (parse (A ++ B)).e) ?_
  rintro v H' ⟨rfl, rfl⟩
  refine ⟨by simp, ?_⟩
  simp (implicitDefEqProofs := false) [t0, t1, t5, t8, t11, t12, t13, t14, hg, hA.b.lenV, hB.b.lenV, hk']
  refine FWtreeR_callR rfl (by simp) (same_calls C hP va3 vd3 vr vq (pE A ++ pE B) (pE A ++ pE B) (pD A ++ pD B) (pD A ++ pD B) _ (nE3.es (by simp)) (nD3.ds (by simp)) (nE4.es (by simp)) (nD4.ds (by simp)) lE12 lD12) ?_
  rintro v H' ⟨rfl, rfl⟩
  refine ⟨by simp, ?_⟩
  simp (implicitDefEqProofs := false) [t0, t1, t5, t8, t11, t12, t13, t14]
  refine FWtreeR_callR rfl (by simp) (picks_calls C hP va3 vd3 (pE A ++ pE B) _ (nE3.es (by simp)) lE12) ?_
  rintro v H' ⟨rfl, rfl⟩
  refine ⟨by simp, ?_⟩
  refine FWtreeR_callR rfl (by simp) (picks_calls C hP va1 vd1 (pE A) _ (nE1.es (by simp)) (by omega)) ?_
  rintro v H' ⟨rfl, rfl⟩
  refine ⟨by simp, ?_⟩
  refine FWtreeR_callR rfl (by simp) (picks_calls C hP va2 vd2 (pE B) _ (nE2.es (by simp)) (by omega)) ?_
  rintro v H' ⟨rfl, rfl⟩
  refine ⟨by simp, ?_⟩
  simp (implicitDefEqProofs := false) [hpk']
  refine FWtreeR_callR rfl (by simp) ((live_calls C hP).forget (by simp [ltL]) (by rintro v H1 rfl; simp [AVal.lt])) ?_
  rintro v H1 ⟨⟨_, rfl⟩, rfl⟩
  refine ⟨by simp, ?_⟩
  simp (implicitDefEqProofs := false)
  rw [← hQ]
  refine retQ_ret (by simp) ?_
  simp [e3]

end Go.Proofs.Ytfbkogaijopcgaa
