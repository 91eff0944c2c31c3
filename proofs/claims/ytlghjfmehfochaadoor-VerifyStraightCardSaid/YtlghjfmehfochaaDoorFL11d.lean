/-
  OWN WORK (an AI agent). Part L11d of a walk by simplification over abstract heaps.
-/
import Derived.Test.YtlghjfmehfochaaDoorFL11c
set_option linter.all false
set_option linter.unusedSimpArgs false
set_option linter.unusedVariables false
set_option maxRecDepth 20000
namespace Go.Proofs.YtlghjfmehfochaaDoor
open Go.F Go.RowKit

def take1 (e : Int × Int) : Int := if e.1 = 0 then 0 else 1
def put1 (e : Int × Int) : Int := if e.1 = 0 then 1 else 0
def nth (l : List (Int × Int)) (i : Nat) : Int × Int := l.getD i (0, 0)
/-- the height before step i -/
def ht (l : List (Int × Int)) : Nat → Int
  | 0 => 0
  | i + 1 => ht l i - take1 (nth l i) + put1 (nth l i)

/-- a step that goes on -/
def goes (l : List (Int × Int)) (i : Nat) : Prop := okI (nth l i) ∧ (nth l i).1 ≠ 27 ∧ i + 1 < l.length ∧ take1 (nth l i) ≤ ht l i ∧ ht l i - take1 (nth l i) + put1 (nth l i) ≤ 256

theorem take1_bd (e : Int × Int) : 0 ≤ take1 e ∧ take1 e ≤ 1 := by unfold take1; split <;> omega
theorem put1_bd (e : Int × Int) : 0 ≤ put1 e ∧ put1 e ≤ 1 := by unfold put1; split <;> omega

theorem ht_bd {l : List (Int × Int)} {k : Nat} (h : ∀ i, i < k → goes l i) : ∀ i, i ≤ k → 0 ≤ ht l i ∧ ht l i ≤ 256
  | 0, _ => by simp [ht]
  | i + 1, hi => by
    obtain ⟨_, _, _, h1, h2⟩ := h i (by omega)
    have := put1_bd (nth l i)
    simp only [ht]
    omega

/-- the heights, as far as they are known behind step i -/
def seenL (l : List (Int × Int)) (i : Nat) : List Int := (List.range l.length).map fun j => if j ≤ i then ht l j else -1
theorem seenL_length (l : List (Int × Int)) (i : Nat) : (seenL l i).length = l.length := by simp [seenL]
theorem seenL_get {l : List (Int × Int)} {i j : Nat} (h : j < (seenL l i).length) : (seenL l i)[j] = if j ≤ i then ht l j else -1 := by simp [seenL]
theorem seenL_succ (l : List (Int × Int)) (i : Nat) : (seenL l i).set (i + 1) (ht l (i + 1)) = seenL l (i + 1) := by
  apply List.ext_getElem
  · simp [seenL]
  · intro j h1 h2
    rw [List.getElem_set]
    simp only [seenL, List.getElem_map, List.getElem_range]
    by_cases e : i + 1 = j
    · subst e; simp
    · rw [if_neg e]
      by_cases e2 : j ≤ i
      · rw [if_pos e2, if_pos (by omega)]
      · rw [if_neg e2, if_neg (by omega)]

def workL (i : Nat) : List Int := (List.range (i + 1)).map fun (j : Nat) => (j : Int)
theorem workL_length (i : Nat) : (workL i).length = i + 1 := by simp [workL]
theorem workL_succ (i : Nat) : workL i ++ [((i + 1 : Nat) : Int)] = workL (i + 1) := by
  unfold workL
  rw [List.range_succ (n := i + 1), List.map_append]
  rfl
theorem workL_get {i j : Nat} (h : j ≤ i) : (workL i)[j]? = some (j : Int) := by
  unfold workL
  rw [List.getElem?_map, List.getElem?_range (by omega)]
  rfl

def fillL (n i : Nat) : List Int := List.replicate i (-1) ++ List.replicate (n - i) 0
theorem fillL_length {n i : Nat} (h : i ≤ n) : (fillL n i).length = n := by simp [fillL]; omega
theorem fillL_succ {n i : Nat} (h : i < n) : (fillL n i).set i (-1) = fillL n (i + 1) := by
  unfold fillL
  rw [List.set_append_right _ _ (by simp)]
  simp only [List.length_replicate, Nat.sub_self]
  obtain ⟨m, hm⟩ : ∃ m, n - i = m + 1 := ⟨n - i - 1, by omega⟩
  rw [hm, List.replicate_succ, List.set_cons_zero, show n - (i + 1) = m by omega, List.replicate_succ', List.append_assoc]
  rfl

/-- the heap of flow -/
def FS (H : AHeap) (g1 g2 : List AVal) (seen work : List Int) : AHeap := H ++ [some ⟨g1, 26⟩, some ⟨g2, 38⟩, some ⟨intC seen, 3⟩, some ⟨[.arr (H.length + 2) seen.length], 33⟩, some ⟨intC work, 3⟩, some ⟨[.arr (H.length + 4) work.length], 33⟩, some ⟨[.int .i64 (-1)], 3⟩]

theorem FW.scope' {X : Fx} {x : FC} {t : Fr} {H : AHeap} {Q : FQ} (h : FW X x t H (noGotoQ Q)) : FW X (.scope x) t H Q := FW.scope h
theorem ng_normal (Q : FQ) (t : Fr) (H : AHeap) : noGotoQ Q .normal t H = Q .normal t H := rfl
theorem ng_ret (Q : FQ) (t : Fr) (H : AHeap) : noGotoQ Q .ret t H = Q .ret t H := rfl
theorem ng_exit (Q : FQ) (k : Nat) (t : Fr) (H : AHeap) : noGotoQ Q (.exit k) t H = Q (.exit k) t H := rfl

def flow0 (H : AHeap) (g1 g2 : List AVal) (n : Nat) (i : Nat) (t : Fr) (H' : AHeap) : Prop :=
  t 2 = .ptr (.loc H.length 0) ∧ t 3 = .ptr (.loc (H.length + 1) 0) ∧ t 7 = .ptr (.loc (H.length + 3) 0) ∧ H' = H ++ [some ⟨g1, 26⟩, some ⟨g2, 38⟩, some ⟨intC (fillL n i), 3⟩, some ⟨[.arr (H.length + 2) n], 33⟩]
def flow0I (H : AHeap) (g1 g2 : List AVal) (n : Nat) (t : Fr) (H' : AHeap) (m : Nat) : Prop := ∃ i : Nat, t 31 = .int .i64 n ∧ t 32 = .int .i64 i ∧ i ≤ n ∧ flow0 H g1 g2 n i t H' ∧ m = n - i

def flow1 (H : AHeap) (g1 g2 : List AVal) (l : List (Int × Int)) (i : Nat) (t : Fr) (H' : AHeap) : Prop :=
  t 2 = .ptr (.loc H.length 0) ∧ t 3 = .ptr (.loc (H.length + 1) 0) ∧ t 7 = .ptr (.loc (H.length + 3) 0) ∧ t 9 = .ptr (.loc (H.length + 5) 0) ∧ t 10 = .ptr (.loc (H.length + 6) 0) ∧
    t 11 = .fn 26 [.ptr (.loc (H.length + 6) 0), .ptr (.loc (H.length + 3) 0), .ptr (.loc (H.length + 5) 0)] ∧ H' = FS H g1 g2 (seenL l i) (workL i)
/-- before step i (i ≤ k), or behind step k -/
def flow1I (H : AHeap) (g1 g2 : List AVal) (l : List (Int × Int)) (k : Nat) (t : Fr) (H' : AHeap) (m : Nat) : Prop :=
  ∃ i : Nat, t 12 = .int .i64 i ∧ i ≤ k + 1 ∧ (i = k + 1 → take1 (nth l k) ≤ ht l k ∧ ht l k - take1 (nth l k) + put1 (nth l k) ≤ 256) ∧ flow1 H g1 g2 l (min i k) t H' ∧ m = k + 1 - i

theorem effect_calls (C : Ctx) (hP : C.P = Tryd.prog) (hT : Tab C) (e : Int × Int) (x1 x2 x3 x4 : AVal) (H : AHeap) (h : e.1 = 0 ∨ e.1 = 4 ∨ e.1 = 27) :
    FCalls C 27 [.agg [x1, x2, x3, x4], .agg [.int .i64 e.1, .int .i64 e.2, .int .i64 0]] H (fun v H' => v = .tup [.int .i64 (take1 e), .int .i64 (put1 e), .int .i64 0] ∧ H' = H) := effect_straight C hP hT e.1 e.2 x1 x2 x3 x4 H h

def flow2 (H : AHeap) (g1 g2 : List AVal) (l : List (Int × Int)) (k : Nat) (t : Fr) (H' : AHeap) : Prop :=
  (take1 (nth l k) ≤ ht l k ∧ ht l k - take1 (nth l k) + put1 (nth l k) ≤ 256) ∧ flow1 H g1 g2 l k t H'

theorem flow_calls (C : Ctx) (hP : C.P = Tryd.prog) (hT : Tab C) (x1 x2 x3 x4 y0 y1 y2 y3 y4 y5 : AVal) (H : AHeap) (l : List (Int × Int)) (hy : Cs C H y4 l) (h5 : lenV false y5 = some (.int .i64 0)) (hl : l.length ≤ 60000) (k : Nat) (hk : k < l.length) (hg : ∀ i, i < k → goes l i) (ho : okI (nth l k))
    (hend : take1 (nth l k) ≤ ht l k ∧ ht l k - take1 (nth l k) + put1 (nth l k) ≤ 256 → (nth l k).1 = 27) :
    FCalls C 17 [.agg [x1, x2, x3, x4], .agg [y0, y1, y2, y3, y4, y5]] H (fun v H' =>
      if take1 (nth l k) ≤ ht l k ∧ ht l k - take1 (nth l k) + put1 (nth l k) ≤ 256 then v = .tup [.arr H.length l.length, .int .i64 (-1), .bool true] ∧ H' = H ++ [some ⟨intC (seenL l k), 3⟩]
      else v = .tup [.nils, .int .i64 k, .bool false] ∧ H' = H) := by
  refine FCalls.bodyR (hP ▸ v17) (by simp [e17]) fun hw ha => ?_
  generalize hQ : retR _ _ _ = Q
  show FW _ c17 _ _ _
  unfold c17
  refine FW.seq' ?_
  simp (implicitDefEqProofs := false) [e17, boxA, cellsOf]
  refine FW.scope' ?_
  refine FW.seq' ?_
  have hb : l.length * 8 ≤ 140737488355328 := by omega
  have hgx : ∀ ks, renL (keepAt H.length ks) [x1, x2, x3, x4] = [x1, x2, x3, x4] := fun ks => renL_keepAt (by simpa [ltL, AVal.lt] using ha.1)
  have hgy : ∀ ks, renL (keepAt H.length ks) [y0, y1, y2, y3, y4, y5] = [y0, y1, y2, y3, y4, y5] := fun ks => renL_keepAt (by simpa [ltL, AVal.lt] using ha.2.1)
  have hb2 : (l.length : Int) ≤ 140737488355328 := by omega
  have hz : zerosA [AVal.int .i64 0] l.length = intC (fillL l.length 0) := by
    have : ∀ j : Nat, j % 1 = 0 := fun j => by omega
    simp [fillL, intC, zerosA, this]
    apply List.ext_getElem <;> simp
  simp (implicitDefEqProofs := false) [hy.lenV, mksliceE, storeA, setL, cellsOf, hb, hb2, hz]
  refine FW.cut' (flow0 H [x1, x2, x3, x4] [y0, y1, y2, y3, y4, y5] l.length l.length) ?_ ?_
  · simp (implicitDefEqProofs := false)
    refine FW.loop (flow0I H [x1, x2, x3, x4] [y0, y1, y2, y3, y4, y5] l.length) l.length ⟨0, ?_⟩ ?_
    · refine ⟨by simp, by simp, by simp, ⟨by simp, by simp, by simp, ?_⟩, rfl⟩
      simp
    rintro t H' m ⟨i, t31, t32, hi, ⟨t2, t3, t7, rfl⟩, rfl⟩
    refine FWx_sound (FWx.hide fun Q1 hQ1 => ?_)
    by_cases h : i < l.length
    · have h' : (i : Int) < l.length := by omega
      have q1 : i + 1 ≤ (fillL l.length i).length := by rw [fillL_length hi]; omega
      have q2 := intC_set (fillL l.length i) i (-1)
      rw [fillL_succ h] at q2
      simp (implicitDefEqProofs := false) [t2, t3, t7, t31, t32, h', storeA, setL, cellsOf, q1, q2, intC_length]
      rw [hQ1]
      simp (implicitDefEqProofs := false)
      refine ⟨l.length - (i + 1), by omega, i + 1, by simp [t31], ?_, by omega, ⟨by simp [t2], by simp [t3], by simp [t7], rfl⟩, rfl⟩
      simp [wrap_nat (n := i) (by omega)]
    · have h' : ¬ (i : Int) < l.length := by omega
      have e : i = l.length := by omega
      simp (implicitDefEqProofs := false) [t2, t3, t7, t31, t32, h']
      rw [hQ1]
      simp (implicitDefEqProofs := false)
      subst e
      exact ⟨by simp [t2], by simp [t3], by simp [t7], rfl⟩
  rintro t H' ⟨t2, t3, t7, rfl⟩
  have z0 : 0 < l.length := by omega
  have z0' : (0 : Int) < l.length := by omega
  have z1 : 0 + 1 ≤ (fillL l.length l.length).length := by rw [fillL_length (Nat.le_refl _)]; omega
  have z2 : (intC (fillL l.length l.length)).set 0 (.int .i64 0) = intC (seenL l 0) := by
    rw [intC_set]
    congr 1
    apply List.ext_getElem
    · rw [List.length_set, fillL_length (Nat.le_refl _), seenL_length]
    · intro j h1 h2
      rw [List.getElem_set]
      by_cases e : 0 = j
      · subst e; simp [seenL, ht]
      · rw [if_neg e]
        have : ¬ j = 0 := fun h => e h.symm
        simp [seenL, fillL, this]
  have zz : 1 ≤ l.length := by omega
  have z3 : (fillL l.length l.length).length = l.length := fillL_length (Nat.le_refl _)
  refine FW.seq' ?_
  simp (implicitDefEqProofs := false) [t7, z0, z0', z1, zz, z2, z3, storeA, setL, cellsOf, intC_length]
  refine FW.seq' ?_
  simp (implicitDefEqProofs := false) [evalP, fillA, storeA, setL, cellsOf]
  refine FW.seq' ?_
  simp (implicitDefEqProofs := false) [storeA, setL, cellsOf]
  refine FW.seq' ?_
  simp (implicitDefEqProofs := false) [t7]
  refine FW.seq' ?_
  simp (implicitDefEqProofs := false)
  refine FW.cut' (flow2 H [x1, x2, x3, x4] [y0, y1, y2, y3, y4, y5] l k) ?_ ?_
  · simp (implicitDefEqProofs := false)
    refine FW.loopN (flow1I H [x1, x2, x3, x4] [y0, y1, y2, y3, y4, y5] l k) (k + 1) ?_ ?_
    · refine ⟨0, by simp, by omega, fun h => by omega, ⟨by simp [t2], by simp [t3], by simp [t7], by simp, by simp, by simp, ?_⟩, rfl⟩
      simp [FS, workL, intC, seenL_length]
    clear t2 t3 t7 t
    rintro t H' m ⟨i, t12, hi, hgd, ⟨t2, t3, t7, t9, t10, t11, rfl⟩, rfl⟩ hk0 ht0 hn
    refine FWx.hide fun Q1 hQ1 => ?_
    by_cases h : i ≤ k
    · rw [Nat.min_eq_left h] at *
      have w0 : (i : Int) < ((workL i).length : Nat) := by rw [workL_length]; omega
      have w1 : (intC (workL i))[i]? = some (.int .i64 i) := by simp [intC, workL_get (Nat.le_refl i)]
      have s0 : (i : Int) < ((seenL l i).length : Nat) := by rw [seenL_length]; omega
      have s1 : (intC (seenL l i))[i]? = some (.int .i64 (ht l i)) := by
        have : i < (seenL l i).length := by rw [seenL_length]; omega
        rw [intC, List.getElem?_map, List.getElem?_eq_getElem this, seenL_get this, if_pos (Nat.le_refl i)]
        rfl
      obtain ⟨p, p1, _, p2⟩ := hy.idx (i := i) (e := nth l i) (by simp [nth, show i < l.length by omega])
      have q0 := fun L => (p2 L).1
      have q1 := fun L => (p2 L).2.1
      have q2 := fun L => (p2 L).2.2
      have b0 := ht_bd hg i h
      have b1 := take1_bd (nth l i)
      have b2 := put1_bd (nth l i)
      have hoi : okI (nth l i) := by
        rcases Nat.lt_or_eq_of_le h with h2 | rfl
        · exact (hg i h2).1
        · exact ho
      have hop : (nth l i).1 = 0 ∨ (nth l i).1 = 4 ∨ (nth l i).1 = 27 := by
        rcases hoi with ⟨h, _⟩ | ⟨h, _⟩ | ⟨h, _⟩
        · exact .inl h
        · exact .inr (.inl h)
        · exact .inr (.inr h)
      have v1 : IntKind.i64.wrap (ht l i - take1 (nth l i)) = ht l i - take1 (nth l i) := IntWalk.i64_in _ (by omega)
      have v2 : IntKind.i64.wrap (ht l i - take1 (nth l i) + put1 (nth l i)) = ht l i - take1 (nth l i) + put1 (nth l i) := IntWalk.i64_in _ (by omega)
      have v4 : IntKind.i64.wrap ((i : Int) + 1) = ((i + 1 : Nat) : Int) := wrap_nat (by omega)
      simp (implicitDefEqProofs := false) [FS, t2, t3, t7, t9, t10, t11, t12, w0, w1, p1, q0, q1, q2, storeA, setL, cellsOf, scalar]
      refine FWops_callR rfl (by simp) (effect_calls C hP hT (nth l i) x1 x2 x3 x4 _ hop) ?_
      rintro v H' ⟨rfl, rfl⟩
      simp (implicitDefEqProofs := false) [t2, t3, t7, t9, t10, t11, t12, s0, s1, storeA, setL, cellsOf, scalar, v1]
      refine FWops_callR rfl (by simp) (leads_straight C hP (nth l i).1 _ hop) ?_
      rintro v H' ⟨rfl, rfl⟩
      by_cases hgood : take1 (nth l i) ≤ ht l i ∧ ht l i - take1 (nth l i) + put1 (nth l i) ≤ 256
      · have c1 : ¬ ht l i - take1 (nth l i) < 0 := by omega
        have c2 : ¬ 256 < ht l i - take1 (nth l i) + put1 (nth l i) := by omega
        by_cases h27 : (nth l i).1 = 27
        · have hik : i = k := by
            rcases Nat.lt_or_eq_of_le h with h2 | h2
            · exact absurd h27 (hg i h2).2.1
            · exact h2
          simp (implicitDefEqProofs := false) [t2, t3, t7, t9, t10, t11, t12, v1, v2, c1, c2, h27, h5]
          refine FW.loop_exit ?_
          simp (implicitDefEqProofs := false) [t2, t3, t10, h5]
          refine FW.loop_exit ?_
          simp (implicitDefEqProofs := false) [t10, t12, v4]
          rw [hQ1]
          refine loopN_end (H1 := H) [0, 1, 2, 3, 4, 5, 6] (k + 1 - (i + 1)) (by omega) rfl (Nat.le_refl _) (by simp) (by simp) hw ?_
          refine ⟨i + 1, by simp, by omega, fun _ => hik ▸ hgood, ?_, rfl⟩
          rw [Nat.min_eq_right (by omega), ← hik]
          exact ⟨by simp [t2], by simp [t3], by simp [t7], by simp [t9], by simp [t10], by simp [t11], by simp [FS, hgx, hgy, ren_intC]⟩
        · have hik : i < k := by
            rcases Nat.lt_or_eq_of_le h with h2 | h2
            · exact h2
            · subst h2; exact absurd (hend hgood) h27
          obtain ⟨_, _, hlen, _, _⟩ := hg i hik
          have v3 : IntKind.i64.wrap ((l.length : Int) - 1) = (l.length : Int) - 1 := IntWalk.i64_in _ (by omega)
          have c4 : ¬ (i : Int) = (l.length : Int) - 1 := by omega
          simp (implicitDefEqProofs := false) [t2, t3, t7, t9, t10, t11, t12, v1, v2, c1, c2, h27, h5, hy.lenV, v3, c4]
          refine FW.loop_exit ?_
          have hsl : i + 1 < (seenL l i).length := by rw [seenL_length]; exact hlen
          have hsn : (seenL l i)[i + 1] < 0 := by rw [seenL_get, if_neg (by omega)]; omega
          have hwk : 0 < (workL i).length := by rw [workL_length]; omega
          have hwk2 : (workL i).length ≤ 1000000 := by rw [workL_length]; omega
          simp (implicitDefEqProofs := false) [t2, t3, t10, t11, h5, v1, v2, v4]
          refine FWops_callR (caps := [.ptr (.loc (H.length + 6) 0), .ptr (.loc (H.length + 3) 0), .ptr (.loc (H.length + 5) 0)]) (args' := [.int .i64 ((i + 1 : Nat) : Int), .int .i64 (ht l i - take1 (nth l i) + put1 (nth l i)), .ptr (.loc (H.length + 6) 0), .ptr (.loc (H.length + 3) 0), .ptr (.loc (H.length + 5) 0)]) (by simp [t11]) (by simp [v4, v2]) (reach_calls C hP H _ _ _ (seenL l i) (workL i) (i + 1) (ht l i - take1 (nth l i) + put1 (nth l i)) hsl hsn hwk hwk2) ?_
          rintro v H' ⟨y, rfl⟩
          have hss : (seenL l i).set (i + 1) (ht l i - take1 (nth l i) + put1 (nth l i)) = seenL l (i + 1) := seenL_succ l i
          have hww : workL i ++ [((i + 1 : Nat) : Int)] = workL (i + 1) := workL_succ i
          have hwlen : (workL i).length + 1 = (workL (i + 1)).length := by rw [workL_length, workL_length]
          have hsl2 : (seenL l i).length = (seenL l (i + 1)).length := by rw [seenL_length, seenL_length]
          rw [hss, hww, hwlen, hsl2]
          simp (implicitDefEqProofs := false) [t2, t3, t10, h5]
          refine FW.loop_exit ?_
          simp (implicitDefEqProofs := false) [t10, t12, v4]
          rw [hQ1]
          refine loopN_end (H1 := H) [0, 1, 2, 3, 9, 5, 6] (k + 1 - (i + 1)) (by omega) rfl (Nat.le_refl _) (by simp) (by simp) hw ?_
          refine ⟨i + 1, by simp, by omega, fun h => by omega, ?_, rfl⟩
          rw [Nat.min_eq_left (by omega)]
          exact ⟨by simp [t2], by simp [t3], by simp [t7], by simp [t9], by simp [t10], by simp [t11], by simp [FS, hgx, hgy, ren_intC]⟩
      · have hik : i = k := by
          rcases Nat.lt_or_eq_of_le h with h2 | h2
          · exact absurd ⟨(hg i h2).2.2.2.1, (hg i h2).2.2.2.2⟩ hgood
          · exact h2
        subst hik
        simp only [if_neg hgood] at hQ
        by_cases c1 : ht l i - take1 (nth l i) < 0
        · simp (implicitDefEqProofs := false) [t2, t3, t7, t9, t10, t11, t12, v1, v2, c1]
          rw [hQ1]
          simp (implicitDefEqProofs := false) [ng_ret]
          rw [← hQ]
          refine retR_at (H1 := H) [] rfl rfl (by simp) (by simp) hw ?_
          simp [e17]
        · have c2 : 256 < ht l i - take1 (nth l i) + put1 (nth l i) := by omega
          simp (implicitDefEqProofs := false) [t2, t3, t7, t9, t10, t11, t12, v1, v2, c1, c2]
          rw [hQ1]
          simp (implicitDefEqProofs := false) [ng_ret]
          rw [← hQ]
          refine retR_at (H1 := H) [] rfl rfl (by simp) (by simp) hw ?_
          simp [e17]
    · have hik : i = k + 1 := by omega
      rw [Nat.min_eq_right (by omega)] at *
      have w0 : ¬ (i : Int) < ((workL k).length : Nat) := by rw [workL_length]; omega
      simp (implicitDefEqProofs := false) [FS, t2, t3, t7, t9, t10, t11, t12, w0]
      rw [hQ1]
      simp (implicitDefEqProofs := false)
      exact ⟨hgd hik, by simp [t2], by simp [t3], by simp [t7], by simp [t9], by simp [t10], by simp [t11], rfl⟩
  rintro t H' ⟨hgood, t2, t3, t7, t9, t10, t11, rfl⟩
  simp only [if_pos hgood] at hQ
  refine FWx_sound ?_
  simp (implicitDefEqProofs := false) [FS, t7, t10, ng_ret]
  rw [← hQ]
  refine retR_at (H1 := H) [2] rfl rfl (by simp) (by simp) hw ?_
  simp [e17, seenL_length, ren_intC]

end Go.Proofs.YtlghjfmehfochaaDoor
