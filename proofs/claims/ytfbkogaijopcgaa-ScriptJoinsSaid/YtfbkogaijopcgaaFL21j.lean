/-
  OWN WORK (an AI agent). Part L21j of a walk by simplification over abstract heaps.
-/
import Derived.Test.YtfbkogaijopcgaaFL21i
set_option linter.all false
set_option linter.unusedSimpArgs false
set_option linter.unusedVariables false
set_option maxRecDepth 20000
namespace Go.Proofs.Ytfbkogaijopcgaa
open Go.F Go.RowKit

theorem bytesI_pick : bytesI ⟨#[112, 105, 99, 107]⟩ = [112, 105, 99, 107] := rfl
theorem bytesI_ti : bytesI ⟨#[116, 105]⟩ = [116, 105] := rfl
theorem bytesI_er : bytesI ⟨#[101, 114]⟩ = [101, 114] := rfl
theorem bytesI_ck : bytesI ⟨#[99, 107]⟩ = [99, 107] := rfl
theorem bytesI_draw : bytesI ⟨#[100, 114, 97, 119]⟩ = [100, 114, 97, 119] := rfl
theorem bytesI_nl : bytesI ⟨#[10]⟩ = [10] := rfl

/-- behind the word and its numbers: the entry's kind decides -/
structure OneS (H : AHeap) (xb ve vd : AVal) (a : Nat) (oe od : Option ABlk) (st : Nat × Int) (x : Ent) (t : Fr) (H' : AHeap) : Prop where
  t0 : t 0 = .ptr (.loc (H.length + 1) 0)
  t1 : t 1 = .ptr (.loc H.length 0)
  t6 : t 6 = .ptr (.loc (H.length + 4) 0)
  hp : ∃ L, H' = HP H (some ⟨[ve, vd], 27⟩) xb a st (oe :: od :: some ⟨x.c, 40⟩ :: L)

theorem Bs.arr {C : Ctx} {H : AHeap} {id : Nat} (l : List Int) {ty : Nat} (h : hget H id = some ⟨byteC l, ty⟩) : Bs C H (.arr id l.length) l := by
  refine ⟨?_, by simp⟩
  simp only [srcCells]
  rw [ldn_of (l := byteC l) (by rw [byteC_length, Nat.mul_one]) (fun k hk => by simp [ldc, h])]
  rfl

/-- behind a draw -/
structure OneD (H : AHeap) (xb ve : AVal) (a : Nat) (oe : Option ABlk) (D : List Int) (st : Nat × Int) (n : Int) (t : Fr) (H' : AHeap) : Prop where
  t0 : t 0 = .ptr (.loc (H.length + 1) 0)
  t1 : t 1 = .ptr (.loc H.length 0)
  t6 : t 6 = .ptr (.loc (H.length + 4) 0)
  hp : ∃ od2 g1 g2 g3 g4, H' = HP H (some ⟨[ve, .arr (H.length + 9) (D.length + 1)], 27⟩) xb a st [oe, od2, some ⟨[.int .i64 0, .int .i64 0, .int .i64 0, .int .i64 0, .int .i64 0, .int .i64 0], 40⟩, g1, g2, g3, g4, some ⟨intC (D ++ [n]), 3⟩]

def oneMid (H : AHeap) (xb ve vd : AVal) (a : Nat) (oe od : Option ABlk) (D : List Int) (rest : List Int) (t : Fr) (H' : AHeap) : Prop :=
  (∃ st x, st.1 ≤ rest.length ∧ OneS H xb ve vd a oe od st x t H' ∧ oneM rest = (W [10] rest st, if (W [10] rest st).2 = 0 ∧ x.k ≠ 0 then .ent x else .none)) ∨
  (∃ st n, st.1 ≤ rest.length ∧ OneD H xb ve a oe D st n t H' ∧ oneM rest = (W [10] rest st, .draw n))

theorem W_ti {rest : List Int} (h : rest.take 2 = [116, 105]) : W [116, 105] rest (0, 0) = (2, 0) := by
  match rest, h with
  | c :: d :: r, h =>
    simp only [List.take_succ_cons, List.take_zero, List.cons.injEq, and_true] at h
    obtain ⟨rfl, rfl⟩ := h
    simp [W, wantL]

theorem one_calls (C : Ctx) (hP : C.P = Try.prog) {H : AHeap} {xb : AVal} {bs : List Int} (hB : Base C H xb bs) (hw : ∀ i b, hget H i = some b → ltL H.length b.cells) (a : Nat) (ha : a ≤ bs.length)
    {ve vd : AVal} {oe od : Option ABlk} {E : List Ent} {D : List Int} (hE : NewE ve oe (H.length + 2) E) (hD : NewD vd od (H.length + 3) D) (lE : E.length ≤ 10000) (lD : D.length ≤ 10000) :
    FCalls C 13 [.ptr (.loc (H.length + 1) 0), .ptr (.loc H.length 0)] (HP H (some ⟨[ve, vd], 27⟩) xb a (0, 0) [oe, od]) (fun v H' => OneP H xb a E D (oneM (bs.drop a)) H') := by
  refine FCalls.bodyR (hP ▸ v13) (by simp [e13]) fun _ _ => ?_
  generalize hQ : retR _ _ _ = Q
  obtain ⟨x', hx1, hx2, hx3⟩ := hB.b.suf ha
  have okr : okB (bs.drop a) := fun c hc => hB.ok c (List.mem_of_mem_drop hc)
  have hxl : x'.lt H.length := lt_of_idA hx2 (by rw [hx3]; exact idA_lt hB.lt)
  have lE' : lenV false ve = some (.int .i64 E.length) := by
    rcases hE with ⟨rfl, rfl⟩ | ⟨rfl, _⟩ <;> rfl
  have lD' : lenV false vd = some (.int .i64 D.length) := by
    rcases hD with ⟨rfl, rfl⟩ | ⟨rfl, _⟩ <;> rfl
  show FW _ c13 _ _ _
  unfold c13
  refine FW.seq' ?_
  simp (implicitDefEqProofs := false) [e13, HP, rb]
  refine FW.seq' ?_
  simp (implicitDefEqProofs := false)
  have pc : ∀ (L : AHeap) (y : AVal) (m : List Int), Bs C (H ++ L) y m → okB m → FCalls C 16 [x', y] (H ++ L) (fun v H' => v = .bool (decide ((bs.drop a).take m.length = m)) ∧ H' = H ++ L) := fun L y m hy om => prefix_calls C hP x' y _ m _ hx2.app hy okr om
  simp (implicitDefEqProofs := false) [hx1]
  refine FW.seq' ?_
  simp (implicitDefEqProofs := false) [fillA, evalP, cellsOf, setL, storeA]
  have wS := fun (s : Option ABlk) (L : AHeap) (st : Nat × Int) (p : ByteArray) (hp : p.size ≤ 1000) (hst : st.1 ≤ (bs.drop a).length) => wantS C hP hB s L a st p hp ha hst
  have mS := fun (s : Option ABlk) (L : AHeap) (st : Nat × Int) (n f : Int) (hn : n ≠ 65536) (hst : st.1 ≤ (bs.drop a).length) => moreS C hP hB s L a st n f hn ha hst
  have nS := fun (s : Option ABlk) (L : AHeap) (st : Nat × Int) (lo hi : Int) (hst : st.1 ≤ (bs.drop a).length) => numS C hP hB s L a st lo hi ha hst
  have xS := fun (s : Option ABlk) (L : AHeap) (st : Nat × Int) (lo hi : Int) (hst : st.1 ≤ (bs.drop a).length) => nextS C hP hB s L a st lo hi ha hst
  have wl := fun (p : List Int) (st : Nat × Int) (h : st.1 ≤ (bs.drop a).length) => W_le (p := p) h
  have nl := fun (lo hi : Int) (st : Nat × Int) (h : st.1 ≤ (bs.drop a).length) => N_le (lo := lo) (hi := hi) h
  have gd : ∀ st : Nat × Int, st.1 ≤ (bs.drop a).length → ((bs.drop a).drop st.1).head? = bs[a + st.1]? := fun st _ => by rw [List.drop_drop, List.head?_drop]
  have lend : (bs.drop a).length = bs.length - a := by simp
  have nE : ((E.length : Nat) : Int) ≠ 65536 := by omega
  have nD : ((D.length : Nat) : Int) ≠ 65536 := by omega
  generalize hrest : bs.drop a = rest at *
  refine FW.cut' (oneMid H xb ve vd a oe od D rest) ?_ ?_
  · simp (implicitDefEqProofs := false) [fillA, evalP, cellsOf, setL]
    refine FWops_callR rfl (by simp) (pc _ (.arr (H.length + 5) 1) [112] (Bs.arr [112] (ty := 5) (by simp [byteC])) (by intro c hc; simp at hc; omega)) ?_
    rintro v H' ⟨rfl, rfl⟩
    by_cases c1 : rest.take 1 = [112]
    · simp (implicitDefEqProofs := false) [c1]
      refine FWops_callR rfl (by simp) (wS _ _ (0, 0) ⟨#[112, 105, 99, 107]⟩ (by decide) (Nat.zero_le _)) ?_
      rintro v H' rfl
      rw [bytesI_pick]
      obtain ⟨s1, hs1⟩ : ∃ s1, s1 = W [112, 105, 99, 107] rest (0, 0) := ⟨_, rfl⟩
      have b1 : s1.1 ≤ rest.length := by rw [hs1]; exact wl _ _ (Nat.zero_le _)
      rw [← hs1]
      simp (implicitDefEqProofs := false) [HP, rb, lE']
      refine FWops_callR rfl (by simp) (mS _ _ s1 _ (a : Int) nE b1) ?_
      rintro v H' rfl
      obtain ⟨s2, hs2⟩ : ∃ s2, s2 = W [32] rest s1 := ⟨_, rfl⟩
      have b2 : s2.1 ≤ rest.length := by rw [hs2]; exact wl _ _ b1
      rw [← hs2]
      simp (implicitDefEqProofs := false) [HP, rb]
      refine FWops_callR rfl (by simp) (nS _ _ s2 0 2305843009213693951 b2) ?_
      rintro v H' ⟨rfl, rfl⟩
      obtain ⟨n1, hn1⟩ : ∃ n1, n1 = N 0 2305843009213693951 rest s2 := ⟨_, rfl⟩
      have b3 : n1.1.1 ≤ rest.length := by rw [hn1]; exact nl _ _ _ b2
      rw [← hn1]
      simp (implicitDefEqProofs := false) [HP, rb, evalP, fillA, cellsOf, setL, storeA]
      refine FWops_callR rfl (by simp) (xS _ _ n1.1 1 64 b3) ?_
      rintro v H' ⟨rfl, rfl⟩
      obtain ⟨n2, hn2⟩ : ∃ n2, n2 = N 1 64 rest (W [32] rest n1.1) := ⟨_, rfl⟩
      have b4 : n2.1.1 ≤ rest.length := by rw [hn2]; exact nl _ _ _ (wl _ _ b3)
      rw [← hn2]
      simp (implicitDefEqProofs := false) [HP, rb, cellsOf, setL, storeA]
      refine .inl ⟨n2.1, ⟨1, n1.2, n2.2, 0, 0, 0⟩, b4, ⟨by simp, by simp, by simp, _, rfl⟩, ?_⟩
      unfold oneM
      rw [if_pos c1]
      simp only [maxI, ← hs1, ← hs2, ← hn1, ← hn2]
      simp
    · simp (implicitDefEqProofs := false) [c1, evalP, fillA, cellsOf, setL]
      refine FWops_callR rfl (by simp) (pc _ (.arr (H.length + 6) 2) [116, 105] (Bs.arr [116, 105] (ty := 5) (by simp [byteC])) (by intro c hc; simp at hc; omega)) ?_
      rintro v H' ⟨rfl, rfl⟩
      by_cases c2 : rest.take 2 = [116, 105]
      · simp (implicitDefEqProofs := false) [c2]
        refine FWops_callR rfl (by simp) (wS _ _ (0, 0) ⟨#[116, 105]⟩ (by decide) (Nat.zero_le _)) ?_
        rintro v H' rfl
        have e2 := W_ti c2
        have b1 : (2, (0 : Int)).1 ≤ rest.length := by
          have := congrArg List.length c2
          simp at this ⊢; omega
        rw [bytesI_ti, e2]
        have hlen : bs.length = a + rest.length := by omega
        by_cases c3 : (rest.drop 2).head? = some 101
        · have hb3 : bs[a + 2]? = some 101 := by rw [← gd (2, 0) b1]; exact c3
          have h3 : ((a : Int) + 2 < bs.length) := by
            have := (List.getElem?_eq_some_iff.1 hb3).1
            omega
          obtain ⟨p, p1, _, p2⟩ := hB.b.sl.idx hB.b.ns (List.getElem?_eq_some_iff.1 hb3).1
          have p3 : ∀ L, ldc C (H ++ L) p 0 = some (.int .u8 101) := fun L => by rw [p2 L 0 (by omega)]; simp [byteC, hb3]
          have p1 : iaddrO 1 xb (.int .i64 ((a : Int) + 2)) = some (.ptr p) := p1
          simp (implicitDefEqProofs := false) [HP, rb, hB.b.lenV, h3, p1, p3]
          refine FWops_callR rfl (by simp) (wS _ _ (2, 0) ⟨#[101, 114]⟩ (by decide) b1) ?_
          rintro v H' rfl
          rw [bytesI_er]
          obtain ⟨s1, hs1⟩ : ∃ s1, s1 = W [101, 114] rest (2, 0) := ⟨_, rfl⟩
          have b2 : s1.1 ≤ rest.length := by rw [hs1]; exact wl _ _ b1
          rw [← hs1]
          simp (implicitDefEqProofs := false) [HP, rb, lE']
          refine FWops_callR rfl (by simp) (mS _ _ s1 _ (a : Int) nE b2) ?_
          rintro v H' rfl
          obtain ⟨s2, hs2⟩ : ∃ s2, s2 = W [32] rest s1 := ⟨_, rfl⟩
          have b3 : s2.1 ≤ rest.length := by rw [hs2]; exact wl _ _ b2
          rw [← hs2]
          simp (implicitDefEqProofs := false) [HP, rb]
          refine FWops_callR rfl (by simp) (nS _ _ s2 0 1023 b3) ?_
          rintro v H' ⟨rfl, rfl⟩
          obtain ⟨n1, hn1⟩ : ∃ n1, n1 = N 0 1023 rest s2 := ⟨_, rfl⟩
          have b4 : n1.1.1 ≤ rest.length := by rw [hn1]; exact nl _ _ _ b3
          rw [← hn1]
          simp (implicitDefEqProofs := false) [HP, rb, evalP, fillA, cellsOf, setL, storeA]
          refine FWops_callR rfl (by simp) (xS _ _ n1.1 0 1 b4) ?_
          rintro v H' ⟨rfl, rfl⟩
          obtain ⟨n2, hn2⟩ : ∃ n2, n2 = N 0 1 rest (W [32] rest n1.1) := ⟨_, rfl⟩
          have b5 : n2.1.1 ≤ rest.length := by rw [hn2]; exact nl _ _ _ (wl _ _ b4)
          rw [← hn2]
          simp (implicitDefEqProofs := false) [HP, rb, cellsOf, setL, storeA]
          refine FWops_callR rfl (by simp) (xS _ _ n2.1 0 1 b5) ?_
          rintro v H' ⟨rfl, rfl⟩
          obtain ⟨n3, hn3⟩ : ∃ n3, n3 = N 0 1 rest (W [32] rest n2.1) := ⟨_, rfl⟩
          have b6 : n3.1.1 ≤ rest.length := by rw [hn3]; exact nl _ _ _ (wl _ _ b5)
          rw [← hn3]
          simp (implicitDefEqProofs := false) [HP, rb, cellsOf, setL, storeA]
          refine FWops_callR rfl (by simp) (xS _ _ n3.1 0 4 b6) ?_
          rintro v H' ⟨rfl, rfl⟩
          obtain ⟨n4, hn4⟩ : ∃ n4, n4 = N 0 4 rest (W [32] rest n3.1) := ⟨_, rfl⟩
          have b7 : n4.1.1 ≤ rest.length := by rw [hn4]; exact nl _ _ _ (wl _ _ b6)
          rw [← hn4]
          simp (implicitDefEqProofs := false) [HP, rb, cellsOf, setL, storeA]
          refine .inl ⟨n4.1, ⟨3, n1.2, 0, n2.2, n3.2, n4.2⟩, b7, ⟨by simp, by simp, by simp, _, rfl⟩, ?_⟩
          unfold oneM
          rw [if_neg c1, if_pos c2]
          simp only [e2]
          rw [if_pos c3]
          simp only [← hs1, ← hs2, ← hn1, ← hn2, ← hn3, ← hn4]
          simp
        · by_cases h3 : (a : Int) + 2 < bs.length
          · have h3n : a + 2 < bs.length := by omega
            obtain ⟨p, p1, _, p2⟩ := hB.b.sl.idx hB.b.ns h3n
            have hc : ¬ bs[a + 2] = 101 := fun e => c3 (by rw [gd (2, 0) b1]; simp [h3n, e])
            have p3 : ∀ L, ldc C (H ++ L) p 0 = some (.int .u8 bs[a + 2]) := fun L => by rw [p2 L 0 (by omega)]; simp [byteC, h3n]
            have p1 : iaddrO 1 xb (.int .i64 ((a : Int) + 2)) = some (.ptr p) := p1
            simp (implicitDefEqProofs := false) [HP, rb, hB.b.lenV, h3, p1, p3, hc]
            refine FWops_callR rfl (by simp) (wS _ _ (2, 0) ⟨#[99, 107]⟩ (by decide) b1) ?_
            rintro v H' rfl
            rw [bytesI_ck]
            obtain ⟨s1, hs1⟩ : ∃ s1, s1 = W [99, 107] rest (2, 0) := ⟨_, rfl⟩
            have b2 : s1.1 ≤ rest.length := by rw [hs1]; exact wl _ _ b1
            rw [← hs1]
            simp (implicitDefEqProofs := false) [HP, rb, lE']
            refine FWops_callR rfl (by simp) (mS _ _ s1 _ (a : Int) nE b2) ?_
            rintro v H' rfl
            obtain ⟨s2, hs2⟩ : ∃ s2, s2 = W [32] rest s1 := ⟨_, rfl⟩
            have b3 : s2.1 ≤ rest.length := by rw [hs2]; exact wl _ _ b2
            rw [← hs2]
            simp (implicitDefEqProofs := false) [HP, rb]
            refine FWops_callR rfl (by simp) (nS _ _ s2 0 1048576 b3) ?_
            rintro v H' ⟨rfl, rfl⟩
            obtain ⟨n1, hn1⟩ : ∃ n1, n1 = N 0 1048576 rest s2 := ⟨_, rfl⟩
            have b4 : n1.1.1 ≤ rest.length := by rw [hn1]; exact nl _ _ _ b3
            rw [← hn1]
            simp (implicitDefEqProofs := false) [HP, rb, evalP, fillA, cellsOf, setL, storeA]
            refine .inl ⟨n1.1, ⟨2, n1.2, 0, 0, 0, 0⟩, b4, ⟨by simp, by simp, by simp, _, rfl⟩, ?_⟩
            unfold oneM
            rw [if_neg c1, if_pos c2]
            simp only [e2]
            rw [if_neg c3]
            simp only [← hs1, ← hs2, ← hn1]
            simp
          · simp (implicitDefEqProofs := false) [HP, rb, hB.b.lenV, h3]
            refine FWops_callR rfl (by simp) (wS _ _ (2, 0) ⟨#[99, 107]⟩ (by decide) b1) ?_
            rintro v H' rfl
            rw [bytesI_ck]
            obtain ⟨s1, hs1⟩ : ∃ s1, s1 = W [99, 107] rest (2, 0) := ⟨_, rfl⟩
            have b2 : s1.1 ≤ rest.length := by rw [hs1]; exact wl _ _ b1
            rw [← hs1]
            simp (implicitDefEqProofs := false) [HP, rb, lE']
            refine FWops_callR rfl (by simp) (mS _ _ s1 _ (a : Int) nE b2) ?_
            rintro v H' rfl
            obtain ⟨s2, hs2⟩ : ∃ s2, s2 = W [32] rest s1 := ⟨_, rfl⟩
            have b3 : s2.1 ≤ rest.length := by rw [hs2]; exact wl _ _ b2
            rw [← hs2]
            simp (implicitDefEqProofs := false) [HP, rb]
            refine FWops_callR rfl (by simp) (nS _ _ s2 0 1048576 b3) ?_
            rintro v H' ⟨rfl, rfl⟩
            obtain ⟨n1, hn1⟩ : ∃ n1, n1 = N 0 1048576 rest s2 := ⟨_, rfl⟩
            have b4 : n1.1.1 ≤ rest.length := by rw [hn1]; exact nl _ _ _ b3
            rw [← hn1]
            simp (implicitDefEqProofs := false) [HP, rb, evalP, fillA, cellsOf, setL, storeA]
            refine .inl ⟨n1.1, ⟨2, n1.2, 0, 0, 0, 0⟩, b4, ⟨by simp, by simp, by simp, _, rfl⟩, ?_⟩
            unfold oneM
            rw [if_neg c1, if_pos c2]
            simp only [e2]
            rw [if_neg c3]
            simp only [← hs1, ← hs2, ← hn1]
            simp
      · simp (implicitDefEqProofs := false) [c2, evalP, fillA, cellsOf, setL]
        refine FWops_callR rfl (by simp) (pc _ (.arr (H.length + 7) 1) [116] (Bs.arr [116] (ty := 5) (by simp [byteC])) (by intro c hc; simp at hc; omega)) ?_
        rintro v H' ⟨rfl, rfl⟩
        by_cases c3 : rest.take 1 = [116]
        · simp (implicitDefEqProofs := false) [c3]
          refine FWops_callR rfl (by simp) (wS _ _ (0, 0) ⟨#[116, 105]⟩ (by decide) (Nat.zero_le _)) ?_
          rintro v H' rfl
          rw [bytesI_ti]
          simp (implicitDefEqProofs := false)
          refine .inl ⟨W [116, 105] rest (0, 0), ⟨0, 0, 0, 0, 0, 0⟩, wl _ _ (Nat.zero_le _), ⟨by simp, by simp, by simp, _, rfl⟩, ?_⟩
          unfold oneM
          rw [if_neg c1, if_neg c2, if_pos c3]
          simp
        · simp (implicitDefEqProofs := false) [c3]
          refine FWops_callR rfl (by simp) (wS _ _ (0, 0) ⟨#[100, 114, 97, 119]⟩ (by decide) (Nat.zero_le _)) ?_
          rintro v H' rfl
          rw [bytesI_draw]
          obtain ⟨s1, hs1⟩ : ∃ s1, s1 = W [100, 114, 97, 119] rest (0, 0) := ⟨_, rfl⟩
          have b1 : s1.1 ≤ rest.length := by rw [hs1]; exact wl _ _ (Nat.zero_le _)
          rw [← hs1]
          simp (implicitDefEqProofs := false) [HP, rb, lD']
          refine FWops_callR rfl (by simp) (mS _ _ s1 _ (a : Int) nD b1) ?_
          rintro v H' rfl
          obtain ⟨s2, hs2⟩ : ∃ s2, s2 = W [32] rest s1 := ⟨_, rfl⟩
          have b2 : s2.1 ≤ rest.length := by rw [hs2]; exact wl _ _ b1
          rw [← hs2]
          simp (implicitDefEqProofs := false) [HP, rb]
          refine FWops_callR rfl (by simp) (nS _ _ s2 (-2305843009213693952) 2305843009213693951 b2) ?_
          rintro v H' ⟨rfl, rfl⟩
          obtain ⟨n1, hn1⟩ : ∃ n1, n1 = N (-2305843009213693952) 2305843009213693951 rest s2 := ⟨_, rfl⟩
          have b3 : n1.1.1 ≤ rest.length := by rw [hn1]; exact nl _ _ _ b2
          rw [← hn1]
          have hone : oneM rest = (W [10] rest n1.1, if n1.1.2 = 0 then .draw n1.2 else .none) := by
            unfold oneM
            rw [if_neg c1, if_neg c2, if_neg c3]
            simp only [maxI, ← hs1, ← hs2, ← hn1]
          by_cases c4 : n1.1.2 = 0
          · rw [if_pos c4] at hone
            rcases hD with ⟨rfl, rfl⟩ | ⟨rfl, rfl⟩
            · simp (implicitDefEqProofs := false) [HP, rb, c4, evalP, fillA, cellsOf, setL, storeA, appendE, srcCells]
              refine .inr ⟨n1.1, n1.2, b3, ⟨by simp, by simp, by simp, od, some ⟨[.int .u8 112], 5⟩, some ⟨[.int .u8 116, .int .u8 105], 5⟩, some ⟨[.int .u8 116], 5⟩, some ⟨[.int .i64 n1.2], 3⟩, ?_⟩, hone⟩
              simp [HP, rb, c4, intC]
            · have hby : (D.length + 1) * 8 ≤ 140737488355328 := by omega
              have hng : ¬ D.length + 1 ≤ D.length := by omega
              have htk : List.take D.length (intC D) = intC D := by rw [← intC_length D, List.take_length]
              simp (implicitDefEqProofs := false) [HP, rb, c4, evalP, fillA, cellsOf, setL, storeA, appendE, srcCells, hby, hng, htk]
              refine .inr ⟨n1.1, n1.2, b3, ⟨by simp, by simp, by simp, none, some ⟨[.int .u8 112], 5⟩, some ⟨[.int .u8 116, .int .u8 105], 5⟩, some ⟨[.int .u8 116], 5⟩, some ⟨[.int .i64 n1.2], 3⟩, ?_⟩, hone⟩
              simp [HP, rb, c4, intC]
          · rw [if_neg c4] at hone
            simp (implicitDefEqProofs := false) [HP, rb, c4]
            refine .inl ⟨n1.1, ⟨0, 0, 0, 0, 0, 0⟩, b3, ⟨by simp, by simp, by simp, _, rfl⟩, ?_⟩
            rw [hone]
            simp
  clear hx1 hx2 hx3 okr hxl pc
  have ren0 : ∀ ks, renV (keepAt H.length ks) xb = xb := fun ks => renV_keepAt hB.lt
  rintro t H' (⟨st, x, hst, ⟨t0, t1, t6, L, rfl⟩, hone⟩ | ⟨st, n, hst, ⟨t0, t1, t6, od2, g1, g2, g3, g4, rfl⟩, hone⟩)
  · refine FW.seq' ?_
    simp (implicitDefEqProofs := false) [t0]
    refine FWops_callR rfl (by simp) (wS _ _ st ⟨#[10]⟩ (by decide) hst) ?_
    rintro v H' rfl
    rw [bytesI_nl]
    obtain ⟨s4, hs4⟩ : ∃ s4, s4 = W [10] rest st := ⟨_, rfl⟩
    rw [← hs4] at hone ⊢
    refine FWx_sound ?_
    have iv : ∀ k, ([0, 1, 2, 3, k] : List Nat).idxOf? 2 = some 2 ∧ ([0, 1, 2, 3, k] : List Nat).idxOf? 3 = some 3 := fun k => ⟨by simp, by simp⟩
    have same : (oneM rest) = (s4, .none) → ∀ t', retR ⟨C, 167, H.length + 4⟩ [] (fun v H' => OneP H xb a E D (oneM rest) H') .normal t' (H ++ some ⟨[ve, vd], 27⟩ :: some (rb xb ((a : Int) + s4.1) s4.2) :: oe :: od :: some ⟨x.c, 40⟩ :: L) := by
      intro ho t'
      refine retR_at2 (H1 := H) (.inr rfl) 4 [0, 1, 2, 3] rfl rfl (by intro i hi; match i, hi with | 0, _ => rfl | 1, _ => rfl | 2, _ => rfl | 3, _ => rfl) (by simp) (by simp) hw ⟨_, rfl, .inl ?_⟩
      rw [ho]
      exact ⟨rfl, _, _, _, _, by simp [HP, rb, ren0]; exact ⟨⟨rfl, rfl⟩, rfl, rfl⟩, hE.ren (by simp), hD.ren (by simp)⟩
    by_cases h4 : s4.2 = 0 ∧ x.k ≠ 0
    · rw [if_pos h4] at hone
      obtain ⟨h4, h5⟩ := h4
      rcases hE with ⟨rfl, rfl⟩ | ⟨rfl, rfl⟩
      · simp (implicitDefEqProofs := false) [t0, t1, t6, HP, rb, h4, h5, Ent.c, evalP, fillA, cellsOf, setL, storeA, appendE, srcCells]
        rw [← hQ]
        refine retR_at2 (H1 := H) (.inr rfl) 4 [0, 1, 2, 3, L.length + 6] rfl (by simp [HP]) (by intro i hi; match i, hi with | 0, _ => rfl | 1, _ => rfl | 2, _ => rfl | 3, _ => rfl) (by simp) (by simp) hw ⟨_, rfl, .inr (.inl ?_)⟩
        rw [hone]
        exact ⟨x, _, _, _, rfl, by simp [HP, rb, ren0, h4, entC, Ent.c]; exact ⟨rfl, rfl, rfl⟩, hD.ren (iv _).2⟩
      · have hby : (E.length + 1) * 48 ≤ 140737488355328 := by omega
        have hng : ¬ (E.length + 1) * 6 ≤ E.length * 6 := by omega
        have htk : List.take (E.length * 6) (entC E) = entC E := by rw [← entC_length E, List.take_length]
        simp (implicitDefEqProofs := false) [t0, t1, t6, HP, rb, h4, h5, Ent.c, evalP, fillA, cellsOf, setL, storeA, appendE, srcCells, hby, hng, htk]
        rw [← hQ]
        refine retR_at2 (H1 := H) (.inr rfl) 4 [0, 1, 2, 3, L.length + 6] rfl (by simp [HP]) (by intro i hi; match i, hi with | 0, _ => rfl | 1, _ => rfl | 2, _ => rfl | 3, _ => rfl) (by simp) (by simp) hw ⟨_, rfl, .inr (.inl ?_)⟩
        rw [hone]
        exact ⟨x, _, _, _, rfl, by simp [HP, rb, ren0, h4, entC_append, entC_one, Ent.c, ren_append]; exact ⟨rfl, rfl, rfl⟩, hD.ren (iv _).2⟩
    · rw [if_neg h4] at hone
      by_cases h6 : s4.2 = 0
      · have h5 : x.k = 0 := Classical.byContradiction fun h => h4 ⟨h6, h⟩
        simp (implicitDefEqProofs := false) [t0, t1, t6, HP, rb, h6, h5, Ent.c]
        rw [← hQ]
        have := same hone
        simp only [HP, rb, h6, h5, Ent.c] at this
        simpa [e13, HP] using this _
      · simp (implicitDefEqProofs := false) [t0, t1, t6, HP, rb, h6, Ent.c]
        rw [← hQ]
        have := same hone
        simp only [HP, rb, Ent.c] at this
        simpa [e13, HP] using this _
  · refine FW.seq' ?_
    simp (implicitDefEqProofs := false) [t0]
    refine FWops_callR rfl (by simp) (wS _ _ st ⟨#[10]⟩ (by decide) hst) ?_
    rintro v H' rfl
    rw [bytesI_nl]
    obtain ⟨s4, hs4⟩ : ∃ s4, s4 = W [10] rest st := ⟨_, rfl⟩
    rw [← hs4] at hone ⊢
    refine FWx_sound ?_
    by_cases h4 : s4.2 = 0
    · simp (implicitDefEqProofs := false) [t0, t1, t6, HP, rb, h4]
      rw [← hQ]
      refine retR_at2 (H1 := H) (.inr rfl) 4 [0, 1, 2, 3, 9] rfl (by simp [HP]) (by intro i hi; match i, hi with | 0, _ => rfl | 1, _ => rfl | 2, _ => rfl | 3, _ => rfl) (by simp) (by simp) hw ⟨_, rfl, .inr (.inr ?_)⟩
      rw [hone]
      exact ⟨n, _, _, _, rfl, by simp [HP, rb, ren0, h4]; exact ⟨rfl, rfl, rfl⟩, hE.ren (by simp)⟩
    · simp (implicitDefEqProofs := false) [t0, t1, t6, HP, rb, h4]
      rw [← hQ]
      refine retR_at2 (H1 := H) (.inr rfl) 4 [0, 1, 2, 3, 9] rfl (by simp [HP]) (by intro i hi; match i, hi with | 0, _ => rfl | 1, _ => rfl | 2, _ => rfl | 3, _ => rfl) (by simp) (by simp) hw ⟨_, rfl, .inr (.inr ?_)⟩
      rw [hone]
      exact ⟨n, _, _, _, rfl, by simp [HP, rb, ren0]; exact ⟨rfl, rfl, rfl⟩, hE.ren (by simp)⟩

end Go.Proofs.Ytfbkogaijopcgaa
